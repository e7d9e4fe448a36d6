/- Helpers of the laws: sizes, copies, comparisons of whole numbers and of pairs. -/
import Derived.Test.YtkjbjgndinjdpaaTab
set_option linter.unusedVariables false
set_option linter.unusedSimpArgs false
namespace Go.Proofs.Ytkjbjgndinjdpaa
open Go
set_option maxRecDepth 100000

structure Pair where
  name : Str
  value : Int
deriving DecidableEq
def eI (n : Int) : List C := [.int .i64 n]
def eP (p : Pair) : List C := [.str p.name, .int .i64 p.value]

theorem wrap64 {n : Int} (h0 : -9223372036854775808 ≤ n) (h1 : n ≤ 9223372036854775807) : IntKind.i64.wrap n = n := by
  simp only [IntKind.wrap, IntKind.bits, IntKind.signed]
  simp
  split <;> omega
theorem map_at {α : Type} {xs : List α} {enc : α → List C} {i : Nat} {x : α} (h : xs[i]? = some x) : (xs.map enc)[i]? = some (enc x) := by simp [h]
theorem at_some {α : Type} {xs : List α} {i : Nat} (h : i < xs.length) : ∃ x, xs[i]? = some x := ⟨xs[i], by simp [h]⟩
theorem drop_at {α : Type} {xs : List α} {i : Nat} {x : α} (h : xs[i]? = some x) : xs.drop i = x :: xs.drop (i + 1) := by
  have hlt : i < xs.length := lt_of_some h
  rw [List.drop_eq_getElem_cons hlt]; congr 1
  rw [List.getElem?_eq_getElem hlt] at h; simpa using h

/-! ### sizes -/
def szLen (n : Nat) (k : Int) : Int := if k - n < 0 then -1 else k - n

theorem szIntS_ct (xs : List Int) (k : Int) (hk : 0 ≤ k) (hk' : k ≤ 1048576) (hl : xs.length ≤ 9223372036854775807) :
    ACalls pk 57 [.one (.fs (xs.map eI)), .one (.int .i64 k)] [] (fun r o => r = .one (.int .i64 (szLen xs.length k)) ∧ o = []) := by
  refine acalls_of_body Try.func57 rfl (by kernel_rfl) rfl ?_
  refine rn rfl ?_
  have hw := wrap64 (n := k - xs.length) (by omega) (by omega)
  refine goal_cond rfl (fun h => ?_) (fun h => ?_) <;> simp only [decide_eq_true_eq, decide_eq_false_iff_not, List.length_map, hw] at h
  · refine rn rfl (fin_is [] rfl ⟨?_, rfl⟩)
    simp only [szLen, h, if_true]
  · refine rn rfl (fin_is [] rfl ⟨?_, rfl⟩)
    simp only [szLen, h, if_false, hw, List.length_map]

theorem szPair_ct (p : Pair) (k : Int) (hk : 0 ≤ k) (hk' : k ≤ 1048576) (hl : p.name.length ≤ 9223372036854775807) :
    ACalls pk 105 [.agg (eP p), .one (.int .i64 k)] [] (fun r o => r = .one (.int .i64 (szLen p.name.length k)) ∧ o = []) := by
  refine acalls_of_body Try.func105 rfl (by kernel_rfl) rfl ?_
  refine rn rfl ?_
  have hw := wrap64 (n := k - p.name.length) (by omega) (by omega)
  refine goal_cond rfl (fun h => ?_) (fun h => ?_) <;> simp only [decide_eq_true_eq, decide_eq_false_iff_not, hw] at h
  · refine rn rfl (fin_is [] rfl ⟨?_, rfl⟩)
    simp only [szLen, h, if_true]
  · refine rn rfl (fin_is [] rfl ⟨?_, rfl⟩)
    simp only [szLen, h, if_false, hw]

def szAll : List Pair → Int → Int
  | [], k => k
  | p :: ps, k => if szLen p.name.length k < 0 then -1 else szAll ps (szLen p.name.length k)
def szPairS (ps : List Pair) (k : Int) : Int := if szLen ps.length k < 0 then -1 else szAll ps (szLen ps.length k)

theorem szLen_le (n : Nat) (k : Int) (h : 0 ≤ k) : szLen n k ≤ k := by unfold szLen; split <;> omega

theorem szPairS_ct (ps : List Pair) (k : Int) (hk : 0 ≤ k) (hk' : k ≤ 1048576) (hl : ps.length ≤ 9223372036854775807) (hn : ∀ p ∈ ps, p.name.length ≤ 9223372036854775807) :
    ACalls pk 58 [.one (.fs (ps.map eP)), .one (.int .i64 k)] [] (fun r o => r = .one (.int .i64 (szPairS ps k)) ∧ o = []) := by
  refine acalls_of_body Try.func58 rfl (by kernel_rfl) rfl ?_
  refine rn rfl ?_
  have hw := wrap64 (n := k - ps.length) (by omega) (by omega)
  refine goal_cond rfl (fun h => ?_) (fun h => ?_) <;> simp only [decide_eq_true_eq, decide_eq_false_iff_not, List.length_map, hw] at h
  · refine rn rfl (fin_is [] rfl ⟨?_, rfl⟩)
    simp [szPairS, szLen, h]
  · refine rn rfl ?_
    have hs : szLen ps.length k = k - ps.length := by simp only [szLen, h, if_false]
    refine goal_loop_keep (fun m σ => ∃ (n q : Int) (i : Nat), n = i ∧ i ≤ ps.length ∧ m = ps.length - i ∧ 0 ≤ q ∧ q ≤ 1048576 ∧ szPairS ps k = szAll (ps.drop i) q ∧
        σ = ⟨[(5, .one (.int .i64 n)), (1, .one (.int .i64 q)), (0, .one (.fs (ps.map eP)))], [], []⟩) ps.length [5, 1, 0] [] rfl
      ⟨_, _, 0, rfl, by omega, by omega, ?_, ?_, ?_, rfl⟩ ?_
    · rw [List.length_map, hw]; omega
    · rw [List.length_map, hw]; omega
    · rw [List.length_map, hw, szPairS, if_neg (by omega), hs]; rfl
    rintro m σ ⟨n, q, i, rfl, hi, rfl, hq, hq', hidx, rfl⟩
    refine rn rfl ?_
    refine goal_cond rfl (fun h => ?_) (fun h => ?_) <;> simp only [decide_eq_true_eq, decide_eq_false_iff_not, List.length_map] at h
    · have hlt : i < ps.length := by omega
      obtain ⟨p, hp⟩ := at_some hlt
      have hpm := hn p (List.mem_of_getElem? hp)
      refine rn rfl ?_
      refine goal_did rfl rfl (dA_index (eP p) rfl rfl rfl rfl rfl rfl rfl (by omega) (by simp; omega) (map_at (by simpa using hp)) rfl) ?_
      refine rn rfl ?_
      refine goal_step (step_call [] rfl rfl rfl rfl rfl rfl (szPair_ct p q hq hq' hpm)) ?_
      rintro σ2 ⟨r, o', ⟨rfl, rfl⟩, hσ⟩
      obtain rfl := Option.some.inj hσ
      refine rn rfl ?_
      refine goal_cond rfl (fun h2 => ?_) (fun h2 => ?_) <;> simp only [decide_eq_true_eq, decide_eq_false_iff_not] at h2
      · refine rn rfl ?_
        refine round_ret (fin_is [] rfl ⟨?_, rfl⟩)
        rw [hidx, drop_at hp]
        simp only [szAll, h2, if_true]
      · refine rn rfl ?_
        refine round_keep (ps.length - (i + 1)) [5, 1, 0] [] (by omega) rfl ⟨_, _, i + 1, ?_, by omega, rfl, by omega, ?_, ?_, rfl⟩
        · exact wrap64 (by omega) (by omega)
        · have := szLen_le p.name.length q hq; omega
        · rw [hidx, drop_at hp]
          simp only [szAll, h2, if_false]
    · refine rn rfl ?_
      refine round_ext ?_
      refine rn rfl (fin_is [] rfl ⟨?_, rfl⟩)
      rw [hidx, List.drop_eq_nil_of_le (by omega)]
      rfl

structure Flat where
  places : List Int
  named : List Pair
deriving DecidableEq
def eF (f : Flat) : List C := [.fs (f.places.map eI), .fs (f.named.map eP)]

/-- What all lengths of the program fit into. -/
def Mx : Nat := 9223372036854775807
def szFlat (f : Flat) (k : Int) : Int := if szLen f.places.length k < 0 then -1 else if szPairS f.named (szLen f.places.length k) < 0 then -1 else szPairS f.named (szLen f.places.length k)
structure Fits (f : Flat) : Prop where
  places : f.places.length ≤ 9223372036854775807
  named : f.named.length ≤ 9223372036854775807
  names : ∀ p ∈ f.named, p.name.length ≤ 9223372036854775807

theorem szFlat_ct (f : Flat) (k : Int) (hk : 0 ≤ k) (hk' : k ≤ 1048576) (hf : Fits f) :
    ACalls pk 19 [.agg (eF f), .one (.int .i64 k)] [] (fun r o => r = .one (.int .i64 (szFlat f k)) ∧ o = []) := by
  refine acalls_of_body Try.func19 rfl (by kernel_rfl) rfl ?_
  refine rn rfl ?_
  refine goal_step (step_call [] rfl rfl rfl rfl rfl rfl (szIntS_ct f.places k hk hk' hf.places)) ?_
  rintro σ2 ⟨r, o', ⟨rfl, rfl⟩, hσ⟩
  obtain rfl := Option.some.inj hσ
  refine rn rfl ?_
  have hle := szLen_le f.places.length k hk
  refine goal_cond rfl (fun h => ?_) (fun h => ?_) <;> simp only [decide_eq_true_eq, decide_eq_false_iff_not, List.length_map] at h
  · refine rn rfl (fin_is [] rfl ⟨?_, rfl⟩)
    simp only [szFlat, h, if_true]
  · refine rn rfl ?_
    refine goal_step (step_call [] rfl rfl rfl rfl rfl rfl (szPairS_ct f.named (szLen f.places.length k) (by omega) (by omega) hf.named hf.names)) ?_
    rintro σ2 ⟨r, o', ⟨rfl, rfl⟩, hσ⟩
    obtain rfl := Option.some.inj hσ
    refine rn rfl ?_
    refine goal_cond rfl (fun h2 => ?_) (fun h2 => ?_) <;> simp only [decide_eq_true_eq, decide_eq_false_iff_not, List.length_map] at h2
    · refine rn rfl (fin_is [] rfl ⟨?_, rfl⟩)
      simp only [szFlat, h, h2, if_false, if_true]
    · refine rn rfl (fin_is [] rfl ⟨?_, rfl⟩)
      simp only [szFlat, h, h2, if_false]

/-! ### copies -/
theorem noOwnR_map {α : Type} (enc : α → List C) (h : ∀ x, noOwnL (enc x) = true) : ∀ xs : List α, noOwnR (xs.map enc) = true
  | [] => rfl
  | x :: xs => by simp [noOwnR, h x, noOwnR_map enc h xs]
theorem eI_noOwn (n : Int) : noOwnL (eI n) = true := rfl
theorem eP_noOwn (p : Pair) : noOwnL (eP p) = true := rfl

/-- An own slice, its rows in full. -/
def ownI (xs : List Int) : Option AObj := some ⟨1, xs.map eI, true, false, false⟩
def ownP (ps : List Pair) : Option AObj := some ⟨2, ps.map eP, true, false, false⟩

theorem take_set_step {α : Type} (xs ys : List α) (i : Nat) (x : α) (hx : xs[i]? = some x) (hl : ys.length = xs.length) (h : ys.take i = xs.take i) : (ys.set i x).take (i + 1) = xs.take (i + 1) := by
  have hlt := lt_of_some hx
  apply List.ext_getElem?
  intro j
  rw [List.getElem?_take, List.getElem?_take]
  by_cases hj : j < i + 1
  · rw [if_pos hj, if_pos hj, List.getElem?_set]
    by_cases hji : i = j
    · subst hji; rw [if_pos rfl, if_pos (by omega), hx]
    · rw [if_neg hji]
      have := congrArg (·[j]?) h
      simp only [List.getElem?_take] at this
      rwa [if_pos (by omega), if_pos (by omega)] at this
  · rw [if_neg hj, if_neg hj]

theorem map_set {α : Type} (enc : α → List C) (xs : List α) (i : Nat) (x : α) : (xs.set i x).map enc = (xs.map enc).set i (enc x) := by
  induction xs generalizing i with
  | nil => rfl
  | cons y ys ih => cases i with
    | zero => rfl
    | succ i => simp [ih]
theorem rep_map {α : Type} (enc : α → List C) (n : Nat) (x : α) : List.replicate n (enc x) = (List.replicate n x).map enc := by simp
theorem len_rep {α : Type} (n : Nat) (x : α) : (List.replicate n x).length = n := by simp

theorem toIntS_ct (xs : List Int) (hl : xs.length ≤ 2097152) :
    ACalls pk 60 [.one (.fs (xs.map eI))] [] (fun r o => r = .one (.os 0 0 xs.length xs.length) ∧ o = [ownI xs]) := by
  refine acalls_of_body Try.func60 rfl (by kernel_rfl) rfl ?_
  refine rn rfl ?_
  refine goal_did rfl rfl (dA_make xs.length ((List.replicate xs.length (0 : Int)).map eI) rfl rfl rfl (by simp) (by simp) rfl rfl rfl rfl rfl (by show 8 * xs.length ≤ _; omega) (by omega) (by rw [← rep_map]; rfl)) ?_
  refine rn rfl ?_
  refine goal_loop_keep (fun m σ => ∃ (n : Int) (i L : Nat) (ys : List Int), n = i ∧ L = xs.length ∧ i ≤ xs.length ∧ m = xs.length - i ∧ ys.length = xs.length ∧ ys.take i = xs.take i ∧
      σ = ⟨[(4, .one (.int .i64 n)), (3, .one (.os 0 0 L L)), (0, .one (.fs (xs.map eI)))], [ownI ys], []⟩) xs.length [4, 3, 0] [0] rfl
    ⟨_, 0, _, _, rfl, ?_, by omega, by omega, len_rep _ _, rfl, rfl⟩ ?_
  · simp
  rintro m σ ⟨n, i, L, ys, rfl, rfl, hi, rfl, hys, hpre, rfl⟩
  refine rn rfl ?_
  refine goal_cond rfl (fun h => ?_) (fun h => ?_) <;> simp only [decide_eq_true_eq, decide_eq_false_iff_not, List.length_map] at h
  · have hlt : i < xs.length := by omega
    obtain ⟨x, hx⟩ := at_some hlt
    obtain ⟨y, hy⟩ := at_some (xs := ys) (i := i) (by omega)
    refine rn rfl ?_
    refine goal_did rfl rfl (dA_index (eI x) rfl rfl rfl rfl rfl rfl rfl (by omega) (by simp; omega) (map_at (by simpa using hx)) rfl) ?_
    refine rn rfl ?_
    refine goal_did rfl rfl (dA_indexOwn rfl rfl rfl rfl rfl rfl rfl rfl rfl (by omega) (by omega)) ?_
    refine goal_did rfl rfl (dA_storeEl (eI y) ((ys.set i x).map eI) true rfl rfl rfl rfl rfl (map_at (by simpa using hy)) rfl rfl (by simp [eI]) (by rw [map_set]; simp [patch, eI]) (fun _ => noOwnR_map _ eI_noOwn _)) ?_
    refine rn rfl ?_
    refine round_keep (xs.length - (i + 1)) [4, 3, 0] [0] (by omega) rfl ⟨_, i + 1, xs.length, ys.set i x, ?_, rfl, by omega, rfl, by simp [hys], take_set_step xs ys i x hx hys hpre, rfl⟩
    exact wrap64 (by omega) (by omega)
  · refine rn rfl ?_
    refine round_ext ?_
    refine rn rfl (fin_is [0] rfl ⟨rfl, ?_⟩)
    rw [show i = xs.length by omega, List.take_length, ← hys, List.take_length] at hpre
    rw [hpre]; rfl
end Go.Proofs.Ytkjbjgndinjdpaa
