/- Part 4 of the proof: an abstract machine over the model; contracts of the functions that the law reaches. -/
import Derived.Test.YtekdhmddibfidaaGreatKEExt3
set_option linter.unusedVariables false
set_option linter.unusedSimpArgs false
namespace Go.Proofs.YtekdhmddibfidaaGreat
open Go
set_option maxRecDepth 100000
set_option maxHeartbeats 1000000

def seqQ1 (k : Int) : Param := ⟨markText k, k + 1, Int.tmod (k + 2) 3 == 0, k + 3⟩

def seqQ (k : Int) : Nat → List Param
  | 0 => []
  | n + 1 => seqQ1 k :: seqQ (k + 4) n

theorem seqQ_length : ∀ (n : Nat) (k : Int), (seqQ k n).length = n
  | 0, k => rfl
  | n + 1, k => by simp [seqQ, seqQ_length n]

theorem seqQ_at : ∀ (n : Nat) (k : Int) (i : Nat), i < n → (seqQ k n)[i]? = some (seqQ1 (k + 4 * i))
  | n + 1, k, 0, _ => by simp [seqQ]
  | n + 1, k, i + 1, h => by
    have e1 : k + 4 + 4 * (i : Int) = k + 4 * ((i + 1 : Nat) : Int) := by omega
    simp only [seqQ, List.getElem?_cons_succ, seqQ_at n (k + 4) i (by omega), e1]

theorem markParamS_ct (xs : List Param) (k : Int) (kc : Nat) (hl : xs.length ≤ 2097152) (hk : 0 ≤ k) (hk' : k ≤ 16777216) :
    ACalls pk 130 [.one (.os 0 0 xs.length kc), .one (.int .i64 k)] [ownQ xs] (fun r o => r = .one (.int .i64 (k + 4 * xs.length)) ∧ o = [ownQ (seqQ k xs.length)]) := by
  refine acalls_of_body Tryz.func130 rfl (by kernel_rfl) rfl ?_
  refine rn rfl ?_
  refine goal_loop_keep (fun m σ => ∃ (n q : Int) (i : Nat) (ys : List Param), n = i ∧ q = k + 4 * i ∧ i ≤ xs.length ∧ m = xs.length - i ∧ ys.length = xs.length ∧ ys.take i = (seqQ k xs.length).take i ∧
      σ = ⟨[(5, .one (.int .i64 n)), (1, .one (.int .i64 q)), (0, .one (.os 0 0 xs.length kc))], [ownQ ys], []⟩) xs.length [5, 1, 0] [] rfl
    ⟨_, _, 0, xs, rfl, by simp, by omega, by omega, rfl, rfl, rfl⟩ ?_
  rintro m σ ⟨n, q, i, ys, rfl, rfl, hi, rfl, hys, hpre, rfl⟩
  refine rn rfl ?_
  refine goal_cond rfl (fun h => ?_) (fun h => ?_) <;> (try simp only [gt_iff_lt, ge_iff_le, bne_iff_ne, ne_eq, bne_eq_false_iff_eq, beq_iff_eq, beq_eq_false_iff_ne, Bool.not_eq_true', Bool.not_eq_false', decide_eq_true_eq, decide_eq_false_iff_not, List.length_map] at h)
  · obtain ⟨⟨y1, y2, y3, y4⟩, hy⟩ := at_some (xs := ys) (i := i) (by omega)
    have hw1 : IntKind.i64.wrap (k + 4 * i + 1) = k + 4 * i + 1 := wrap64 (by omega) (by omega)
    have hw2 : IntKind.i64.wrap (k + 4 * i + 1 + 1) = k + 4 * i + 2 := by rw [wrap64 (by omega) (by omega)]; omega
    have hw3 : IntKind.i64.wrap (k + 4 * i + 2 + 1) = k + 4 * i + 3 := by rw [wrap64 (by omega) (by omega)]; omega
    have hw4 : IntKind.i64.wrap (k + 4 * i + 3 + 1) = k + 4 * i + 4 := by rw [wrap64 (by omega) (by omega)]; omega
    refine rn rfl ?_
    refine goal_step (step_call [] rfl rfl rfl rfl rfl rfl (markText_ct (k + 4 * i) (by omega))) ?_
    rintro σ2 ⟨r, o', ⟨rfl, rfl⟩, hσ⟩
    obtain rfl := Option.some.inj hσ
    clear hσ
    refine rn rfl ?_
    refine goal_did rfl rfl (dA_indexOwn rfl rfl rfl rfl rfl rfl rfl rfl rfl (by omega) (by omega)) ?_
    refine goal_did rfl rfl (dA_step rfl) ?_
    refine goal_did rfl rfl (dA_storeEl (eQ ⟨y1, y2, y3, y4⟩) ((ys.set i ⟨markText (k + 4 * i), y2, y3, y4⟩).map eQ) true rfl rfl rfl rfl rfl (map_at (by simpa using hy)) rfl rfl (by simp [eQ]) (by rw [map_set]; simp [patch, eQ]) (fun _ => noOwnR_map _ eQ_noOwn _)) ?_
    refine rn rfl ?_
    rw [hw1]
    refine goal_did rfl rfl (dA_indexOwn rfl rfl rfl rfl rfl rfl rfl rfl rfl (by omega) (by omega)) ?_
    refine goal_did rfl rfl (dA_step rfl) ?_
    refine goal_did rfl rfl (dA_storeEl (eQ ⟨markText (k + 4 * i), y2, y3, y4⟩) ((ys.set i ⟨markText (k + 4 * i), k + 4 * i + 1, y3, y4⟩).map eQ) true rfl rfl rfl rfl rfl (map_at (set_at (by simp) (by omega))) rfl rfl (by simp [eQ]) (by simp only [map_set, patch, eQ]; simp) (fun _ => noOwnR_map _ eQ_noOwn _)) ?_
    refine rn rfl ?_
    rw [hw2]
    refine goal_did rfl rfl (dA_indexOwn rfl rfl rfl rfl rfl rfl rfl rfl rfl (by omega) (by omega)) ?_
    refine goal_did rfl rfl (dA_step rfl) ?_
    refine goal_did rfl rfl (dA_storeEl (eQ ⟨markText (k + 4 * i), k + 4 * i + 1, y3, y4⟩) ((ys.set i ⟨markText (k + 4 * i), k + 4 * i + 1, Int.tmod (k + 4 * i + 2) 3 == 0, y4⟩).map eQ) true rfl rfl rfl rfl rfl (map_at (set_at (by simp) (by omega))) rfl rfl (by simp [eQ]) (by simp only [map_set, patch, eQ]; simp) (fun _ => noOwnR_map _ eQ_noOwn _)) ?_
    refine rn rfl ?_
    rw [hw3]
    refine goal_did rfl rfl (dA_indexOwn rfl rfl rfl rfl rfl rfl rfl rfl rfl (by omega) (by omega)) ?_
    refine goal_did rfl rfl (dA_step rfl) ?_
    refine goal_did rfl rfl (dA_storeEl (eQ ⟨markText (k + 4 * i), k + 4 * i + 1, Int.tmod (k + 4 * i + 2) 3 == 0, y4⟩) ((ys.set i (seqQ1 (k + 4 * i))).map eQ) true rfl rfl rfl rfl rfl (map_at (set_at (by simp) (by omega))) rfl rfl (by simp [eQ]) (by simp only [map_set, patch, eQ, seqQ1]; simp) (fun _ => noOwnR_map _ eQ_noOwn _)) ?_
    refine rn rfl ?_
    refine round_keep (xs.length - (i + 1)) [5, 1, 0] [] (by omega) rfl ⟨_, _, i + 1, ys.set i _, wrap64 (by omega) (by omega), ?_, by omega, rfl, by simp [hys], take_set_step _ ys i _ (seqQ_at _ _ _ (by omega)) (by rw [seqQ_length]; exact hys) hpre, rfl⟩
    rw [hw4]; omega
  · refine rn rfl ?_
    refine round_ext ?_
    refine rn rfl (fin_is [] rfl ⟨?_, ?_⟩)
    · rw [show i = xs.length by omega]
    · rw [show i = xs.length by omega] at hpre
      have h1 : ys = seqQ k xs.length := by
        have := hpre
        rwa [← hys, List.take_length, hys, List.take_of_length_le (by rw [seqQ_length]; exact Nat.le_refl _)] at this
      rw [← h1]; rfl

theorem heldParamS_ct (n0 : Nat) (k : Int) (hl : n0 ≤ 2097152) (hk : 0 ≤ k) (hk' : k ≤ 16777216) :
    ACalls pk 132 [.one (.fs ((seqQ k n0).map eQ)), .one (.int .i64 k)] [] (fun r o => r = .one (.int .i64 (k + 4 * n0)) ∧ o = []) := by
  refine acalls_of_body Tryz.func132 rfl (by kernel_rfl) rfl ?_
  refine rn rfl ?_
  have hlen := seqQ_length n0 k
  refine goal_loop_keep (fun m σ => ∃ (n q : Int) (i : Nat), n = i ∧ q = k + 4 * i ∧ i ≤ n0 ∧ m = n0 - i ∧
      σ = ⟨[(5, .one (.int .i64 n)), (1, .one (.int .i64 q)), (0, .one (.fs ((seqQ k n0).map eQ)))], [], []⟩) n0 [5, 1, 0] [] rfl
    ⟨_, _, 0, rfl, by simp, by omega, by omega, rfl⟩ ?_
  rintro m σ ⟨n, q, i, rfl, rfl, hi, rfl, rfl⟩
  refine rn rfl ?_
  refine goal_cond rfl (fun h => ?_) (fun h => ?_) <;> simp only [decide_eq_true_eq, decide_eq_false_iff_not, List.length_map, hlen] at h
  · have hx := seqQ_at n0 k i (by omega)
    have hw1 : IntKind.i64.wrap (k + 4 * i + 1) = k + 4 * i + 1 := wrap64 (by omega) (by omega)
    have hw2 : IntKind.i64.wrap (k + 4 * i + 1 + 1) = k + 4 * i + 2 := by rw [wrap64 (by omega) (by omega)]; omega
    have hw3 : IntKind.i64.wrap (k + 4 * i + 2 + 1) = k + 4 * i + 3 := by rw [wrap64 (by omega) (by omega)]; omega
    have hw4 : IntKind.i64.wrap (k + 4 * i + 3 + 1) = k + 4 * i + 4 := by rw [wrap64 (by omega) (by omega)]; omega
    refine rn rfl ?_
    refine goal_draw' [] 8 rfl ?_
    refine drn [0, 1, 5] (by kernel_rfl) (by kernel_rfl) rfl rfl ?_
    refine AH_did 2 rfl (by kernel_rfl) (by kernel_rfl) (by kernel_rfl) rfl rfl (dA_index (eQ (seqQ1 (k + 4 * i))) rfl rfl rfl rfl rfl rfl rfl (by omega) (by simp [hlen]; omega) (map_at (by simpa using hx)) rfl) ?_
    refine drn [3, 4] (by kernel_rfl) (by kernel_rfl) rfl rfl ?_
    refine AH_one (i := 6) (by kernel_rfl) (step_call [] rfl rfl rfl rfl rfl rfl (markText_ct (k + 4 * i) (by omega))) (by simp) ?_
    rintro σ2 ⟨r, o', ⟨rfl, rfl⟩, hσ⟩
    obtain rfl := Option.some.inj hσ
    clear hσ
    refine drn [7] (by kernel_rfl) (by kernel_rfl) rfl rfl ?_
    refine AH_end (by kernel_rfl) ?_
    refine rn rfl ?_
    refine goal_cond rfl (fun h2 => by simp [seqQ1] at h2) (fun _ => ?_)
    refine rn rfl ?_
    rw [hw1]
    refine goal_did rfl rfl (dA_index (eQ (seqQ1 (k + 4 * i))) rfl rfl rfl rfl rfl rfl rfl (by omega) (by simp [hlen]; omega) (map_at (by simpa using hx)) rfl) ?_
    refine rn rfl ?_
    refine goal_cond rfl (fun h2 => by simp [seqQ1] at h2) (fun _ => ?_)
    refine rn rfl ?_
    rw [hw2]
    refine goal_did rfl rfl (dA_index (eQ (seqQ1 (k + 4 * i))) rfl rfl rfl rfl rfl rfl rfl (by omega) (by simp [hlen]; omega) (map_at (by simpa using hx)) rfl) ?_
    refine rn rfl ?_
    refine goal_cond rfl (fun h2 => ?_) (fun _ => ?_)
    · exfalso
      revert h2
      show ¬ ((Int.tmod (k + 4 * i + 2) 3 == 0) != (Int.tmod (k + 4 * i + 2) 3 == 0)) = true
      simp
    refine rn rfl ?_
    rw [hw3]
    refine goal_did rfl rfl (dA_index (eQ (seqQ1 (k + 4 * i))) rfl rfl rfl rfl rfl rfl rfl (by omega) (by simp [hlen]; omega) (map_at (by simpa using hx)) rfl) ?_
    refine rn rfl ?_
    refine goal_cond rfl (fun h2 => by simp [seqQ1] at h2) (fun _ => ?_)
    refine rn rfl ?_
    refine round_keep (n0 - (i + 1)) [5, 1, 0] [] (by omega) rfl ⟨_, _, i + 1, wrap64 (by omega) (by omega), ?_, by omega, rfl, rfl⟩
    rw [hw4]; omega
  · refine rn rfl ?_
    refine round_ext ?_
    refine rn rfl (fin_is [] rfl ⟨?_, rfl⟩)
    rw [show i = n0 by omega]

theorem markSig_ct (xs : List Param) (k : Int) (kc : Nat) (hl : xs.length ≤ 2097152) (hk : 0 ≤ k) (hk' : k ≤ 16777216) :
    ACalls pk 69 [.agg [.os 0 0 xs.length kc], .one (.int .i64 k)] [ownQ xs] (fun r o => r = .one (.int .i64 (k + 4 * xs.length)) ∧ o = [ownQ (seqQ k xs.length)]) := by
  refine acalls_of_body Tryz.func69 rfl (by kernel_rfl) rfl ?_
  refine rn rfl ?_
  refine goal_step (step_call [0] rfl rfl rfl rfl rfl rfl (markParamS_ct xs k kc hl hk hk')) ?_
  rintro σ2 ⟨r, o', ⟨rfl, rfl⟩, hσ⟩
  obtain rfl := Option.some.inj hσ
  clear hσ
  refine rn rfl ?_
  exact rn rfl (fin_is [] rfl ⟨rfl, rfl⟩)

theorem heldSig_ct (n0 : Nat) (k : Int) (hl : n0 ≤ 2097152) (hk : 0 ≤ k) (hk' : k ≤ 16777216) :
    ACalls pk 72 [.agg (eG (seqQ k n0)), .one (.int .i64 k)] [] (fun r o => r = .one (.int .i64 (k + 4 * n0)) ∧ o = []) := by
  refine acalls_of_body Tryz.func72 rfl (by kernel_rfl) rfl ?_
  refine rn rfl ?_
  refine goal_step (step_call [] rfl rfl rfl rfl rfl rfl (heldParamS_ct n0 k hl hk hk')) ?_
  rintro σ2 ⟨r, o', ⟨rfl, rfl⟩, hσ⟩
  obtain rfl := Option.some.inj hσ
  clear hσ
  refine rn rfl ?_
  refine goal_cond rfl (fun h => ?_) (fun h => ?_) <;> simp only [decide_eq_true_eq, decide_eq_false_iff_not] at h
  · omega
  exact rn rfl (fin_is [] rfl ⟨rfl, rfl⟩)

def szPart (p : Part) (k : Int) : Int := if szParamS p.sig k < 0 then -1 else szFlat p.flat (szParamS p.sig k)

theorem szFlat_neg {f : Flat} {k : Int} (h : szFlat f k < 0) : szFlat f k = -1 := by
  unfold szFlat at h ⊢
  split at h
  · rename_i h1; simp [h1]
  · rename_i h1
    split at h
    · rename_i h2; simp [h1, h2]
    · omega

theorem szPart_ct (p : Part) (k : Int) (hk : 0 ≤ k) (hk' : k ≤ 1048576) (hp : FitsP p) :
    ACalls pk 16 [.agg (ePa p), .one (.int .i64 k)] [] (fun r o => r = .one (.int .i64 (szPart p k)) ∧ o = []) := by
  refine acalls_of_body Tryz.func16 rfl (by kernel_rfl) rfl ?_
  refine rn rfl ?_
  refine goal_step (step_call [] rfl rfl rfl rfl rfl rfl (szSig_ct p.sig k hk hk' hp.sig)) ?_
  rintro σ2 ⟨r, o', ⟨rfl, rfl⟩, hσ⟩
  obtain rfl := Option.some.inj hσ
  clear hσ
  refine rn rfl ?_
  refine rn rfl ?_
  refine goal_cond rfl (fun h => ?_) (fun h => ?_) <;> simp only [decide_eq_true_eq, decide_eq_false_iff_not] at h
  · refine rn rfl (fin_is [] rfl ⟨?_, rfl⟩)
    simp [szPart, h]
  · have h1 := szParamS_ok hk h
    refine rn rfl ?_
    refine goal_step (step_call [] rfl rfl rfl rfl rfl rfl (szFlat_ct p.flat (szParamS p.sig k) (by omega) (by omega) hp.flat)) ?_
    rintro σ2 ⟨r, o', ⟨rfl, rfl⟩, hσ⟩
    obtain rfl := Option.some.inj hσ
    clear hσ
    refine rn rfl ?_
    refine rn rfl ?_
    refine goal_cond rfl (fun h2 => ?_) (fun h2 => ?_) <;> simp only [decide_eq_true_eq, decide_eq_false_iff_not] at h2
    · refine rn rfl (fin_is [] rfl ⟨?_, rfl⟩)
      have := szFlat_neg h2
      simp [szPart, h, this]
    · refine rn rfl (fin_is [] rfl ⟨?_, rfl⟩)
      simp [szPart, h]

theorem fits_of_szF {f : Flat} {k : Int} (hk0 : 0 ≤ k) (hk : k ≤ 1048576) (h : ¬ szFlat f k < 0) : f.places.length ≤ 1048576 ∧ f.named.length ≤ 1048576 ∧ szFlat f k ≤ k := by
  unfold szFlat at h ⊢
  split at h
  · omega
  · rename_i h1
    split at h
    · omega
    · rename_i h2
      have hk1 := szLen_le f.places.length k hk0
      have e1 := szLen_ok h1
      rw [if_neg h1, if_neg h2]
      unfold szPairS at h2 ⊢
      split at h2
      · omega
      · rename_i h3
        have e2 := szLen_ok h3
        have e3 := szLen_le f.named.length (szLen f.places.length k) (by omega)
        have e4 : ∀ (ps : List Pair) (k : Int), 0 ≤ k → szAll ps k ≤ k := by
          intro ps
          induction ps with
          | nil => intro k h; simp only [szAll]; omega
          | cons p ps ih =>
            intro k h
            unfold szAll
            have h1 := szLen_le p.name.length k h
            split
            · omega
            · have := ih (szLen p.name.length k) (by omega); omega
        have e5 := e4 f.named (szLen f.named.length (szLen f.places.length k)) (by omega)
        rw [if_neg h3]
        omega

theorem szPart_ok {p : Part} {k : Int} (hk0 : 0 ≤ k) (hk : k ≤ 1048576) (h : ¬ szPart p k < 0) : p.sig.length ≤ 1048576 ∧ p.flat.places.length ≤ 1048576 ∧ p.flat.named.length ≤ 1048576 ∧ szPart p k ≤ k := by
  unfold szPart at h ⊢
  split at h
  · omega
  · rename_i h1
    have e1 := szParamS_ok hk0 h1
    have e2 := fits_of_szF (by omega) (by omega) h
    rw [if_neg h1]
    omega

def rPa (p : Part) : T := .agg [.os 0 0 p.sig.length p.sig.length, .os 1 0 p.flat.places.length p.flat.places.length, .os 2 0 p.flat.named.length p.flat.named.length]

def oPa (p : Part) : List (Option AObj) := [ownQ p.sig, ownI p.flat.places, ownP p.flat.named]

theorem toPart_ct (p : Part) (h0 : p.sig.length ≤ 2097152) (h1 : p.flat.places.length ≤ 2097152) (h2 : p.flat.named.length ≤ 2097152) :
    ACalls pk 18 [.agg (ePa p)] [] (fun r o => r = rPa p ∧ o = oPa p) := by
  refine acalls_of_body Tryz.func18 rfl (by kernel_rfl) rfl ?_
  refine rn rfl ?_
  refine goal_step (step_call [] rfl rfl rfl rfl rfl rfl (toSig_ct p.sig h0)) ?_
  rintro σ2 ⟨r, o', ⟨rfl, rfl⟩, hσ⟩
  obtain rfl := Option.some.inj hσ
  clear hσ
  refine rn rfl ?_
  refine rn rfl ?_
  refine goal_step (step_call [] rfl rfl rfl rfl rfl rfl (toFlat_ct p.flat h1 h2)) ?_
  rintro σ2 ⟨r, o', ⟨rfl, rfl⟩, hσ⟩
  obtain rfl := Option.some.inj hσ
  clear hσ
  refine rn rfl ?_
  exact rn rfl (fin_is [3, 4, 5] rfl ⟨rfl, rfl⟩)

theorem asPa (p : Part) : T.agg [C.fs (List.take p.sig.length (List.drop 0 (p.sig.map eQ))), C.fs (List.take p.flat.places.length (List.drop 0 (p.flat.places.map eI))), C.fs (List.take p.flat.named.length (List.drop 0 (p.flat.named.map eP)))] = T.agg (ePa p) := by
  rw [takeAll eQ _ _ rfl, takeAll eI _ _ rfl, takeAll eP _ _ rfl]; rfl

theorem asFl (f : Flat) : T.agg [C.fs (List.take f.places.length (List.drop 0 (f.places.map eI))), C.fs (List.take f.named.length (List.drop 0 (f.named.map eP)))] = T.agg (eF f) := by
  rw [takeAll eI _ _ rfl, takeAll eP _ _ rfl]; rfl

theorem toPartD_ct (p : Part) (h0 : p.sig.length ≤ 2097152) (h1 : p.flat.places.length ≤ 2097152) (h2 : p.flat.named.length ≤ 2097152) :
    ACalls pk 18 [.agg (ePa p)] [] (fun r o => r = .agg (ePa p) ∧ o = []) :=
  (toPart_ct p h0 h1 h2).told [] (by rintro r o ⟨rfl, rfl⟩; exact ⟨_, _, rfl, asPa p, rfl⟩)

theorem toFlatD_ct (f : Flat) (h1 : f.places.length ≤ 2097152) (h2 : f.named.length ≤ 2097152) : ACalls pk 19 [.agg (eF f)] [] (fun r o => r = .agg (eF f) ∧ o = []) :=
  (toFlat_ct f h1 h2).told [] (by rintro r o ⟨rfl, rfl⟩; exact ⟨_, _, rfl, asFl f, rfl⟩)

theorem eqPart_ct (p : Part) (h0 : p.sig.length ≤ 2097152) (h1 : p.flat.places.length ≤ 2097152) (h2 : p.flat.named.length ≤ 2097152) : ACalls pk 20 [.agg (ePa p), .agg (ePa p)] [] (fun r o => r = .one (.bool true) ∧ o = []) := by
  refine acalls_of_body Tryz.func20 rfl (by kernel_rfl) rfl ?_
  refine rn rfl ?_
  refine goal_step (step_call [] rfl rfl rfl rfl rfl rfl (eqSig_ct p.sig h0)) ?_
  rintro σ2 ⟨r, o', ⟨rfl, rfl⟩, hσ⟩
  obtain rfl := Option.some.inj hσ
  clear hσ
  refine rn rfl ?_
  refine goal_cond rfl (fun h => by simp at h) (fun _ => ?_)
  refine rn rfl ?_
  refine goal_step (step_call [] rfl rfl rfl rfl rfl rfl (eqFlat_ct p.flat p.flat (by omega) (by omega))) ?_
  rintro σ2 ⟨r, o', ⟨rfl, rfl⟩, hσ⟩
  obtain rfl := Option.some.inj hσ
  clear hσ
  refine rn rfl ?_
  refine goal_cond rfl (fun h => by simp at h) (fun _ => ?_)
  exact rn rfl (fin_is [] rfl ⟨rfl, rfl⟩)

def seqFK (k : Int) (a b : Nat) : Flat := ⟨seqI k a, seqP (k + a) b⟩

theorem markFlatK_ct (f : Flat) (k : Int) (kc kd : Nat) (h1 : f.places.length ≤ 2097152) (h2 : f.named.length ≤ 2097152) (hk : 0 ≤ k) (hk' : k ≤ 8388608) :
    ACalls pk 23 [.agg [.os 0 0 f.places.length kc, .os 1 0 f.named.length kd], .one (.int .i64 k)] (oF f)
      (fun r o => r = .one (.int .i64 (k + f.places.length + 2 * f.named.length)) ∧ o = oF (seqFK k f.places.length f.named.length)) := by
  refine acalls_of_body Tryz.func23 rfl (by kernel_rfl) rfl ?_
  refine rn rfl ?_
  refine goal_step (step_call [0] rfl rfl rfl rfl rfl rfl (markIntS_ct f.places k kc h1 (by omega) (by omega))) ?_
  rintro σ2 ⟨r, o', ⟨rfl, rfl⟩, hσ⟩
  obtain rfl := Option.some.inj hσ
  clear hσ
  refine rn rfl ?_
  refine goal_step (step_call [1] rfl rfl rfl rfl rfl rfl (markPairS_ct f.named (k + f.places.length) kd h2 (by omega) (by omega))) ?_
  rintro σ2 ⟨r, o', ⟨rfl, rfl⟩, hσ⟩
  obtain rfl := Option.some.inj hσ
  clear hσ
  refine rn rfl ?_
  exact rn rfl (fin_is [] rfl ⟨rfl, rfl⟩)

theorem markPart_ct (p : Part) (k : Int) (h0 : p.sig.length ≤ 1048576) (h1 : p.flat.places.length ≤ 1048576) (h2 : p.flat.named.length ≤ 1048576) (hk : 0 ≤ k) (hk' : k ≤ 1048576) :
    ACalls pk 22 [rPa p, .one (.int .i64 k)] (oPa p) (fun r o => r = .one (.int .i64 (k + 4 * p.sig.length + p.flat.places.length + 2 * p.flat.named.length)) ∧
      o = ownQ (seqQ k p.sig.length) :: oF (seqFK (k + 4 * p.sig.length) p.flat.places.length p.flat.named.length)) := by
  refine acalls_of_body Tryz.func22 rfl (by kernel_rfl) rfl ?_
  refine rn rfl ?_
  refine goal_step (step_call [0] rfl rfl rfl rfl rfl rfl (markSig_ct p.sig k _ (by omega) (by omega) (by omega))) ?_
  rintro σ2 ⟨r, o', ⟨rfl, rfl⟩, hσ⟩
  obtain rfl := Option.some.inj hσ
  clear hσ
  refine rn rfl ?_
  refine rn rfl ?_
  refine goal_step (step_call [1, 2] rfl rfl rfl rfl rfl rfl (markFlatK_ct p.flat _ _ _ (by omega) (by omega) (by omega) (by omega))) ?_
  rintro σ2 ⟨r, o', ⟨rfl, rfl⟩, hσ⟩
  obtain rfl := Option.some.inj hσ
  clear hσ
  refine rn rfl ?_
  exact rn rfl (fin_is [] rfl ⟨rfl, rfl⟩)

structure SmallS (s : Sig) : Prop where
  len : s.length ≤ 8
  names : ∀ p ∈ s, p.name.length ≤ 7

theorem OkS.small {s : Sig} (h : OkS s) : SmallS s := ⟨h.len, fun p hp => by have := h.nameLen hp; omega⟩

def FullF (p : Part) (f : Flat) : Flat × Bool := if partQ p.sig p.flat then OverF p.flat f else (zF, false)

structure LenP (p : Part) : Prop where
  sig : LenS p.sig
  flat : LenF p.flat

theorem partQ_flat {s : Sig} {f : Flat} (h : partQ s f = true) : okFlat f = true := by
  simp only [partQ, Bool.and_eq_true] at h
  exact okFlat_iff.2 (fitQ_iff.1 h.1).2

theorem iover_o (f g : Flat) (hf : LenF f) (hg : LenF g) : ACalls pk 12 [.agg (eF f), .agg (eF g)] [] (fun r o => r = .tup [rF (OverF f g).1, .one (.bool (OverF f g).2)] ∧ o = oF (OverF f g).1) := iover_ct f g hf hg

theorem ifull_ct (p : Part) (f : Flat) (hp : LenP p) (hf : LenF f) : ACalls pk 49 [.agg (ePa p), .agg (eF f)] [] (fun r o => r = .tup [rF (FullF p f).1, .one (.bool (FullF p f).2)] ∧ o = oF (FullF p f).1) := by
  refine acalls_of_body Tryz.func49 rfl (by kernel_rfl) rfl ?_
  refine rn rfl ?_
  refine goal_step (step_call [] rfl rfl rfl rfl rfl rfl (ivalidPartial_ct p.sig p.flat hp.sig hp.flat)) ?_
  rintro σ2 ⟨r, o', ⟨rfl, rfl⟩, hσ⟩
  obtain rfl := Option.some.inj hσ
  clear hσ
  refine rn rfl ?_
  refine goal_cond rfl (fun h => ?_) (fun h => ?_) <;> (try simp only [gt_iff_lt, ge_iff_le, bne_iff_ne, ne_eq, bne_eq_false_iff_eq, beq_iff_eq, beq_eq_false_iff_ne, Bool.not_eq_true', Bool.not_eq_false', decide_eq_true_eq, decide_eq_false_iff_not, List.length_map] at h)
  · refine rn rfl ?_
    refine fin_weak (Weak.adoptO 2 0 1) (fin_weak (Weak.adoptO 2 1 2) (fin_is [3, 4] rfl ⟨?_, ?_⟩))
    · simp [FullF, h]; rfl
    · simp [FullF, h]; rfl
  · refine rn rfl ?_
    refine goal_step (step_call [] rfl rfl rfl rfl rfl rfl (iover_o p.flat f hp.flat hf)) ?_
    rintro σ2 ⟨r, o', ⟨rfl, rfl⟩, hσ⟩
    obtain rfl := Option.some.inj hσ
    clear hσ
    refine rn rfl ?_
    refine rn rfl (fin_is [3, 4] rfl ⟨?_, ?_⟩)
    · simp only [FullF, h, if_true]; rfl
    · simp only [FullF, h, if_true]; rfl

theorem ifullD_ct (p : Part) (f : Flat) (hp : LenP p) (hf : LenF f) : ACalls pk 49 [.agg (ePa p), .agg (eF f)] [] (fun r o => r = .tup [.agg (eF (FullF p f).1), .one (.bool (FullF p f).2)] ∧ o = []) :=
  (ifull_ct p f hp hf).told [] (by rintro r o ⟨rfl, rfl⟩; exact ⟨_, _, rfl, tellF _ _, rfl⟩)

theorem sfull_ct (p : Part) (f : Flat) (hp : LenP p) (hf : LenF f) : ACalls pk 51 [.agg (ePa p), .agg (eF f)] [] (fun r o => r = .tup [.agg (eF (FullF p f).1), .one (.bool (FullF p f).2)] ∧ o = []) := by
  have b1 := hf.places
  have b2 := hf.named
  refine acalls_of_body Tryz.func51 rfl (by kernel_rfl) rfl ?_
  refine rn rfl ?_
  refine goal_step (step_call [] rfl rfl rfl rfl rfl rfl (svalidPartial_ct p.sig p.flat hp.sig hp.flat)) ?_
  rintro σ2 ⟨r, o', ⟨rfl, rfl⟩, hσ⟩
  obtain rfl := Option.some.inj hσ
  clear hσ
  refine rn rfl ?_
  refine goal_guard rfl rfl rfl (fun h => ?_) (fun h => ?_) <;> (try simp only [gt_iff_lt, ge_iff_le, bne_iff_ne, ne_eq, bne_eq_false_iff_eq, beq_iff_eq, beq_eq_false_iff_ne, Bool.not_eq_true', Bool.not_eq_false', decide_eq_true_eq, decide_eq_false_iff_not, List.length_map] at h)
  · refine rn rfl (fin_is [] rfl ⟨?_, rfl⟩)
    simp [FullF, h]; rfl
  refine rn rfl ?_
  refine goal_step (step_call [] rfl rfl rfl rfl rfl rfl (svalidFlat_ct f (by omega) (by omega) hf.names)) ?_
  rintro σ2 ⟨r, o', ⟨rfl, rfl⟩, hσ⟩
  obtain rfl := Option.some.inj hσ
  clear hσ
  refine rn rfl ?_
  refine goal_cond rfl (fun h2 => ?_) (fun h2 => ?_) <;> (try simp only [gt_iff_lt, ge_iff_le, bne_iff_ne, ne_eq, bne_eq_false_iff_eq, beq_iff_eq, beq_eq_false_iff_ne, Bool.not_eq_true', Bool.not_eq_false', decide_eq_true_eq, decide_eq_false_iff_not, List.length_map] at h2)
  · refine rn rfl (fin_is [] rfl ⟨?_, rfl⟩)
    simp [FullF, h, OverF, h2]; rfl
  have hq := partQ_flat h
  have hF := okFlat_iff.1 hq
  have hG := okFlat_iff.1 h2
  have ho : FullF p f = checkF (overQ p.flat f) true := by unfold FullF; rw [if_pos h]; unfold OverF; rw [if_pos (by simp [hq, h2, okFlat_iff.2 hF, okFlat_iff.2 hG])]
  obtain ⟨l1, l2, l3⟩ := hp.flat.over hf
  rw [ho]
  refine rn rfl ?_
  refine goal_step (step_call [] rfl rfl rfl rfl rfl rfl (sover_ct p.flat f hp.flat hf (by have := hF.named; omega) (by have := hG.named; omega))) ?_
  rintro σ2 ⟨r, o', ⟨rfl, rfl⟩, hσ⟩
  obtain rfl := Option.some.inj hσ
  clear hσ
  refine rn rfl ?_
  refine goal_step (step_call [] rfl rfl rfl rfl rfl rfl (checkedFlat_ct (overQ p.flat f) l1 l2 l3)) ?_
  rintro σ2 ⟨r, o', ⟨rfl, rfl⟩, hσ⟩
  obtain rfl := Option.some.inj hσ
  clear hσ
  refine rn rfl ?_
  exact rn rfl (fin_is [] rfl ⟨rfl, rfl⟩)

theorem full_names {p : Part} {f : Flat} : LenF (FullF p f).1 := by
  unfold FullF OverF checkF
  split
  · split
    · split
      · rename_i h
        simp only [Bool.true_and] at h
        exact (okFlat_iff.1 h).len
      · exact ⟨by simp [zF], by simp [zF], by simp [zF]⟩
    · exact ⟨by simp [zF], by simp [zF], by simp [zF]⟩
  · exact ⟨by simp [zF], by simp [zF], by simp [zF]⟩

def zPa : Part := ⟨[], zF⟩

def PofF (s : Sig) (f : Flat) : Part × Bool := if partQ s f then (⟨s, f⟩, true) else (zPa, false)

def ExtF (p : Part) (f : Flat) : Part × Bool := if (FullF p f).2 then PofF p.sig (FullF p f).1 else (zPa, false)

theorem ipartialOf_ct (s : Sig) (f : Flat) (hs : LenS s) (hf : LenF f) : ACalls pk 50 [.agg (eG s), .agg (eF f)] [] (fun r o => r = .tup [rPa (PofF s f).1, .one (.bool (PofF s f).2)] ∧ o = oPa (PofF s f).1) := by
  obtain ⟨s1, s2⟩ := hs
  have f1 := hf.places
  have f2 := hf.named
  refine acalls_of_body Tryz.func50 rfl (by kernel_rfl) rfl ?_
  refine rn rfl ?_
  refine goal_step (step_call [] rfl rfl rfl rfl rfl rfl (ivalidPartial_ct s f ⟨s1, s2⟩ hf)) ?_
  rintro σ2 ⟨r, o', ⟨rfl, rfl⟩, hσ⟩
  obtain rfl := Option.some.inj hσ
  clear hσ
  refine rn rfl ?_
  refine goal_cond rfl (fun h => ?_) (fun h => ?_) <;> (try simp only [gt_iff_lt, ge_iff_le, bne_iff_ne, ne_eq, bne_eq_false_iff_eq, beq_iff_eq, beq_eq_false_iff_ne, Bool.not_eq_true', Bool.not_eq_false', decide_eq_true_eq, decide_eq_false_iff_not, List.length_map] at h)
  · have hz : PofF s f = (zPa, false) := by simp [PofF, h]
    rw [hz]
    refine rn rfl ?_
    exact fin_weak (Weak.adoptO 2 0 4) (fin_weak (Weak.adoptO 2 1 1) (fin_weak (Weak.adoptO 2 2 2) (fin_is [3, 4, 5] rfl ⟨rfl, rfl⟩)))
  · have hz : PofF s f = (⟨s, f⟩, true) := by simp [PofF, h]
    rw [hz]
    refine rn rfl ?_
    refine goal_draw' [0, 1] 7 rfl ?_
    refine drn [0, 2] (by kernel_rfl) (by kernel_rfl) rfl rfl ?_
    refine AH_one (i := 1) (by kernel_rfl) (step_call [] rfl rfl rfl rfl rfl rfl (icopySig_ct s (by omega))) (by simp) ?_
    rintro σ2 ⟨r, o', ⟨rfl, rfl⟩, hσ⟩
    obtain rfl := Option.some.inj hσ
    clear hσ
    refine AH_one (i := 3) (by kernel_rfl) (step_call [] rfl rfl rfl rfl rfl rfl (copyOf_ct f (by omega) (by omega))) (by simp) ?_
    rintro σ2 ⟨r, o', ⟨rfl, rfl⟩, hσ⟩
    obtain rfl := Option.some.inj hσ
    clear hσ
    refine drn [4] (by kernel_rfl) (by kernel_rfl) rfl rfl ?_
    refine AH_oneDid 5 rfl (by kernel_rfl) rfl (dA_step rfl) (mdOk rfl) ?_
    refine drn [6] (by kernel_rfl) (by kernel_rfl) rfl rfl ?_
    refine AH_end (by kernel_rfl) ?_
    refine rn rfl ?_
    exact rn rfl (fin_is [3, 4, 5] rfl ⟨rfl, rfl⟩)

theorem spartialOf_ct (s : Sig) (f : Flat) (hs : LenS s) (hf : LenF f) : ACalls pk 52 [.agg (eG s), .agg (eF f)] [] (fun r o => r = .tup [rPa (PofF s f).1, .one (.bool (PofF s f).2)] ∧ o = oPa (PofF s f).1) := by
  obtain ⟨s1, s2⟩ := hs
  have f1 := hf.places
  have f2 := hf.named
  refine acalls_of_body Tryz.func52 rfl (by kernel_rfl) rfl ?_
  refine rn rfl ?_
  refine goal_step (step_call [] rfl rfl rfl rfl rfl rfl (svalidPartial_ct s f ⟨s1, s2⟩ hf)) ?_
  rintro σ2 ⟨r, o', ⟨rfl, rfl⟩, hσ⟩
  obtain rfl := Option.some.inj hσ
  clear hσ
  refine rn rfl ?_
  refine goal_cond rfl (fun h => ?_) (fun h => ?_) <;> (try simp only [gt_iff_lt, ge_iff_le, bne_iff_ne, ne_eq, bne_eq_false_iff_eq, beq_iff_eq, beq_eq_false_iff_ne, Bool.not_eq_true', Bool.not_eq_false', decide_eq_true_eq, decide_eq_false_iff_not, List.length_map] at h)
  · have hz : PofF s f = (zPa, false) := by simp [PofF, h]
    rw [hz]
    refine rn rfl ?_
    exact fin_weak (Weak.adoptO 2 0 4) (fin_weak (Weak.adoptO 2 1 1) (fin_weak (Weak.adoptO 2 2 2) (fin_is [4, 5, 6] rfl ⟨rfl, rfl⟩)))
  · have hz : PofF s f = (⟨s, f⟩, true) := by simp [PofF, h]
    rw [hz]
    refine rn rfl ?_
    refine goal_draw' [0, 1] 9 rfl ?_
    refine drn [0, 1, 4] (by kernel_rfl) (by kernel_rfl) rfl rfl ?_
    refine AH_one (i := 2) (by kernel_rfl) (step_call [] rfl rfl rfl rfl rfl rfl (copyParams_ct s (by omega))) (by simp) ?_
    rintro σ2 ⟨r, o', ⟨rfl, rfl⟩, hσ⟩
    obtain rfl := Option.some.inj hσ
    clear hσ
    refine drn [3] (by kernel_rfl) (by kernel_rfl) rfl rfl ?_
    refine AH_one (i := 5) (by kernel_rfl) (step_call [] rfl rfl rfl rfl rfl rfl (copyFlat_ct f (by omega) (by omega))) (by simp) ?_
    rintro σ2 ⟨r, o', ⟨rfl, rfl⟩, hσ⟩
    obtain rfl := Option.some.inj hσ
    clear hσ
    refine drn [6] (by kernel_rfl) (by kernel_rfl) rfl rfl ?_
    refine AH_oneDid 7 rfl (by kernel_rfl) rfl (dA_step rfl) (mdOk rfl) ?_
    refine drn [8] (by kernel_rfl) (by kernel_rfl) rfl rfl ?_
    refine AH_end (by kernel_rfl) ?_
    refine rn rfl ?_
    exact rn rfl (fin_is [4, 5, 6] rfl ⟨rfl, rfl⟩)

theorem tellPa (p : Part) (b : Bool) : T.tup [T.agg [C.fs (List.take p.sig.length (List.drop 0 (p.sig.map eQ))), C.fs (List.take p.flat.places.length (List.drop 0 (p.flat.places.map eI))), C.fs (List.take p.flat.named.length (List.drop 0 (p.flat.named.map eP)))], .one (.bool b)] = .tup [.agg (ePa p), .one (.bool b)] := by
  rw [asPa]

theorem iext_ct (p : Part) (f : Flat) (hp : LenP p) (hf : LenF f) : ACalls pk 9 [.agg (ePa p), .agg (eF f)] [] (fun r o => r = .tup [rPa (ExtF p f).1, .one (.bool (ExtF p f).2)] ∧ o = oPa (ExtF p f).1) := by
  have lg := full_names (p := p) (f := f)
  have hE : ExtF p f = if (FullF p f).2 then PofF p.sig (FullF p f).1 else (zPa, false) := rfl
  have hI := ifullD_ct p f hp hf
  rw [hE]
  generalize (FullF p f).1 = G at *
  generalize (FullF p f).2 = b at *
  refine acalls_of_body Tryz.func9 rfl (by kernel_rfl) rfl ?_
  refine rn rfl ?_
  refine goal_step (step_call [] rfl rfl rfl rfl rfl rfl (hI)) ?_
  rintro σ2 ⟨r, o', ⟨rfl, rfl⟩, hσ⟩
  obtain rfl := Option.some.inj hσ
  clear hσ
  refine rn rfl ?_
  refine goal_cond rfl (fun h => ?_) (fun h => ?_) <;> (try simp only [gt_iff_lt, ge_iff_le, bne_iff_ne, ne_eq, bne_eq_false_iff_eq, beq_iff_eq, beq_eq_false_iff_ne, Bool.not_eq_true', Bool.not_eq_false', decide_eq_true_eq, decide_eq_false_iff_not, List.length_map] at h)
  · subst h
    refine rn rfl ?_
    exact fin_weak (Weak.adoptO 2 0 4) (fin_weak (Weak.adoptO 2 1 1) (fin_weak (Weak.adoptO 2 2 2) (fin_is [4, 5, 6] rfl ⟨rfl, rfl⟩)))
  · subst h
    refine rn rfl ?_
    refine goal_step (step_call [] rfl rfl rfl rfl rfl rfl (ipartialOf_ct p.sig G hp.sig lg)) ?_
    rintro σ2 ⟨r, o', ⟨rfl, rfl⟩, hσ⟩
    obtain rfl := Option.some.inj hσ
    clear hσ
    refine rn rfl ?_
    exact rn rfl (fin_is [4, 5, 6] rfl ⟨rfl, rfl⟩)

theorem iextD_ct (p : Part) (f : Flat) (hp : LenP p) (hf : LenF f) : ACalls pk 9 [.agg (ePa p), .agg (eF f)] [] (fun r o => r = .tup [.agg (ePa (ExtF p f).1), .one (.bool (ExtF p f).2)] ∧ o = []) :=
  (iext_ct p f hp hf).told [] (by rintro r o ⟨rfl, rfl⟩; exact ⟨_, _, rfl, tellPa _ _, rfl⟩)

theorem spartialOfD_ct (s : Sig) (f : Flat) (hs : LenS s) (hf : LenF f) : ACalls pk 52 [.agg (eG s), .agg (eF f)] [] (fun r o => r = .tup [.agg (ePa (PofF s f).1), .one (.bool (PofF s f).2)] ∧ o = []) :=
  (spartialOf_ct s f hs hf).told [] (by rintro r o ⟨rfl, rfl⟩; exact ⟨_, _, rfl, tellPa _ _, rfl⟩)

theorem sext_ct (p : Part) (f : Flat) (hp : LenP p) (hf : LenF f) : ACalls pk 10 [.agg (ePa p), .agg (eF f)] [] (fun r o => r = .tup [.agg (ePa (ExtF p f).1), .one (.bool (ExtF p f).2)] ∧ o = []) := by
  have lg := full_names (p := p) (f := f)
  have hE : ExtF p f = if (FullF p f).2 then PofF p.sig (FullF p f).1 else (zPa, false) := rfl
  have hI := sfull_ct p f hp hf
  rw [hE]
  generalize (FullF p f).1 = G at *
  generalize (FullF p f).2 = b at *
  refine acalls_of_body Tryz.func10 rfl (by kernel_rfl) rfl ?_
  refine rn rfl ?_
  refine goal_step (step_call [] rfl rfl rfl rfl rfl rfl (hI)) ?_
  rintro σ2 ⟨r, o', ⟨rfl, rfl⟩, hσ⟩
  obtain rfl := Option.some.inj hσ
  clear hσ
  refine rn rfl ?_
  refine goal_cond rfl (fun h => ?_) (fun h => ?_) <;> (try simp only [gt_iff_lt, ge_iff_le, bne_iff_ne, ne_eq, bne_eq_false_iff_eq, beq_iff_eq, beq_eq_false_iff_ne, Bool.not_eq_true', Bool.not_eq_false', decide_eq_true_eq, decide_eq_false_iff_not, List.length_map] at h)
  · subst h
    exact rn rfl (fin_is [] rfl ⟨rfl, rfl⟩)
  · subst h
    refine rn rfl ?_
    refine goal_step (step_call [] rfl rfl rfl rfl rfl rfl (spartialOfD_ct p.sig G hp.sig lg)) ?_
    rintro σ2 ⟨r, o', ⟨rfl, rfl⟩, hσ⟩
    obtain rfl := Option.some.inj hσ
    clear hσ
    refine rn rfl ?_
    exact rn rfl (fin_is [] rfl ⟨rfl, rfl⟩)

theorem heldFlatK_ct (a b : Nat) (k : Int) (h1 : a ≤ 2097152) (h2 : b ≤ 2097152) (hk : 0 ≤ k) (hk' : k ≤ 8388608) :
    ACalls pk 73 [.agg (eF (seqFK k a b)), .one (.int .i64 k)] [] (fun r o => r = .one (.int .i64 (k + a + 2 * b)) ∧ o = []) := by
  refine acalls_of_body Tryz.func73 rfl (by kernel_rfl) rfl ?_
  refine rn rfl ?_
  refine goal_step (step_call [] rfl rfl rfl rfl rfl rfl (heldIntS_ct a k h1 (by omega) (by omega))) ?_
  rintro σ2 ⟨r, o', ⟨rfl, rfl⟩, hσ⟩
  obtain rfl := Option.some.inj hσ
  clear hσ
  refine rn rfl ?_
  refine goal_cond rfl (fun h => ?_) (fun h => ?_) <;> simp only [decide_eq_true_eq, decide_eq_false_iff_not] at h
  · omega
  refine rn rfl ?_
  refine goal_step (step_call [] rfl rfl rfl rfl rfl rfl (heldPairS_ct b (k + a) h2 (by omega) (by omega))) ?_
  rintro σ2 ⟨r, o', ⟨rfl, rfl⟩, hσ⟩
  obtain rfl := Option.some.inj hσ
  clear hσ
  refine rn rfl ?_
  refine goal_cond rfl (fun h => ?_) (fun h => ?_) <;> simp only [decide_eq_true_eq, decide_eq_false_iff_not] at h
  · omega
  exact rn rfl (fin_is [] rfl ⟨rfl, rfl⟩)

theorem heldPart_ct (n a b : Nat) (h0 : n ≤ 1048576) (h1 : a ≤ 1048576) (h2 : b ≤ 1048576) :
    ACalls pk 24 [.agg (ePa ⟨seqQ 1 n, seqFK (1 + 4 * n) a b⟩), .one (.int .i64 1)] [] (fun r o => r = .one (.int .i64 (1 + 4 * n + a + 2 * b)) ∧ o = []) := by
  refine acalls_of_body Tryz.func24 rfl (by kernel_rfl) rfl ?_
  refine rn rfl ?_
  refine goal_step (step_call [] rfl rfl rfl rfl rfl rfl (heldSig_ct n 1 (by omega) (by omega) (by omega))) ?_
  rintro σ2 ⟨r, o', ⟨rfl, rfl⟩, hσ⟩
  obtain rfl := Option.some.inj hσ
  clear hσ
  refine rn rfl ?_
  refine goal_cond rfl (fun h => ?_) (fun h => ?_) <;> simp only [decide_eq_true_eq, decide_eq_false_iff_not] at h
  · omega
  refine rn rfl ?_
  refine goal_step (step_call [] rfl rfl rfl rfl rfl rfl (heldFlatK_ct a b (1 + 4 * n) (by omega) (by omega) (by omega) (by omega))) ?_
  rintro σ2 ⟨r, o', ⟨rfl, rfl⟩, hσ⟩
  obtain rfl := Option.some.inj hσ
  clear hσ
  refine rn rfl ?_
  refine goal_cond rfl (fun h => ?_) (fun h => ?_) <;> simp only [decide_eq_true_eq, decide_eq_false_iff_not] at h
  · omega
  exact rn rfl (fin_is [] rfl ⟨rfl, rfl⟩)

theorem ext_small (p : Part) (f : Flat) : (ExtF p f).1.sig.length ≤ 1000 ∧ (ExtF p f).1.flat.places.length ≤ 1000 ∧ (ExtF p f).1.flat.named.length ≤ 1000 := by
  unfold ExtF
  split
  · unfold PofF
    split
    · rename_i h
      have hfit : fitQ p.sig (FullF p f).1 = true := by unfold partQ at h; simp only [Bool.and_eq_true] at h; exact h.1
      obtain ⟨hs, hf⟩ := fitQ_iff.1 hfit
      exact ⟨by have := hs.len; show p.sig.length ≤ _; omega, by have := hf.places; show (FullF p f).1.places.length ≤ _; omega, by have := hf.named; show (FullF p f).1.named.length ≤ _; omega⟩
    · simp [zPa, zF]
  · simp [zPa, zF]

theorem rPa_no (p : Part) (b : Bool) : ∀ r o, (r = .tup [rPa p, .one (.bool b)] ∧ o = oPa p) → noFzT r = true ∧ noFzO o = true := by
  rintro r o ⟨rfl, rfl⟩
  exact ⟨rfl, by simp [oPa, ownQ, ownI, ownP, noFzO, noFzR_map eQ (fun _ => rfl), noFzR_map eI (fun _ => rfl), noFzR_map eP (fun _ => rfl)]⟩

theorem fnExactExtendPartial_ct (p : Part) (f : Flat) (hp : FitsP p) (hf : Fits f) : ACalls pk 4 [.agg (ePa p), .agg (eF f)] [] (fun r o => r = .one (.bool true) ∧ o = []) := by
  refine acalls_of_body Tryz.func4 rfl (by kernel_rfl) rfl ?_
  refine rn rfl ?_
  refine goal_step (step_call [] rfl rfl rfl rfl rfl rfl (szPart_ct p 1048576 (by omega) (by omega) hp)) ?_
  rintro σ2 ⟨r, o', ⟨rfl, rfl⟩, hσ⟩
  obtain rfl := Option.some.inj hσ
  clear hσ
  refine rn rfl ?_
  refine goal_cond rfl (fun h => ?_) (fun h => ?_) <;> (try simp only [gt_iff_lt, ge_iff_le, bne_iff_ne, ne_eq, bne_eq_false_iff_eq, beq_iff_eq, beq_eq_false_iff_ne, Bool.not_eq_true', Bool.not_eq_false', decide_eq_true_eq, decide_eq_false_iff_not, List.length_map] at h)
  · exact rn rfl (fin_is [] rfl ⟨rfl, rfl⟩)
  obtain ⟨p0, p1, p2, p3⟩ := szPart_ok (by omega) (by omega) h
  refine rn rfl ?_
  refine goal_step (step_call [] rfl rfl rfl rfl rfl rfl (szFlat_ct f (szPart p 1048576) (by omega) (by omega) hf)) ?_
  rintro σ2 ⟨r, o', ⟨rfl, rfl⟩, hσ⟩
  obtain rfl := Option.some.inj hσ
  clear hσ
  refine rn rfl ?_
  refine goal_cond rfl (fun h2 => ?_) (fun h2 => ?_) <;> (try simp only [gt_iff_lt, ge_iff_le, bne_iff_ne, ne_eq, bne_eq_false_iff_eq, beq_iff_eq, beq_eq_false_iff_ne, Bool.not_eq_true', Bool.not_eq_false', decide_eq_true_eq, decide_eq_false_iff_not, List.length_map] at h2)
  · exact rn rfl (fin_is [] rfl ⟨rfl, rfl⟩)
  obtain ⟨f1, f2, f3⟩ := fits_of_szF (by omega) (by omega) h2
  have lp : LenP p := ⟨⟨by omega, hp.sig.names⟩, ⟨by omega, by omega, hp.flat.names⟩⟩
  have lf : LenF f := ⟨by omega, by omega, hf.names⟩
  obtain ⟨g0, g1, g2⟩ := ext_small p f
  have hi := iext_ct p f lp lf
  have hd := iextD_ct p f lp lf
  have hs := sext_ct p f lp lf
  generalize (ExtF p f).1 = R at *
  generalize (ExtF p f).2 = b at *
  refine rt1 8 rfl ?_
  refine goal_cutR (fun σ' => σ' = ⟨[(7, .one (.bool b)), (6, .one (.op 2 0 0)), (3, .one (.op 1 0 0)), (2, .one (.op 0 0 0))],
    [some ⟨3, [ePa p], false, false, true⟩, some ⟨2, [eF f], false, false, true⟩, some ⟨3, [ePa R], false, false, true⟩], []⟩) ?_ ?_
  · refine goal_draw' [0, 1] 11 rfl ?_
    refine drn [0, 2] (by kernel_rfl) (by kernel_rfl) rfl rfl ?_
    refine AH_two (i := 1) (j := 8) (by kernel_rfl) (step_call [] rfl rfl rfl rfl rfl rfl (toPartD_ct p (by omega) (by omega) (by omega))) (by simp) (step_did rfl rfl (dA_step rfl)) (mdOk rfl) ?_ ?_
    · rintro σ2 ⟨r, o', ⟨rfl, rfl⟩, hσ⟩
      obtain rfl := Option.some.inj hσ
      clear hσ
      refine AH_two (i := 3) (j := 8) (by kernel_rfl) (step_call [] rfl rfl rfl rfl rfl rfl (toFlatD_ct f (by omega) (by omega))) (by simp) (step_did rfl rfl (dA_step rfl)) (mdOk rfl) ?_ ?_
      · rintro σ2 ⟨r, o', ⟨rfl, rfl⟩, hσ⟩
        obtain rfl := Option.some.inj hσ
        clear hσ
        refine AH_two (i := 4) (j := 8) (by kernel_rfl) (step_call [] rfl rfl rfl rfl rfl rfl (hs)) (by simp) (step_did rfl rfl (dA_step rfl)) (mdOk rfl) ?_ ?_
        · rintro σ2 ⟨r, o', ⟨rfl, rfl⟩, hσ⟩
          obtain rfl := Option.some.inj hσ
          clear hσ
          refine drn [5, 6, 7] (by kernel_rfl) (by kernel_rfl) rfl rfl ?_
          refine AH_oneDid 8 rfl (by kernel_rfl) rfl (dA_step rfl) (mdOk rfl) ?_
          refine AH_oneDid 9 rfl (by kernel_rfl) rfl (dA_step rfl) (mdOk rfl) ?_
          refine drn [10] (by kernel_rfl) (by kernel_rfl) rfl rfl ?_
          refine AH_end (by kernel_rfl) ?_
          refine rn rfl ?_
          exact cut_nrm [7, 6, 3, 2] [0, 1, 2] rfl rfl
        · rintro _ rfl
          refine AH_one (i := 4) (by kernel_rfl) (step_call [] rfl rfl rfl rfl rfl rfl (hs)) (by simp) ?_
          rintro σ2 ⟨r, o', ⟨rfl, rfl⟩, hσ⟩
          obtain rfl := Option.some.inj hσ
          clear hσ
          refine drn [5, 6, 7] (by kernel_rfl) (by kernel_rfl) rfl rfl ?_
          refine AH_oneDid 9 rfl (by kernel_rfl) rfl (dA_step rfl) (mdOk rfl) ?_
          refine drn [10] (by kernel_rfl) (by kernel_rfl) rfl rfl ?_
          refine AH_end (by kernel_rfl) ?_
          refine rn rfl ?_
          exact cut_nrm [7, 6, 3, 2] [0, 1, 2] rfl rfl
      · rintro _ rfl
        refine AH_one (i := 3) (by kernel_rfl) (step_call [] rfl rfl rfl rfl rfl rfl (toFlatD_ct f (by omega) (by omega))) (by simp) ?_
        rintro σ2 ⟨r, o', ⟨rfl, rfl⟩, hσ⟩
        obtain rfl := Option.some.inj hσ
        clear hσ
        refine AH_one (i := 4) (by kernel_rfl) (step_call [] rfl rfl rfl rfl rfl rfl (hs)) (by simp) ?_
        rintro σ2 ⟨r, o', ⟨rfl, rfl⟩, hσ⟩
        obtain rfl := Option.some.inj hσ
        clear hσ
        refine drn [5, 6, 7] (by kernel_rfl) (by kernel_rfl) rfl rfl ?_
        refine AH_oneDid 9 rfl (by kernel_rfl) rfl (dA_step rfl) (mdOk rfl) ?_
        refine drn [10] (by kernel_rfl) (by kernel_rfl) rfl rfl ?_
        refine AH_end (by kernel_rfl) ?_
        refine rn rfl ?_
        exact cut_nrm [7, 6, 3, 2] [0, 1, 2] rfl rfl
    · rintro _ rfl
      refine AH_one (i := 1) (by kernel_rfl) (step_call [] rfl rfl rfl rfl rfl rfl (toPartD_ct p (by omega) (by omega) (by omega))) (by simp) ?_
      rintro σ2 ⟨r, o', ⟨rfl, rfl⟩, hσ⟩
      obtain rfl := Option.some.inj hσ
      clear hσ
      refine AH_one (i := 3) (by kernel_rfl) (step_call [] rfl rfl rfl rfl rfl rfl (toFlatD_ct f (by omega) (by omega))) (by simp) ?_
      rintro σ2 ⟨r, o', ⟨rfl, rfl⟩, hσ⟩
      obtain rfl := Option.some.inj hσ
      clear hσ
      refine AH_one (i := 4) (by kernel_rfl) (step_call [] rfl rfl rfl rfl rfl rfl (hs)) (by simp) ?_
      rintro σ2 ⟨r, o', ⟨rfl, rfl⟩, hσ⟩
      obtain rfl := Option.some.inj hσ
      clear hσ
      refine drn [5, 6, 7] (by kernel_rfl) (by kernel_rfl) rfl rfl ?_
      refine AH_oneDid 9 rfl (by kernel_rfl) rfl (dA_step rfl) (mdOk rfl) ?_
      refine drn [10] (by kernel_rfl) (by kernel_rfl) rfl rfl ?_
      refine AH_end (by kernel_rfl) ?_
      refine rn rfl ?_
      exact cut_nrm [7, 6, 3, 2] [0, 1, 2] rfl rfl
  rintro _ rfl
  refine rn rfl ?_
  refine goal_step (step_call [] rfl rfl rfl rfl rfl rfl (toPart_ct p (by omega) (by omega) (by omega))) ?_
  rintro σ2 ⟨r, o', ⟨rfl, rfl⟩, hσ⟩
  obtain rfl := Option.some.inj hσ
  clear hσ
  refine rn rfl ?_
  refine rn rfl ?_
  refine goal_step (step_call [] rfl rfl rfl rfl rfl rfl (toFlat_ct f (by omega) (by omega))) ?_
  rintro σ2 ⟨r, o', ⟨rfl, rfl⟩, hσ⟩
  obtain rfl := Option.some.inj hσ
  clear hσ
  refine rn rfl ?_
  refine rn rfl ?_
  refine goal_step (step_lendE [] rfl rfl rfl rfl rfl rfl rfl (cons_eq (asPa p) (cons_eq (asFl f) rfl)) (hi) (rPa_no R b)) ?_
  rintro σ2 ⟨r, o', ⟨rfl, rfl⟩, hσ⟩
  obtain rfl := Option.some.inj hσ
  clear hσ
  refine rn rfl ?_
  refine goal_step (step_lendE [] rfl rfl rfl rfl rfl rfl rfl (cons_eq (asPa R) rfl) (eqPart_ct R (by omega) (by omega) (by omega)) (by rintro r o ⟨rfl, rfl⟩; exact ⟨rfl, rfl⟩)) ?_
  rintro σ2 ⟨r, o', ⟨rfl, rfl⟩, hσ⟩
  obtain rfl := Option.some.inj hσ
  clear hσ
  refine rn rfl ?_
  refine goal_guard rfl rfl rfl (fun h1 => by cases h1) (fun _ => ?_)
  refine rn rfl ?_
  refine goal_cond rfl (fun h => by simp at h) (fun _ => ?_)
  refine rn rfl ?_
  refine goal_draw' [0, 6] 5 rfl ?_
  refine drn [0, 1] (by kernel_rfl) (by kernel_rfl) rfl rfl ?_
  refine AH_one (i := 2) (by kernel_rfl) (step_call [] rfl rfl rfl rfl rfl rfl (toPartD_ct p (by omega) (by omega) (by omega))) (by simp) ?_
  rintro σ2 ⟨r, o', ⟨rfl, rfl⟩, hσ⟩
  obtain rfl := Option.some.inj hσ
  clear hσ
  refine AH_one (i := 3) (by kernel_rfl) (step_lendE [] rfl rfl rfl rfl rfl rfl rfl (cons_eq (asPa p) rfl) (eqPart_ct p (by omega) (by omega) (by omega)) (by rintro r o ⟨rfl, rfl⟩; exact ⟨rfl, rfl⟩)) (by simp) ?_
  rintro σ2 ⟨r, o', ⟨rfl, rfl⟩, hσ⟩
  obtain rfl := Option.some.inj hσ
  clear hσ
  refine drn [4] (by kernel_rfl) (by kernel_rfl) rfl rfl ?_
  refine AH_end (by kernel_rfl) ?_
  refine rn rfl ?_
  refine goal_cond rfl (fun h => by simp at h) (fun _ => ?_)
  refine rn rfl ?_
  refine goal_draw' [1, 9] 5 rfl ?_
  refine drn [0, 1] (by kernel_rfl) (by kernel_rfl) rfl rfl ?_
  refine AH_one (i := 2) (by kernel_rfl) (step_call [] rfl rfl rfl rfl rfl rfl (toFlatD_ct f (by omega) (by omega))) (by simp) ?_
  rintro σ2 ⟨r, o', ⟨rfl, rfl⟩, hσ⟩
  obtain rfl := Option.some.inj hσ
  clear hσ
  refine AH_one (i := 3) (by kernel_rfl) (step_lendE [] rfl rfl rfl rfl rfl rfl rfl (cons_eq (asFl f) rfl) (eqFlat_ct f f (by omega) (by omega)) (by rintro r o ⟨rfl, rfl⟩; exact ⟨rfl, rfl⟩)) (by simp) ?_
  rintro σ2 ⟨r, o', ⟨rfl, rfl⟩, hσ⟩
  obtain rfl := Option.some.inj hσ
  clear hσ
  refine drn [4] (by kernel_rfl) (by kernel_rfl) rfl rfl ?_
  refine AH_end (by kernel_rfl) ?_
  refine rn rfl ?_
  refine goal_cond rfl (fun h => by simp at h) (fun _ => ?_)
  refine rn rfl ?_
  refine goal_step (step_call [3, 4, 5] rfl rfl rfl rfl rfl rfl (markPart_ct p 1 (by omega) (by omega) (by omega) (by omega) (by omega))) ?_
  rintro σ2 ⟨r, o', ⟨rfl, rfl⟩, hσ⟩
  obtain rfl := Option.some.inj hσ
  clear hσ
  refine rn rfl ?_
  refine rn rfl ?_
  refine goal_step (step_call [7, 8] rfl rfl rfl rfl rfl rfl (markFlatK_ct f _ _ _ (by omega) (by omega) (by omega) (by omega))) ?_
  rintro σ2 ⟨r, o', ⟨rfl, rfl⟩, hσ⟩
  obtain rfl := Option.some.inj hσ
  clear hσ
  refine rn rfl ?_
  refine rn rfl ?_
  refine goal_guard rfl rfl rfl (fun h => ?_) (fun h => ?_) <;> (try simp only [gt_iff_lt, ge_iff_le, bne_iff_ne, ne_eq, bne_eq_false_iff_eq, beq_iff_eq, beq_eq_false_iff_ne, Bool.not_eq_true', Bool.not_eq_false', decide_eq_true_eq, decide_eq_false_iff_not, List.length_map] at h)
  · omega
  refine rn rfl ?_
  refine goal_step (step_lendE [] rfl rfl rfl rfl rfl rfl rfl (cons_eq (asPa R) rfl) (eqPart_ct R (by omega) (by omega) (by omega)) (by rintro r o ⟨rfl, rfl⟩; exact ⟨rfl, rfl⟩)) ?_
  rintro σ2 ⟨r, o', ⟨rfl, rfl⟩, hσ⟩
  obtain rfl := Option.some.inj hσ
  clear hσ
  refine rn rfl ?_
  refine goal_guard rfl rfl rfl (fun h1 => by cases h1) (fun _ => ?_)
  refine rn rfl ?_
  refine goal_cond rfl (fun h => by simp at h) (fun _ => ?_)
  refine rn rfl ?_
  refine goal_step (step_call [10, 11, 12] rfl rfl rfl rfl rfl rfl (markPart_ct R 1 (by omega) (by omega) (by omega) (by omega) (by omega))) ?_
  rintro σ2 ⟨r, o', ⟨rfl, rfl⟩, hσ⟩
  obtain rfl := Option.some.inj hσ
  clear hσ
  refine rn rfl ?_
  refine rn rfl ?_
  have hsq : [T.agg [C.fs (List.take R.sig.length (List.drop 0 ((seqQ 1 R.sig.length).map eQ))), C.fs (List.take R.flat.places.length (List.drop 0 ((seqFK (1 + 4 * R.sig.length) R.flat.places.length R.flat.named.length).places.map eI))), C.fs (List.take R.flat.named.length (List.drop 0 ((seqFK (1 + 4 * R.sig.length) R.flat.places.length R.flat.named.length).named.map eP)))], T.one (.int .i64 1)] = [T.agg (ePa ⟨seqQ 1 R.sig.length, seqFK (1 + 4 * R.sig.length) R.flat.places.length R.flat.named.length⟩), T.one (.int .i64 1)] := by
    rw [takeAll eQ _ _ (seqQ_length _ _), takeAll eI _ _ (by simp [seqFK, seqI_length]), takeAll eP _ _ (by simp [seqFK, seqP_length])]; rfl
  refine goal_step (step_lendE [] rfl rfl rfl rfl rfl rfl rfl (hsq) (heldPart_ct R.sig.length R.flat.places.length R.flat.named.length (by omega) (by omega) (by omega)) (by rintro r o ⟨rfl, rfl⟩; exact ⟨rfl, rfl⟩)) ?_
  rintro σ2 ⟨r, o', ⟨rfl, rfl⟩, hσ⟩
  obtain rfl := Option.some.inj hσ
  clear hσ
  refine rn rfl ?_
  refine goal_cond rfl (fun h => ?_) (fun h => ?_) <;> simp only [decide_eq_true_eq, decide_eq_false_iff_not] at h
  · omega
  refine rn rfl ?_
  refine goal_cond rfl (fun h => by simp at h) (fun _ => ?_)
  refine rt1 31 rfl ?_
  refine goal_cutR (fun σ' => σ' = ⟨[(16, .one (.bool b)), (15, .one (.op 5 0 0)), (13, .one (.int .i64 (1 + 4 * R.sig.length + R.flat.places.length + 2 * R.flat.named.length))), (10, .one (.op 1 0 0)), (7, .one (.bool b)), (6, .one (.op 0 0 0))],
    [some ⟨3, [ePa R], false, false, true⟩, some ⟨3, [[.os 2 0 R.sig.length R.sig.length, .os 3 0 R.flat.places.length R.flat.places.length, .os 4 0 R.flat.named.length R.flat.named.length]], false, false, true⟩,
     ownQ (seqQ 1 R.sig.length), ownI (seqFK (1 + 4 * R.sig.length) R.flat.places.length R.flat.named.length).places, ownP (seqFK (1 + 4 * R.sig.length) R.flat.places.length R.flat.named.length).named, some ⟨3, [ePa R], false, false, true⟩], []⟩) ?_ ?_
  · refine goal_draw' [0, 1] 11 rfl ?_
    refine drn [0, 2] (by kernel_rfl) (by kernel_rfl) rfl rfl ?_
    refine AH_two (i := 1) (j := 8) (by kernel_rfl) (step_call [] rfl rfl rfl rfl rfl rfl (toPartD_ct p (by omega) (by omega) (by omega))) (by simp) (step_did rfl rfl (dA_step rfl)) (mdOk rfl) ?_ ?_
    · rintro σ2 ⟨r, o', ⟨rfl, rfl⟩, hσ⟩
      obtain rfl := Option.some.inj hσ
      clear hσ
      refine AH_two (i := 3) (j := 8) (by kernel_rfl) (step_call [] rfl rfl rfl rfl rfl rfl (toFlatD_ct f (by omega) (by omega))) (by simp) (step_did rfl rfl (dA_step rfl)) (mdOk rfl) ?_ ?_
      · rintro σ2 ⟨r, o', ⟨rfl, rfl⟩, hσ⟩
        obtain rfl := Option.some.inj hσ
        clear hσ
        refine AH_two (i := 4) (j := 8) (by kernel_rfl) (step_call [] rfl rfl rfl rfl rfl rfl (hd)) (by simp) (step_did rfl rfl (dA_step rfl)) (mdOk rfl) ?_ ?_
        · rintro σ2 ⟨r, o', ⟨rfl, rfl⟩, hσ⟩
          obtain rfl := Option.some.inj hσ
          clear hσ
          refine drn [5, 6, 7] (by kernel_rfl) (by kernel_rfl) rfl rfl ?_
          refine AH_oneDid 8 rfl (by kernel_rfl) rfl (dA_step rfl) (mdOk rfl) ?_
          refine AH_oneDid 9 rfl (by kernel_rfl) rfl (dA_step rfl) (mdOk rfl) ?_
          refine drn [10] (by kernel_rfl) (by kernel_rfl) rfl rfl ?_
          refine AH_end (by kernel_rfl) ?_
          refine rn rfl ?_
          exact cut_nrm [16, 15, 13, 10, 7, 6] [2, 13, 10, 11, 12, 14] rfl rfl
        · rintro _ rfl
          refine AH_one (i := 4) (by kernel_rfl) (step_call [] rfl rfl rfl rfl rfl rfl (hd)) (by simp) ?_
          rintro σ2 ⟨r, o', ⟨rfl, rfl⟩, hσ⟩
          obtain rfl := Option.some.inj hσ
          clear hσ
          refine drn [5, 6, 7] (by kernel_rfl) (by kernel_rfl) rfl rfl ?_
          refine AH_oneDid 9 rfl (by kernel_rfl) rfl (dA_step rfl) (mdOk rfl) ?_
          refine drn [10] (by kernel_rfl) (by kernel_rfl) rfl rfl ?_
          refine AH_end (by kernel_rfl) ?_
          refine rn rfl ?_
          exact cut_nrm [16, 15, 13, 10, 7, 6] [2, 13, 10, 11, 12, 14] rfl rfl
      · rintro _ rfl
        refine AH_one (i := 3) (by kernel_rfl) (step_call [] rfl rfl rfl rfl rfl rfl (toFlatD_ct f (by omega) (by omega))) (by simp) ?_
        rintro σ2 ⟨r, o', ⟨rfl, rfl⟩, hσ⟩
        obtain rfl := Option.some.inj hσ
        clear hσ
        refine AH_one (i := 4) (by kernel_rfl) (step_call [] rfl rfl rfl rfl rfl rfl (hd)) (by simp) ?_
        rintro σ2 ⟨r, o', ⟨rfl, rfl⟩, hσ⟩
        obtain rfl := Option.some.inj hσ
        clear hσ
        refine drn [5, 6, 7] (by kernel_rfl) (by kernel_rfl) rfl rfl ?_
        refine AH_oneDid 9 rfl (by kernel_rfl) rfl (dA_step rfl) (mdOk rfl) ?_
        refine drn [10] (by kernel_rfl) (by kernel_rfl) rfl rfl ?_
        refine AH_end (by kernel_rfl) ?_
        refine rn rfl ?_
        exact cut_nrm [16, 15, 13, 10, 7, 6] [2, 13, 10, 11, 12, 14] rfl rfl
    · rintro _ rfl
      refine AH_one (i := 1) (by kernel_rfl) (step_call [] rfl rfl rfl rfl rfl rfl (toPartD_ct p (by omega) (by omega) (by omega))) (by simp) ?_
      rintro σ2 ⟨r, o', ⟨rfl, rfl⟩, hσ⟩
      obtain rfl := Option.some.inj hσ
      clear hσ
      refine AH_one (i := 3) (by kernel_rfl) (step_call [] rfl rfl rfl rfl rfl rfl (toFlatD_ct f (by omega) (by omega))) (by simp) ?_
      rintro σ2 ⟨r, o', ⟨rfl, rfl⟩, hσ⟩
      obtain rfl := Option.some.inj hσ
      clear hσ
      refine AH_one (i := 4) (by kernel_rfl) (step_call [] rfl rfl rfl rfl rfl rfl (hd)) (by simp) ?_
      rintro σ2 ⟨r, o', ⟨rfl, rfl⟩, hσ⟩
      obtain rfl := Option.some.inj hσ
      clear hσ
      refine drn [5, 6, 7] (by kernel_rfl) (by kernel_rfl) rfl rfl ?_
      refine AH_oneDid 9 rfl (by kernel_rfl) rfl (dA_step rfl) (mdOk rfl) ?_
      refine drn [10] (by kernel_rfl) (by kernel_rfl) rfl rfl ?_
      refine AH_end (by kernel_rfl) ?_
      refine rn rfl ?_
      exact cut_nrm [16, 15, 13, 10, 7, 6] [2, 13, 10, 11, 12, 14] rfl rfl
  rintro _ rfl
  refine rn rfl ?_
  refine goal_step (step_call [] rfl rfl rfl rfl rfl rfl (eqPart_ct R (by omega) (by omega) (by omega))) ?_
  rintro σ2 ⟨r, o', ⟨rfl, rfl⟩, hσ⟩
  obtain rfl := Option.some.inj hσ
  clear hσ
  refine rn rfl ?_
  refine goal_guard rfl rfl rfl (fun h1 => by cases h1) (fun _ => ?_)
  refine rn rfl ?_
  refine goal_cond rfl (fun h => by simp at h) (fun _ => ?_)
  refine rn rfl ?_
  refine goal_step (step_lendE [] rfl rfl rfl rfl rfl rfl rfl (hsq) (heldPart_ct R.sig.length R.flat.places.length R.flat.named.length (by omega) (by omega) (by omega)) (by rintro r o ⟨rfl, rfl⟩; exact ⟨rfl, rfl⟩)) ?_
  rintro σ2 ⟨r, o', ⟨rfl, rfl⟩, hσ⟩
  obtain rfl := Option.some.inj hσ
  clear hσ
  refine rn rfl ?_
  refine goal_cond rfl (fun h => ?_) (fun h => ?_) <;> simp only [decide_eq_true_eq, decide_eq_false_iff_not] at h
  · omega
  refine rn rfl ?_
  refine goal_cond rfl (fun h => by simp at h) (fun _ => ?_)
  exact rn rfl (fin_is [] rfl ⟨rfl, rfl⟩)

end Go.Proofs.YtekdhmddibfidaaGreat
