/- Helpers of the laws: marks. -/
import Derived.Test.YtkjbjgndinjdpaaCc
set_option linter.unusedVariables false
set_option linter.unusedSimpArgs false
namespace Go.Proofs.Ytkjbjgndinjdpaa
open Go
set_option maxRecDepth 100000

def digs : Nat → Nat → Str → Str
  | 0, _, acc => acc
  | f + 1, q, acc => if q = 0 then acc else digs f (q / 10) (UInt8.ofNat (48 + q % 10) :: acc)
theorem digs_zero (f : Nat) (acc : Str) : digs f 0 acc = acc := by cases f <;> simp [digs]
def markText (k : Int) : Str := if k ≤ 0 then [109, 48] else 109 :: digs k.toNat k.toNat []

theorem wrap_u8 {n : Int} (h0 : 0 ≤ n) (h1 : n < 256) : IntKind.u8.wrap n = n := by
  simp only [IntKind.wrap, IntKind.bits, IntKind.signed]
  simp
  omega

theorem digit (q : Nat) : IntKind.u8.wrap (IntKind.i64.wrap (48 + Int.tmod (q : Int) 10)) = ((UInt8.ofNat (48 + q % 10)).toNat : Int) := by
  have h1 : Int.tmod (q : Int) 10 = ((q % 10 : Nat) : Int) := by
    rw [Int.tmod_eq_emod_of_nonneg (by omega)]; omega
  rw [h1, wrap64 (by omega) (by omega), wrap_u8 (by omega) (by omega)]
  simp
  omega

theorem markText_ct (k : Int) (hk : k ≤ 1099511627776) : ACalls pk 110 [.one (.int .i64 k)] [] (fun r o => r = .one (.str (markText k)) ∧ o = []) := by
  refine acalls_of_body Try.func110 rfl (by kernel_rfl) rfl ?_
  refine rn rfl ?_
  refine goal_cond rfl (fun h => ?_) (fun h => ?_) <;> simp only [decide_eq_true_eq, decide_eq_false_iff_not] at h
  · exact rn rfl (fin_is [] rfl ⟨by simp only [markText, h, if_true], rfl⟩)
  · obtain ⟨kn, rfl⟩ : ∃ n : Nat, k = n := ⟨k.toNat, by omega⟩
    refine rn rfl ?_
    refine goal_loop_keep (fun m σ => ∃ (n : Int) (f : Nat) (acc : Str), n = m ∧ m ≤ f ∧ m + acc.length ≤ kn ∧ digs kn kn [] = digs f m acc ∧
        σ = ⟨[(3, .one (.str acc)), (0, .one (.int .i64 n))], [], []⟩) kn [3, 0] [] rfl
      ⟨_, kn, [], rfl, Nat.le_refl _, by simp, rfl, rfl⟩ ?_
    rintro m σ ⟨n, f, acc, rfl, hf, hacc, hd, rfl⟩
    refine rn rfl ?_
    refine goal_cond rfl (fun h2 => ?_) (fun h2 => ?_) <;> simp only [decide_eq_true_eq, decide_eq_false_iff_not] at h2
    · refine rn rfl ?_
      refine goal_did rfl rfl (dA_ofBytes [UInt8.ofNat (48 + m % 10)] (rows := [[.int .u8 (IntKind.u8.wrap (IntKind.i64.wrap (48 + Int.tmod (m : Int) 10)))]]) (Src.os rfl rfl (Nat.le_refl 1) rfl) rfl rfl rfl rfl rfl rfl rfl rfl rfl (by simp only [List.map_cons, List.map_nil, rowB, digit])) ?_
      refine rn rfl ?_
      refine goal_did rfl rfl (dA_concat (UInt8.ofNat (48 + m % 10) :: acc) rfl rfl rfl (by simp; omega) rfl rfl) ?_
      refine rn rfl ?_
      have hq : IntKind.i64.wrap (Int.tdiv (m : Int) (Int.ofNat (9 + 1))) = ((m / 10 : Nat) : Int) := by
        have h1 : Int.tdiv (m : Int) (Int.ofNat (9 + 1)) = ((m / 10 : Nat) : Int) := by
          rw [Int.tdiv_eq_ediv_of_nonneg (by omega)]; simp
        rw [h1]; exact wrap64 (by omega) (by omega)
      refine round_keep (m / 10) [3, 0] [] (by omega) rfl ⟨_, f - 1, _, hq, by omega, ?_, ?_, rfl⟩
      · simp only [List.length_cons]; omega
      · rw [hd]
        obtain ⟨f', rfl⟩ : ∃ f', f = f' + 1 := ⟨f - 1, by omega⟩
        simp only [digs, if_neg (show ¬ m = 0 by omega), Nat.add_sub_cancel]
    · refine rn rfl ?_
      refine round_ext ?_
      refine rn rfl ?_
      have hm : m = 0 := by omega
      subst hm
      rw [digs_zero] at hd
      refine goal_did rfl rfl (dA_concat (109 :: acc) rfl rfl rfl (by simp; omega) rfl rfl) ?_
      refine rn rfl (fin_is [] rfl ⟨?_, rfl⟩)
      simp only [markText, if_neg h, Int.toNat_natCast, hd]

def seqI (k : Int) : Nat → List Int
  | 0 => []
  | n + 1 => k :: seqI (k + 1) n
def seqP (k : Int) : Nat → List Pair
  | 0 => []
  | n + 1 => ⟨markText k, k + 1⟩ :: seqP (k + 2) n
theorem seqI_length : ∀ (n : Nat) (k : Int), (seqI k n).length = n
  | 0, k => rfl
  | n + 1, k => by simp [seqI, seqI_length n]
theorem seqP_length : ∀ (n : Nat) (k : Int), (seqP k n).length = n
  | 0, k => rfl
  | n + 1, k => by simp [seqP, seqP_length n]
theorem seqI_at : ∀ (n : Nat) (k : Int) (i : Nat), i < n → (seqI k n)[i]? = some (k + i)
  | n + 1, k, 0, _ => by simp [seqI]
  | n + 1, k, i + 1, h => by simp only [seqI, List.getElem?_cons_succ, seqI_at n (k + 1) i (by omega), Option.some.injEq]; omega
theorem seqP_at : ∀ (n : Nat) (k : Int) (i : Nat), i < n → (seqP k n)[i]? = some ⟨markText (k + 2 * i), k + 2 * i + 1⟩
  | n + 1, k, 0, _ => by simp [seqP]
  | n + 1, k, i + 1, h => by
    have e1 : k + 2 + 2 * (i : Int) = k + 2 * ((i + 1 : Nat) : Int) := by omega
    simp only [seqP, List.getElem?_cons_succ, seqP_at n (k + 2) i (by omega), e1]

theorem markIntS_ct (xs : List Int) (k : Int) (kc : Nat) (hl : xs.length ≤ 2097152) (hk : 0 ≤ k) (hk' : k ≤ 16777216) :
    ACalls pk 65 [.one (.os 0 0 xs.length kc), .one (.int .i64 k)] [ownI xs] (fun r o => r = .one (.int .i64 (k + xs.length)) ∧ o = [ownI (seqI k xs.length)]) := by
  refine acalls_of_body Try.func65 rfl (by kernel_rfl) rfl ?_
  refine rn rfl ?_
  refine goal_loop_keep (fun m σ => ∃ (n q : Int) (i : Nat) (ys : List Int), n = i ∧ q = k + i ∧ i ≤ xs.length ∧ m = xs.length - i ∧ ys.length = xs.length ∧ ys.take i = (seqI k xs.length).take i ∧
      σ = ⟨[(5, .one (.int .i64 n)), (1, .one (.int .i64 q)), (0, .one (.os 0 0 xs.length kc))], [ownI ys], []⟩) xs.length [5, 1, 0] [] rfl
    ⟨_, _, 0, xs, rfl, by simp, by omega, by omega, rfl, rfl, rfl⟩ ?_
  rintro m σ ⟨n, q, i, ys, rfl, rfl, hi, rfl, hys, hpre, rfl⟩
  refine rn rfl ?_
  refine goal_cond rfl (fun h => ?_) (fun h => ?_) <;> simp only [decide_eq_true_eq, decide_eq_false_iff_not] at h
  · obtain ⟨y, hy⟩ := at_some (xs := ys) (i := i) (by omega)
    refine rn rfl ?_
    refine goal_did rfl rfl (dA_indexOwn rfl rfl rfl rfl rfl rfl rfl rfl rfl (by omega) (by omega)) ?_
    refine goal_did rfl rfl (dA_storeEl (eI y) ((ys.set i (k + i)).map eI) true rfl rfl rfl rfl rfl (map_at (by simpa using hy)) rfl rfl (by simp [eI]) (by rw [map_set]; simp [patch, eI]) (fun _ => noOwnR_map _ eI_noOwn _)) ?_
    refine rn rfl ?_
    refine round_keep (xs.length - (i + 1)) [5, 1, 0] [] (by omega) rfl ⟨_, _, i + 1, ys.set i (k + i), wrap64 (by omega) (by omega), ?_, by omega, rfl, by simp [hys], take_set_step _ ys i _ (seqI_at _ _ _ (by omega)) (by rw [seqI_length]; exact hys) hpre, rfl⟩
    rw [wrap64 (by omega) (by omega)]; omega
  · refine rn rfl ?_
    refine round_ext ?_
    refine rn rfl (fin_is [] rfl ⟨?_, ?_⟩)
    · rw [show i = xs.length by omega]
    · rw [show i = xs.length by omega] at hpre
      have h1 : ys = seqI k xs.length := by
        have := hpre
        rwa [← hys, List.take_length, hys, List.take_of_length_le (by rw [seqI_length]; exact Nat.le_refl _)] at this
      rw [← h1]; rfl

theorem heldIntS_ct (n0 : Nat) (k : Int) (hl : n0 ≤ 2097152) (hk : 0 ≤ k) (hk' : k ≤ 16777216) :
    ACalls pk 67 [.one (.fs ((seqI k n0).map eI)), .one (.int .i64 k)] [] (fun r o => r = .one (.int .i64 (k + n0)) ∧ o = []) := by
  refine acalls_of_body Try.func67 rfl (by kernel_rfl) rfl ?_
  refine rn rfl ?_
  have hlen := seqI_length n0 k
  refine goal_loop_keep (fun m σ => ∃ (n q : Int) (i : Nat), n = i ∧ q = k + i ∧ i ≤ n0 ∧ m = n0 - i ∧
      σ = ⟨[(5, .one (.int .i64 n)), (1, .one (.int .i64 q)), (0, .one (.fs ((seqI k n0).map eI)))], [], []⟩) n0 [5, 1, 0] [] rfl
    ⟨_, _, 0, rfl, by simp, by omega, by omega, rfl⟩ ?_
  rintro m σ ⟨n, q, i, rfl, rfl, hi, rfl, rfl⟩
  refine rn rfl ?_
  refine goal_cond rfl (fun h => ?_) (fun h => ?_) <;> simp only [decide_eq_true_eq, decide_eq_false_iff_not, List.length_map, hlen] at h
  · have hx := seqI_at n0 k i (by omega)
    refine rn rfl ?_
    refine goal_did rfl rfl (dA_index (eI (k + i)) rfl rfl rfl rfl rfl rfl rfl (by omega) (by simp [hlen]; omega) (map_at (by simpa using hx)) rfl) ?_
    refine rn rfl ?_
    refine goal_cond rfl (fun h2 => ?_) (fun h2 => ?_) <;> simp only [bne_iff_ne, ne_eq, bne_eq_false_iff_eq, not_true_eq_false] at h2
    · refine rn rfl ?_
      refine round_keep (n0 - (i + 1)) [5, 1, 0] [] (by omega) rfl ⟨_, _, i + 1, wrap64 (by omega) (by omega), ?_, by omega, rfl, rfl⟩
      rw [wrap64 (by omega) (by omega)]; omega
  · refine rn rfl ?_
    refine round_ext ?_
    refine rn rfl (fin_is [] rfl ⟨?_, rfl⟩)
    rw [show i = n0 by omega]

theorem set_at {α : Type} {xs : List α} {i j : Nat} {x : α} (hj : j = i) (h : i < xs.length) : (xs.set i x)[j]? = some x := by subst hj; simp [h]
theorem set_set {α : Type} (xs : List α) (i : Nat) (x y : α) : (xs.set i x).set i y = xs.set i y := by simp

theorem markPairS_ct (xs : List Pair) (k : Int) (kc : Nat) (hl : xs.length ≤ 2097152) (hk : 0 ≤ k) (hk' : k ≤ 16777216) :
    ACalls pk 66 [.one (.os 0 0 xs.length kc), .one (.int .i64 k)] [ownP xs] (fun r o => r = .one (.int .i64 (k + 2 * xs.length)) ∧ o = [ownP (seqP k xs.length)]) := by
  refine acalls_of_body Try.func66 rfl (by kernel_rfl) rfl ?_
  refine rn rfl ?_
  refine goal_loop_keep (fun m σ => ∃ (n q : Int) (i : Nat) (ys : List Pair), n = i ∧ q = k + 2 * i ∧ i ≤ xs.length ∧ m = xs.length - i ∧ ys.length = xs.length ∧ ys.take i = (seqP k xs.length).take i ∧
      σ = ⟨[(5, .one (.int .i64 n)), (1, .one (.int .i64 q)), (0, .one (.os 0 0 xs.length kc))], [ownP ys], []⟩) xs.length [5, 1, 0] [] rfl
    ⟨_, _, 0, xs, rfl, by simp, by omega, by omega, rfl, rfl, rfl⟩ ?_
  rintro m σ ⟨n, q, i, ys, rfl, rfl, hi, rfl, hys, hpre, rfl⟩
  refine rn rfl ?_
  refine goal_cond rfl (fun h => ?_) (fun h => ?_) <;> simp only [decide_eq_true_eq, decide_eq_false_iff_not] at h
  · obtain ⟨y, hy⟩ := at_some (xs := ys) (i := i) (by omega)
    refine rn rfl ?_
    refine goal_step (step_call [] rfl rfl rfl rfl rfl rfl (markText_ct (k + 2 * i) (by omega))) ?_
    rintro σ2 ⟨r, o', ⟨rfl, rfl⟩, hσ⟩
    obtain rfl := Option.some.inj hσ
    refine goal_did rfl rfl (dA_indexOwn rfl rfl rfl rfl rfl rfl rfl rfl rfl (by omega) (by omega)) ?_
    refine goal_did rfl rfl (dA_step rfl) ?_
    refine goal_did rfl rfl (dA_storeEl (eP y) ((ys.set i ⟨markText (k + 2 * i), y.value⟩).map eP) true rfl rfl rfl rfl rfl (map_at (by simpa using hy)) rfl rfl (by simp [eP]) (by rw [map_set]; simp [patch, eP]) (fun _ => noOwnR_map _ eP_noOwn _)) ?_
    refine rn rfl ?_
    refine goal_did rfl rfl (dA_indexOwn rfl rfl rfl rfl rfl rfl rfl rfl rfl (by omega) (by omega)) ?_
    refine goal_did rfl rfl (dA_step rfl) ?_
    have hw : IntKind.i64.wrap (k + 2 * i + 1) = k + 2 * i + 1 := wrap64 (by omega) (by omega)
    refine goal_did rfl rfl (dA_storeEl (eP ⟨markText (k + 2 * i), y.value⟩) ((ys.set i ⟨markText (k + 2 * i), k + 2 * i + 1⟩).map eP) true rfl rfl rfl rfl rfl (map_at (set_at (by simp) (by omega))) rfl rfl (by simp [eP]) (by simp only [map_set, patch, eP, hw]; simp) (fun _ => noOwnR_map _ eP_noOwn _)) ?_
    refine rn rfl ?_
    refine round_keep (xs.length - (i + 1)) [5, 1, 0] [] (by omega) rfl ⟨_, _, i + 1, ys.set i _, wrap64 (by omega) (by omega), ?_, by omega, rfl, by simp [hys], take_set_step _ ys i _ (seqP_at _ _ _ (by omega)) (by rw [seqP_length]; exact hys) hpre, rfl⟩
    rw [hw, wrap64 (by omega) (by omega)]; omega
  · refine rn rfl ?_
    refine round_ext ?_
    refine rn rfl (fin_is [] rfl ⟨?_, ?_⟩)
    · rw [show i = xs.length by omega]
    · rw [show i = xs.length by omega] at hpre
      have h1 : ys = seqP k xs.length := by
        have := hpre
        rwa [← hys, List.take_length, hys, List.take_of_length_le (by rw [seqP_length]; exact Nat.le_refl _)] at this
      rw [← h1]; rfl

theorem heldPairS_ct (n0 : Nat) (k : Int) (hl : n0 ≤ 2097152) (hk : 0 ≤ k) (hk' : k ≤ 16777216) :
    ACalls pk 68 [.one (.fs ((seqP k n0).map eP)), .one (.int .i64 k)] [] (fun r o => r = .one (.int .i64 (k + 2 * n0)) ∧ o = []) := by
  refine acalls_of_body Try.func68 rfl (by kernel_rfl) rfl ?_
  refine rn rfl ?_
  have hlen := seqP_length n0 k
  refine goal_loop_keep (fun m σ => ∃ (n q : Int) (i : Nat), n = i ∧ q = k + 2 * i ∧ i ≤ n0 ∧ m = n0 - i ∧
      σ = ⟨[(5, .one (.int .i64 n)), (1, .one (.int .i64 q)), (0, .one (.fs ((seqP k n0).map eP)))], [], []⟩) n0 [5, 1, 0] [] rfl
    ⟨_, _, 0, rfl, by simp, by omega, by omega, rfl⟩ ?_
  rintro m σ ⟨n, q, i, rfl, rfl, hi, rfl, rfl⟩
  refine rn rfl ?_
  refine goal_cond rfl (fun h => ?_) (fun h => ?_) <;> simp only [decide_eq_true_eq, decide_eq_false_iff_not, List.length_map, hlen] at h
  · have hx := seqP_at n0 k i (by omega)
    have hw : IntKind.i64.wrap (k + 2 * i + 1) = k + 2 * i + 1 := wrap64 (by omega) (by omega)
    refine rn rfl ?_
    refine goal_draw' [] 8 rfl ?_
    refine drn [0, 1, 5] (by kernel_rfl) (by kernel_rfl) rfl rfl ?_
    refine AH_did 2 rfl (by kernel_rfl) (by kernel_rfl) (by kernel_rfl) rfl rfl (dA_index (eP ⟨markText (k + 2 * i), k + 2 * i + 1⟩) rfl rfl rfl rfl rfl rfl rfl (by omega) (by simp [hlen]; omega) (map_at (by simpa using hx)) rfl) ?_
    refine drn [3, 4] (by kernel_rfl) (by kernel_rfl) rfl rfl ?_
    refine AH_one (i := 6) (by kernel_rfl) (step_call [] rfl rfl rfl rfl rfl rfl (markText_ct (k + 2 * i) (by omega))) (by simp) ?_
    rintro σ2 ⟨r, o', ⟨rfl, rfl⟩, hσ⟩
    obtain rfl := Option.some.inj hσ
    refine drn [7] (by kernel_rfl) (by kernel_rfl) rfl rfl ?_
    refine AH_end (by kernel_rfl) ?_
    refine rn rfl ?_
    refine goal_cond rfl (fun h2 => ?_) (fun h2 => ?_) <;> simp only [Bool.not_eq_true', Bool.not_eq_false', beq_self_eq_true, Bool.true_eq_false] at h2
    · refine rn rfl ?_
      refine goal_did rfl rfl (dA_index (eP ⟨markText (k + 2 * i), k + 2 * i + 1⟩) rfl rfl rfl rfl rfl rfl rfl (by omega) (by simp [hlen]; omega) (map_at (by simpa using hx)) rfl) ?_
      refine rn rfl ?_
      refine goal_cond rfl (fun h3 => ?_) (fun h3 => ?_) <;> simp only [bne_iff_ne, ne_eq, bne_eq_false_iff_eq, hw, not_true_eq_false] at h3
      · refine rn rfl ?_
        refine round_keep (n0 - (i + 1)) [5, 1, 0] [] (by omega) rfl ⟨_, _, i + 1, wrap64 (by omega) (by omega), ?_, by omega, rfl, rfl⟩
        rw [hw, wrap64 (by omega) (by omega)]; omega
  · refine rn rfl ?_
    refine round_ext ?_
    refine rn rfl (fin_is [] rfl ⟨?_, rfl⟩)
    rw [show i = n0 by omega]

/-- What marks make of a flat. -/
def seqF (a b : Nat) : Flat := ⟨seqI 1 a, seqP (1 + a) b⟩

theorem markFlat_ct (f : Flat) (kc kd : Nat) (h1 : f.places.length ≤ 2097152) (h2 : f.named.length ≤ 2097152) :
    ACalls pk 24 [.agg [.os 0 0 f.places.length kc, .os 1 0 f.named.length kd], .one (.int .i64 1)] (oF f)
      (fun r o => r = .one (.int .i64 (1 + f.places.length + 2 * f.named.length)) ∧ o = oF (seqF f.places.length f.named.length)) := by
  refine acalls_of_body Try.func24 rfl (by kernel_rfl) rfl ?_
  refine rn rfl ?_
  refine goal_step (step_call [0] rfl rfl rfl rfl rfl rfl (markIntS_ct f.places 1 kc h1 (by omega) (by omega))) ?_
  rintro σ2 ⟨r, o', ⟨rfl, rfl⟩, hσ⟩
  obtain rfl := Option.some.inj hσ
  refine rn rfl ?_
  refine goal_step (step_call [1] rfl rfl rfl rfl rfl rfl (markPairS_ct f.named (1 + f.places.length) kd h2 (by omega) (by omega))) ?_
  rintro σ2 ⟨r, o', ⟨rfl, rfl⟩, hσ⟩
  obtain rfl := Option.some.inj hσ
  exact rn rfl (fin_is [] rfl ⟨rfl, rfl⟩)

theorem heldFlat_ct (a b : Nat) (h1 : a ≤ 2097152) (h2 : b ≤ 2097152) :
    ACalls pk 25 [.agg (eF (seqF a b)), .one (.int .i64 1)] [] (fun r o => r = .one (.int .i64 (1 + a + 2 * b)) ∧ o = []) := by
  refine acalls_of_body Try.func25 rfl (by kernel_rfl) rfl ?_
  refine rn rfl ?_
  refine goal_step (step_call [] rfl rfl rfl rfl rfl rfl (heldIntS_ct a 1 h1 (by omega) (by omega))) ?_
  rintro σ2 ⟨r, o', ⟨rfl, rfl⟩, hσ⟩
  obtain rfl := Option.some.inj hσ
  refine rn rfl ?_
  refine goal_cond rfl (fun h => ?_) (fun h => ?_) <;> simp only [decide_eq_true_eq, decide_eq_false_iff_not] at h
  · omega
  · refine rn rfl ?_
    refine goal_step (step_call [] rfl rfl rfl rfl rfl rfl (heldPairS_ct b (1 + a) h2 (by omega) (by omega))) ?_
    rintro σ2 ⟨r, o', ⟨rfl, rfl⟩, hσ⟩
    obtain rfl := Option.some.inj hσ
    refine rn rfl ?_
    refine goal_cond rfl (fun h => ?_) (fun h => ?_) <;> simp only [decide_eq_true_eq, decide_eq_false_iff_not] at h
    · omega
    · exact rn rfl (fin_is [] rfl ⟨rfl, rfl⟩)
end Go.Proofs.Ytkjbjgndinjdpaa
