/- Where a name stands; lists of values, of pairs. -/
import Derived.Test.YtkjbjgndinjdpaaCf
set_option linter.unusedVariables false
set_option linter.unusedSimpArgs false
namespace Go.Proofs.Ytkjbjgndinjdpaa
open Go
set_option maxRecDepth 100000

def idxI {α : Type} (pred : α → Bool) : List α → Nat → Int
  | [], _ => -1
  | x :: xs, i => if pred x then i else idxI pred xs (i + 1)
theorem idxI_none {α : Type} {pred : α → Bool} : ∀ {xs : List α} {i : Nat}, idxI pred xs i = -1 ↔ xs.any pred = false
  | [], i => by simp [idxI]
  | x :: xs, i => by
    simp only [idxI, List.any_cons, Bool.or_eq_false_iff]
    cases h : pred x with
    | true => simp
    | false => simp [idxI_none (xs := xs)]
theorem idxI_some {α : Type} {pred : α → Bool} : ∀ {xs : List α} {i : Nat}, xs.any pred = true → idxI pred xs i = ((i + xs.findIdx pred : Nat) : Int)
  | [], i, h => by simp at h
  | x :: xs, i, h => by
    simp only [idxI, List.findIdx_cons]
    cases hp : pred x with
    | true => simp
    | false =>
      simp only [List.any_cons, hp, Bool.false_or] at h
      simp only [Bool.false_eq_true, if_false, idxI_some h, cond_false]
      omega
theorem idxI_ge {α : Type} {pred : α → Bool} {xs : List α} {i : Nat} : (0 ≤ idxI pred xs i) ↔ xs.any pred = true := by
  cases h : xs.any pred with
  | true => rw [idxI_some h]; simp; omega
  | false => rw [idxI_none.2 h]; simp

def nameIs (n : Str) (p : Pair) : Bool := p.name == n
def pairIx (ps : List Pair) (n : Str) : Int := idxI (nameIs n) ps 0

theorem pairAtC_ct (p : Pair) (n : Str) : ACalls pk 76 [.agg (eP p), .one (.fp [.str n])] [] (fun r o => r = .one (.bool (nameIs n p)) ∧ o = []) := by
  refine acalls_of_body Try.func76 rfl (by kernel_rfl) rfl ?_
  exact rn rfl (fin_is [] rfl ⟨rfl, rfl⟩)

theorem indexPair_ct (ps : List Pair) (hb : ps.length ≤ 1152921504606846976) (pred : Pair → Bool) (f : FuncId) (cs : List C)
    (hcl : ∀ p, ACalls pk f [.agg (eP p), .one (.fp cs)] [] (fun r o => r = .one (.bool (pred p)) ∧ o = [])) :
    ACalls pk 75 [.one (.fs (ps.map eP)), .one (.fn f [.fp cs])] [] (fun r o => r = .one (.int .i64 (idxI pred ps 0)) ∧ o = []) := by
  refine acalls_of_body Try.func75 rfl (by kernel_rfl) rfl ?_
  refine rn rfl ?_
  refine goal_loop_keep (fun m σ => ∃ (n L : Int) (i : Nat), n = i ∧ L = ps.length ∧ i ≤ ps.length ∧ m = ps.length - i ∧ idxI pred ps 0 = idxI pred (ps.drop i) i ∧
      σ = ⟨[(8, .one (.int .i64 n)), (7, .one (.int .i64 L)), (1, .one (.fn f [.fp cs])), (0, .one (.fs (ps.map eP)))], [], []⟩) ps.length [8, 7, 1, 0] [] rfl
    ⟨_, _, 0, rfl, by simp, by omega, by omega, by simp, rfl⟩ ?_
  rintro m σ ⟨n, L, i, rfl, rfl, hi, rfl, hidx, rfl⟩
  refine rn rfl ?_
  refine goal_cond rfl (fun h => ?_) (fun h => ?_) <;> simp only [decide_eq_true_eq, decide_eq_false_iff_not] at h
  · obtain ⟨p, hp⟩ := at_some (xs := ps) (i := i) (by omega)
    refine rn rfl ?_
    refine goal_did rfl rfl (dA_index (eP p) rfl rfl rfl rfl rfl rfl rfl (by omega) (by simp; omega) (map_at (by simpa using hp)) rfl) ?_
    refine rn rfl ?_
    refine goal_step (step_call [] rfl rfl rfl rfl rfl rfl (hcl p)) ?_
    rintro σ2 ⟨r, o', ⟨rfl, rfl⟩, hσ⟩
    obtain rfl := Option.some.inj hσ
    refine rn rfl ?_
    refine goal_cond rfl (fun h2 => ?_) (fun h2 => ?_)
    · refine rn rfl (round_ret (fin_is [] rfl ⟨?_, rfl⟩))
      rw [hidx, drop_at hp]; simp [idxI, h2]
    · refine rn rfl ?_
      refine round_keep (ps.length - (i + 1)) [8, 7, 1, 0] [] (by omega) rfl ⟨_, _, i + 1, wrap64 (by omega) (by omega), rfl, by omega, rfl, ?_, rfl⟩
      rw [hidx, drop_at hp]; simp [idxI, h2]
  · refine rn rfl (round_ext ?_)
    refine rn rfl (fin_is [] rfl ⟨?_, rfl⟩)
    rw [hidx, List.drop_eq_nil_of_le (by omega)]; rfl

theorem ipairAt_ct (ps : List Pair) (n : Str) (hb : ps.length ≤ 1152921504606846976) :
    ACalls pk 30 [.one (.fs (ps.map eP)), .one (.str n)] [] (fun r o => r = .one (.int .i64 (pairIx ps n)) ∧ o = []) := by
  refine acalls_of_body Try.func30 rfl (by kernel_rfl) rfl ?_
  refine rn rfl ?_
  refine goal_step (step_call [] rfl rfl rfl rfl rfl rfl (indexPair_ct ps hb (nameIs n) _ _ (fun p => pairAtC_ct p n))) ?_
  rintro σ2 ⟨r, o', ⟨rfl, rfl⟩, hσ⟩
  obtain rfl := Option.some.inj hσ
  exact rn rfl (fin_is [] rfl ⟨rfl, rfl⟩)

theorem spairAt_ct (ps : List Pair) (n : Str) (hb : ps.length ≤ 1152921504606846976) :
    ACalls pk 46 [.one (.fs (ps.map eP)), .one (.str n)] [] (fun r o => r = .one (.int .i64 (pairIx ps n)) ∧ o = []) := by
  refine acalls_of_body Try.func46 rfl (by kernel_rfl) rfl ?_
  refine rn rfl ?_
  refine goal_loop_keep (fun m σ => ∃ (q : Int) (i : Nat), q = i ∧ i ≤ ps.length ∧ m = ps.length - i ∧ pairIx ps n = idxI (nameIs n) (ps.drop i) i ∧
      σ = ⟨[(5, .one (.int .i64 q)), (1, .one (.str n)), (0, .one (.fs (ps.map eP)))], [], []⟩) ps.length [5, 1, 0] [] rfl
    ⟨_, 0, rfl, by omega, by omega, by simp [pairIx], rfl⟩ ?_
  rintro m σ ⟨q, i, rfl, hi, rfl, hidx, rfl⟩
  refine rn rfl ?_
  refine goal_cond rfl (fun h => ?_) (fun h => ?_) <;> simp only [decide_eq_true_eq, decide_eq_false_iff_not, List.length_map] at h
  · obtain ⟨p, hp⟩ := at_some (xs := ps) (i := i) (by omega)
    refine rn rfl ?_
    refine goal_did rfl rfl (dA_index (eP p) rfl rfl rfl rfl rfl rfl rfl (by omega) (by simp; omega) (map_at (by simpa using hp)) rfl) ?_
    refine rn rfl ?_
    refine goal_cond rfl (fun h2 => ?_) (fun h2 => ?_)
    · refine rn rfl (round_ret (fin_is [] rfl ⟨?_, rfl⟩))
      rw [hidx, drop_at hp]; simp [idxI, nameIs, h2]
    · refine rn rfl ?_
      refine round_keep (ps.length - (i + 1)) [5, 1, 0] [] (by omega) rfl ⟨_, i + 1, wrap64 (by omega) (by omega), by omega, rfl, ?_, rfl⟩
      rw [hidx, drop_at hp]; simp [idxI, nameIs, h2]
  · refine rn rfl (round_ext ?_)
    refine rn rfl (fin_is [] rfl ⟨?_, rfl⟩)
    rw [hidx, List.drop_eq_nil_of_le (by omega)]; rfl

/-! ### lists of values -/
theorem indexInt_ct (xs : List Int) (hb : xs.length ≤ 1152921504606846976) (pred : Int → Bool) (f : FuncId)
    (hcl : ∀ p, ACalls pk f [.one (.int .i64 p)] [] (fun r o => r = .one (.bool (pred p)) ∧ o = [])) :
    ACalls pk 141 [.one (.fs (xs.map eI)), .one (.fn f [])] [] (fun r o => r = .one (.int .i64 (idxI pred xs 0)) ∧ o = []) := by
  refine acalls_of_body Try.func141 rfl (by kernel_rfl) rfl ?_
  refine rn rfl ?_
  refine goal_loop_keep (fun m σ => ∃ (n L : Int) (i : Nat), n = i ∧ L = xs.length ∧ i ≤ xs.length ∧ m = xs.length - i ∧ idxI pred xs 0 = idxI pred (xs.drop i) i ∧
      σ = ⟨[(8, .one (.int .i64 n)), (7, .one (.int .i64 L)), (1, .one (.fn f [])), (0, .one (.fs (xs.map eI)))], [], []⟩) xs.length [8, 7, 1, 0] [] rfl
    ⟨_, _, 0, rfl, by simp, by omega, by omega, by simp, rfl⟩ ?_
  rintro m σ ⟨n, L, i, rfl, rfl, hi, rfl, hidx, rfl⟩
  refine rn rfl ?_
  refine goal_cond rfl (fun h => ?_) (fun h => ?_) <;> simp only [decide_eq_true_eq, decide_eq_false_iff_not] at h
  · obtain ⟨p, hp⟩ := at_some (xs := xs) (i := i) (by omega)
    refine rn rfl ?_
    refine goal_did rfl rfl (dA_index (eI p) rfl rfl rfl rfl rfl rfl rfl (by omega) (by simp; omega) (map_at (by simpa using hp)) rfl) ?_
    refine rn rfl ?_
    refine goal_step (step_call [] rfl rfl rfl rfl rfl rfl (hcl p)) ?_
    rintro σ2 ⟨r, o', ⟨rfl, rfl⟩, hσ⟩
    obtain rfl := Option.some.inj hσ
    refine rn rfl ?_
    refine goal_cond rfl (fun h2 => ?_) (fun h2 => ?_)
    · refine rn rfl (round_ret (fin_is [] rfl ⟨?_, rfl⟩))
      rw [hidx, drop_at hp]; simp [idxI, h2]
    · refine rn rfl ?_
      refine round_keep (xs.length - (i + 1)) [8, 7, 1, 0] [] (by omega) rfl ⟨_, _, i + 1, wrap64 (by omega) (by omega), rfl, by omega, rfl, ?_, rfl⟩
      rw [hidx, drop_at hp]; simp [idxI, h2]
  · refine rn rfl (round_ext ?_)
    refine rn rfl (fin_is [] rfl ⟨?_, rfl⟩)
    rw [hidx, List.drop_eq_nil_of_le (by omega)]; rfl

theorem notValue_ct (n : Int) : ACalls pk 131 [.one (.int .i64 n)] [] (fun r o => r = .one (.bool (!okVal n)) ∧ o = []) := by
  refine acalls_of_body Try.func131 rfl (by kernel_rfl) rfl ?_
  refine rn rfl ?_
  refine goal_step (step_call [] rfl rfl rfl rfl rfl rfl (isValue_ct n)) ?_
  rintro σ2 ⟨r, o', ⟨rfl, rfl⟩, hσ⟩
  obtain rfl := Option.some.inj hσ
  exact rn rfl (fin_is [] rfl ⟨rfl, rfl⟩)

theorem containsInt_ct (xs : List Int) (hb : xs.length ≤ 1152921504606846976) (pred : Int → Bool) (f : FuncId)
    (hcl : ∀ p, ACalls pk f [.one (.int .i64 p)] [] (fun r o => r = .one (.bool (pred p)) ∧ o = [])) :
    ACalls pk 130 [.one (.fs (xs.map eI)), .one (.fn f [])] [] (fun r o => r = .one (.bool (xs.any pred)) ∧ o = []) := by
  refine acalls_of_body Try.func130 rfl (by kernel_rfl) rfl ?_
  refine rn rfl ?_
  refine goal_step (step_call [] rfl rfl rfl rfl rfl rfl (indexInt_ct xs hb pred f hcl)) ?_
  rintro σ2 ⟨r, o', ⟨rfl, rfl⟩, hσ⟩
  obtain rfl := Option.some.inj hσ
  refine rn rfl (fin_is [] rfl ⟨?_, rfl⟩)
  cases h : xs.any pred with
  | true => simp [idxI_ge, h]
  | false => simp [idxI_ge, h]

theorem areValues_ct (xs : List Int) (hb : xs.length ≤ 1152921504606846976) :
    ACalls pk 97 [.one (.fs (xs.map eI))] [] (fun r o => r = .one (.bool (xs.all okVal)) ∧ o = []) := by
  refine acalls_of_body Try.func97 rfl (by kernel_rfl) rfl ?_
  refine rn rfl ?_
  refine goal_step (step_call [] rfl rfl rfl rfl rfl rfl (containsInt_ct xs hb (fun n => !okVal n) _ notValue_ct)) ?_
  rintro σ2 ⟨r, o', ⟨rfl, rfl⟩, hσ⟩
  obtain rfl := Option.some.inj hσ
  refine rn rfl (fin_is [] rfl ⟨?_, rfl⟩)
  congr 2
  rw [List.all_eq_not_any_not]

theorem validNumbers_ct (xs : List Int) (hb : xs.length ≤ 1152921504606846976) :
    ACalls pk 100 [.one (.fs (xs.map eI))] [] (fun r o => r = .one (.bool (xs.all okVal)) ∧ o = []) := by
  refine acalls_of_body Try.func100 rfl (by kernel_rfl) rfl ?_
  refine rn rfl ?_
  refine goal_loop_keep (fun m σ => ∃ (n : Int) (i : Nat), n = i ∧ i ≤ xs.length ∧ m = xs.length - i ∧ (xs.take i).all okVal = true ∧
      σ = ⟨[(3, .one (.int .i64 n)), (0, .one (.fs (xs.map eI)))], [], []⟩) xs.length [3, 0] [] rfl
    ⟨_, 0, rfl, by omega, by omega, rfl, rfl⟩ ?_
  rintro m σ ⟨n, i, rfl, hi, rfl, hall, rfl⟩
  refine rn rfl ?_
  refine goal_cond rfl (fun h => ?_) (fun h => ?_) <;> simp only [decide_eq_true_eq, decide_eq_false_iff_not, List.length_map] at h
  · obtain ⟨b, hb'⟩ := at_some (xs := xs) (i := i) (by omega)
    have hst := all_take_succ (p := okVal) hb'
    refine rn rfl ?_
    refine goal_did rfl rfl (dA_index (eI b) rfl rfl rfl rfl rfl rfl rfl (by omega) (by simp; omega) (map_at (by simpa using hb')) rfl) ?_
    refine rn rfl ?_
    refine goal_step (step_call [] rfl rfl rfl rfl rfl rfl (validNumber_ct b)) ?_
    rintro σ2 ⟨r, o', ⟨rfl, rfl⟩, hσ⟩
    obtain rfl := Option.some.inj hσ
    refine rn rfl ?_
    refine goal_cond rfl (fun h2 => ?_) (fun h2 => ?_) <;> simp only [Bool.not_eq_true', Bool.not_eq_false'] at h2
    · refine rn rfl (round_ret (fin_is [] rfl ⟨?_, rfl⟩))
      rw [h2, Bool.and_false] at hst
      simp [all_false_of_take hst]
    · refine rn rfl ?_
      refine round_keep (xs.length - (i + 1)) [3, 0] [] (by omega) rfl ⟨_, i + 1, wrap64 (by omega) (by omega), by omega, rfl, by rw [hst, hall, h2]; rfl, rfl⟩
  · refine rn rfl (round_ext ?_)
    refine rn rfl (fin_is [] rfl ⟨?_, rfl⟩)
    rw [show i = xs.length by omega, List.take_length] at hall
    simp [hall]

theorem validPairs_ct (xs : List Pair) (hb : xs.length ≤ 1152921504606846976) (hn : ∀ p ∈ xs, p.name.length ≤ 9223372036854775807) :
    ACalls pk 101 [.one (.fs (xs.map eP))] [] (fun r o => r = .one (.bool (xs.all okPair)) ∧ o = []) := by
  refine acalls_of_body Try.func101 rfl (by kernel_rfl) rfl ?_
  refine rn rfl ?_
  refine goal_loop_keep (fun m σ => ∃ (n : Int) (i : Nat), n = i ∧ i ≤ xs.length ∧ m = xs.length - i ∧ (xs.take i).all okPair = true ∧
      σ = ⟨[(3, .one (.int .i64 n)), (0, .one (.fs (xs.map eP)))], [], []⟩) xs.length [3, 0] [] rfl
    ⟨_, 0, rfl, by omega, by omega, rfl, rfl⟩ ?_
  rintro m σ ⟨n, i, rfl, hi, rfl, hall, rfl⟩
  refine rn rfl ?_
  refine goal_cond rfl (fun h => ?_) (fun h => ?_) <;> simp only [decide_eq_true_eq, decide_eq_false_iff_not, List.length_map] at h
  · obtain ⟨b, hb'⟩ := at_some (xs := xs) (i := i) (by omega)
    have hst := all_take_succ (p := okPair) hb'
    refine rn rfl ?_
    refine goal_did rfl rfl (dA_index (eP b) rfl rfl rfl rfl rfl rfl rfl (by omega) (by simp; omega) (map_at (by simpa using hb')) rfl) ?_
    refine rn rfl ?_
    refine goal_step (step_call [] rfl rfl rfl rfl rfl rfl (validName_ct b.name (hn b (List.mem_of_getElem? hb')))) ?_
    rintro σ2 ⟨r, o', ⟨rfl, rfl⟩, hσ⟩
    obtain rfl := Option.some.inj hσ
    refine rn rfl ?_
    refine goal_guard rfl rfl rfl (fun h1 => ?_) (fun h1 => ?_) <;> simp only [Bool.not_eq_true', Bool.not_eq_false'] at h1
    · refine rn rfl ?_
      refine goal_condT rfl ?_
      refine rn rfl (round_ret (fin_is [] rfl ⟨?_, rfl⟩))
      rw [show okPair b = false by simp [okPair, h1], Bool.and_false] at hst
      simp [all_false_of_take hst]
    · refine rn rfl ?_
      refine goal_did rfl rfl (dA_index (eP b) rfl rfl rfl rfl rfl rfl rfl (by omega) (by simp; omega) (map_at (by simpa using hb')) rfl) ?_
      refine rn rfl ?_
      refine goal_step (step_call [] rfl rfl rfl rfl rfl rfl (validNumber_ct b.value)) ?_
      rintro σ2 ⟨r, o', ⟨rfl, rfl⟩, hσ⟩
      obtain rfl := Option.some.inj hσ
      refine rn rfl ?_
      refine goal_cond rfl (fun h2 => ?_) (fun h2 => ?_) <;> simp only [Bool.not_eq_true', Bool.not_eq_false'] at h2
      · refine rn rfl (round_ret (fin_is [] rfl ⟨?_, rfl⟩))
        rw [show okPair b = false by simp [okPair, h1, h2], Bool.and_false] at hst
        simp [all_false_of_take hst]
      · refine rn rfl ?_
        refine round_keep (xs.length - (i + 1)) [3, 0] [] (by omega) rfl ⟨_, i + 1, wrap64 (by omega) (by omega), by omega, rfl, by rw [hst, hall, show okPair b = true by simp [okPair, h1, h2]]; rfl, rfl⟩
  · refine rn rfl (round_ext ?_)
    refine rn rfl (fin_is [] rfl ⟨?_, rfl⟩)
    rw [show i = xs.length by omega, List.take_length] at hall
    simp [hall]
end Go.Proofs.Ytkjbjgndinjdpaa
