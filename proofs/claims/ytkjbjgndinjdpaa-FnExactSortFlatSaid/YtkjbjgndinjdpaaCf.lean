/- Names, values, pairs: what is valid. -/
import Derived.Test.YtkjbjgndinjdpaaCe
set_option linter.unusedVariables false
set_option linter.unusedSimpArgs false
namespace Go.Proofs.Ytkjbjgndinjdpaa
open Go
set_option maxRecDepth 100000

def inR (n lo hi : Int) : Bool := decide (lo ≤ n) && decide (n ≤ hi)

theorem iin_ct (n lo hi : Int) : ACalls pk 78 [.one (.int .i64 n), .one (.int .i64 lo), .one (.int .i64 hi)] [] (fun r o => r = .one (.bool (inR n lo hi)) ∧ o = []) := by
  refine acalls_of_body Try.func78 rfl (by kernel_rfl) rfl ?_
  refine rn rfl ?_
  refine goal_guard rfl rfl rfl (fun h => ?_) (fun h => ?_) <;> simp only [ge_iff_le, decide_eq_true_eq, decide_eq_false_iff_not] at h
  · exact rn rfl (fin_is [] rfl ⟨by simp [inR, h], rfl⟩)
  · exact rn rfl (fin_is [] rfl ⟨by simp [inR, h], rfl⟩)
theorem sin_ct (n lo hi : Int) : ACalls pk 139 [.one (.int .i64 n), .one (.int .i64 lo), .one (.int .i64 hi)] [] (fun r o => r = .one (.bool (inR n lo hi)) ∧ o = []) := by
  refine acalls_of_body Try.func139 rfl (by kernel_rfl) rfl ?_
  refine rn rfl ?_
  refine goal_guard rfl rfl rfl (fun h => ?_) (fun h => ?_) <;> simp only [decide_eq_true_eq, decide_eq_false_iff_not] at h
  · exact rn rfl (fin_is [] rfl ⟨by simp [inR, h], rfl⟩)
  · exact rn rfl (fin_is [] rfl ⟨by simp [inR, h], rfl⟩)

def okVal (n : Int) : Bool := inR n (-99) 99
theorem isValue_ct (n : Int) : ACalls pk 79 [.one (.int .i64 n)] [] (fun r o => r = .one (.bool (okVal n)) ∧ o = []) := by
  refine acalls_of_body Try.func79 rfl (by kernel_rfl) rfl ?_
  refine rn rfl ?_
  refine goal_step (step_call [] rfl rfl rfl rfl rfl rfl (iin_ct n (-99) 99)) ?_
  rintro σ2 ⟨r, o', ⟨rfl, rfl⟩, hσ⟩
  obtain rfl := Option.some.inj hσ
  exact rn rfl (fin_is [] rfl ⟨rfl, rfl⟩)
theorem validNumber_ct (n : Int) : ACalls pk 132 [.one (.int .i64 n)] [] (fun r o => r = .one (.bool (okVal n)) ∧ o = []) := by
  refine acalls_of_body Try.func132 rfl (by kernel_rfl) rfl ?_
  refine rn rfl ?_
  refine goal_step (step_call [] rfl rfl rfl rfl rfl rfl (sin_ct n (-99) 99)) ?_
  rintro σ2 ⟨r, o', ⟨rfl, rfl⟩, hσ⟩
  obtain rfl := Option.some.inj hσ
  exact rn rfl (fin_is [] rfl ⟨rfl, rfl⟩)

def letter (b : UInt8) : Bool := decide (97 ≤ (b.toNat : Int)) && decide ((b.toNat : Int) ≤ 122)
def okName (s : Str) : Bool := s.all letter && inR s.length 1 6

theorem all_take_succ {α : Type} {p : α → Bool} {xs : List α} {i : Nat} {x : α} (h : xs[i]? = some x) : (xs.take (i + 1)).all p = ((xs.take i).all p && p x) := by
  rw [List.take_add_one, h]; simp
theorem all_false_of_take {α : Type} {p : α → Bool} {xs : List α} {i : Nat} (h : (xs.take i).all p = false) : xs.all p = false := by
  cases hb : xs.all p with
  | false => rfl
  | true =>
    rw [List.all_eq_true] at hb
    rw [List.all_eq_false] at h
    obtain ⟨x, hx, hp⟩ := h
    exact absurd (hb x (List.mem_of_mem_take hx)) hp

theorem isName_ct (s : Str) (hl : s.length ≤ 9223372036854775807) : ACalls pk 77 [.one (.str s)] [] (fun r o => r = .one (.bool (okName s)) ∧ o = []) := by
  refine acalls_of_body Try.func77 rfl (by kernel_rfl) rfl ?_
  refine rn rfl ?_
  refine goal_loop_keep (fun m σ => ∃ (n : Int) (i : Nat), n = i ∧ i ≤ s.length ∧ m = s.length - i ∧ (s.take i).all letter = true ∧
      σ = ⟨[(3, .one (.int .i64 n)), (0, .one (.str s))], [], []⟩) s.length [3, 0] [] rfl
    ⟨_, 0, rfl, by omega, by omega, rfl, rfl⟩ ?_
  rintro m σ ⟨n, i, rfl, hi, rfl, hall, rfl⟩
  refine rn rfl ?_
  refine goal_cond rfl (fun h => ?_) (fun h => ?_) <;> simp only [decide_eq_true_eq, decide_eq_false_iff_not] at h
  · obtain ⟨b, hb⟩ := at_some (xs := s) (i := i) (by omega)
    have hst := all_take_succ (p := letter) hb
    refine rn rfl ?_
    refine goal_did rfl rfl (dA_strIndex b rfl rfl rfl rfl rfl rfl (by omega) (by simpa using hb)) ?_
    refine rn rfl ?_
    refine goal_guard rfl rfl rfl (fun h1 => ?_) (fun h1 => ?_) <;> simp only [decide_eq_true_eq, decide_eq_false_iff_not] at h1
    · refine rn rfl ?_
      refine goal_condT rfl ?_
      refine rn rfl (round_ret (fin_is [] rfl ⟨?_, rfl⟩))
      have : (s.take (i + 1)).all letter = false := by rw [hst]; simp [letter, show ¬ (97 ≤ (b.toNat : Int)) by omega]
      simp [okName, all_false_of_take this]
    · refine rn rfl ?_
      refine goal_did rfl rfl (dA_strIndex b rfl rfl rfl rfl rfl rfl (by omega) (by simpa using hb)) ?_
      refine rn rfl ?_
      refine goal_cond rfl (fun h2 => ?_) (fun h2 => ?_) <;> simp only [decide_eq_true_eq, decide_eq_false_iff_not] at h2
      · refine rn rfl (round_ret (fin_is [] rfl ⟨?_, rfl⟩))
        have : (s.take (i + 1)).all letter = false := by rw [hst]; simp [letter, show ¬ ((b.toNat : Int) ≤ 122) by omega]
        simp [okName, all_false_of_take this]
      · refine rn rfl ?_
        refine round_keep (s.length - (i + 1)) [3, 0] [] (by omega) rfl ⟨_, i + 1, wrap64 (by omega) (by omega), by omega, rfl, ?_, rfl⟩
        rw [hst, hall]; simp only [letter, Bool.true_and, Bool.and_eq_true, decide_eq_true_eq]; omega
  · refine rn rfl (round_ext ?_)
    refine rn rfl ?_
    refine goal_step (step_call [] rfl rfl rfl rfl rfl rfl (iin_ct s.length 1 6)) ?_
    rintro σ2 ⟨r, o', ⟨rfl, rfl⟩, hσ⟩
    obtain rfl := Option.some.inj hσ
    refine rn rfl (fin_is [] rfl ⟨?_, rfl⟩)
    rw [show i = s.length by omega, List.take_length] at hall
    simp [okName, hall]

theorem validName_ct (s : Str) (hl : s.length ≤ 9223372036854775807) : ACalls pk 133 [.one (.str s)] [] (fun r o => r = .one (.bool (okName s)) ∧ o = []) := by
  refine acalls_of_body Try.func133 rfl (by kernel_rfl) rfl ?_
  refine rn rfl ?_
  refine goal_loop_keep (fun m σ => ∃ (n : Int) (i : Nat), n = i ∧ i ≤ s.length ∧ m = s.length - i ∧ (s.take i).all letter = true ∧
      σ = ⟨[(3, .one (.int .i64 n)), (0, .one (.str s))], [], []⟩) s.length [3, 0] [] rfl
    ⟨_, 0, rfl, by omega, by omega, rfl, rfl⟩ ?_
  rintro m σ ⟨n, i, rfl, hi, rfl, hall, rfl⟩
  refine rn rfl ?_
  refine goal_cond rfl (fun h => ?_) (fun h => ?_) <;> simp only [decide_eq_true_eq, decide_eq_false_iff_not] at h
  · obtain ⟨b, hb⟩ := at_some (xs := s) (i := i) (by omega)
    have hst := all_take_succ (p := letter) hb
    refine rn rfl ?_
    refine goal_did rfl rfl (dA_strIndex b rfl rfl rfl rfl rfl rfl (by omega) (by simpa using hb)) ?_
    refine rn rfl ?_
    refine goal_guard rfl rfl rfl (fun h1 => ?_) (fun h1 => ?_) <;> simp only [decide_eq_true_eq, decide_eq_false_iff_not] at h1
    · refine rn rfl ?_
      refine goal_condT rfl ?_
      refine rn rfl (round_ret (fin_is [] rfl ⟨?_, rfl⟩))
      have : (s.take (i + 1)).all letter = false := by rw [hst]; simp [letter, show ¬ (97 ≤ (b.toNat : Int)) by omega]
      simp [okName, all_false_of_take this]
    · refine rn rfl ?_
      refine goal_did rfl rfl (dA_strIndex b rfl rfl rfl rfl rfl rfl (by omega) (by simpa using hb)) ?_
      refine rn rfl ?_
      refine goal_cond rfl (fun h2 => ?_) (fun h2 => ?_) <;> simp only [decide_eq_true_eq, decide_eq_false_iff_not] at h2
      · refine rn rfl (round_ret (fin_is [] rfl ⟨?_, rfl⟩))
        have : (s.take (i + 1)).all letter = false := by rw [hst]; simp [letter, show ¬ ((b.toNat : Int) ≤ 122) by omega]
        simp [okName, all_false_of_take this]
      · refine rn rfl ?_
        refine round_keep (s.length - (i + 1)) [3, 0] [] (by omega) rfl ⟨_, i + 1, wrap64 (by omega) (by omega), by omega, rfl, ?_, rfl⟩
        rw [hst, hall]; simp only [letter, Bool.true_and, Bool.and_eq_true, decide_eq_true_eq]; omega
  · refine rn rfl (round_ext ?_)
    refine rn rfl ?_
    refine goal_step (step_call [] rfl rfl rfl rfl rfl rfl (sin_ct s.length 1 6)) ?_
    rintro σ2 ⟨r, o', ⟨rfl, rfl⟩, hσ⟩
    obtain rfl := Option.some.inj hσ
    refine rn rfl (fin_is [] rfl ⟨?_, rfl⟩)
    rw [show i = s.length by omega, List.take_length] at hall
    simp [okName, hall]

def okPair (p : Pair) : Bool := okName p.name && okVal p.value
theorem pairValid_ct (p : Pair) (hl : p.name.length ≤ 9223372036854775807) : ACalls pk 96 [.agg (eP p)] [] (fun r o => r = .one (.bool (okPair p)) ∧ o = []) := by
  refine acalls_of_body Try.func96 rfl (by kernel_rfl) rfl ?_
  refine rn rfl ?_
  refine goal_step (step_call [] rfl rfl rfl rfl rfl rfl (isName_ct p.name hl)) ?_
  rintro σ2 ⟨r, o', ⟨rfl, rfl⟩, hσ⟩
  obtain rfl := Option.some.inj hσ
  refine rn rfl ?_
  refine goal_guard rfl rfl rfl (fun h => ?_) (fun h => ?_)
  · refine rn rfl ?_
    refine goal_step (step_call [] rfl rfl rfl rfl rfl rfl (isValue_ct p.value)) ?_
    rintro σ2 ⟨r, o', ⟨rfl, rfl⟩, hσ⟩
    obtain rfl := Option.some.inj hσ
    exact rn rfl (fin_is [] rfl ⟨by simp [okPair, h], rfl⟩)
  · exact rn rfl (fin_is [] rfl ⟨by simp [okPair, h], rfl⟩)
end Go.Proofs.Ytkjbjgndinjdpaa
