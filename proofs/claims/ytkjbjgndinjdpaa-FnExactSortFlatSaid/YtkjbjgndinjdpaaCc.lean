/- Helpers of the laws: comparisons. -/
import Derived.Test.YtkjbjgndinjdpaaCb
set_option linter.unusedVariables false
set_option linter.unusedSimpArgs false
namespace Go.Proofs.Ytkjbjgndinjdpaa
open Go
set_option maxRecDepth 100000

theorem take_eq_step {α : Type} {xs ys : List α} {i : Nat} {x y : α} (hpre : xs.take i = ys.take i) (hx : xs[i]? = some x) (hy : ys[i]? = some y) : xs.take (i + 1) = ys.take (i + 1) ↔ x = y := by
  rw [List.take_add_one, List.take_add_one, hpre, hx, hy]; simp

theorem eqIntS_ct (xs ys : List Int) (hx : xs.length ≤ 2097152) :
    ACalls pk 63 [.one (.fs (xs.map eI)), .one (.fs (ys.map eI))] [] (fun r o => r = .one (.bool (decide (xs = ys))) ∧ o = []) := by
  refine acalls_of_body Try.func63 rfl (by kernel_rfl) rfl ?_
  refine rn rfl ?_
  refine goal_cond rfl (fun h => ?_) (fun h => ?_) <;> simp only [List.length_map, bne_iff_ne, ne_eq, bne_eq_false_iff_eq] at h
  · refine rn rfl (fin_is [] rfl ⟨?_, rfl⟩)
    have : xs ≠ ys := fun h0 => h (by rw [h0])
    simp [this]
  · have hlen : xs.length = ys.length := by omega
    refine rn rfl ?_
    refine goal_loop_keep (fun m σ => ∃ (n : Int) (i : Nat), n = i ∧ i ≤ xs.length ∧ m = xs.length - i ∧ xs.take i = ys.take i ∧
        σ = ⟨[(5, .one (.int .i64 n)), (1, .one (.fs (ys.map eI))), (0, .one (.fs (xs.map eI)))], [], []⟩) xs.length [5, 1, 0] [] rfl
      ⟨_, 0, rfl, by omega, by omega, rfl, rfl⟩ ?_
    rintro m σ ⟨n, i, rfl, hi, rfl, hpre, rfl⟩
    refine rn rfl ?_
    refine goal_cond rfl (fun h => ?_) (fun h => ?_) <;> simp only [decide_eq_true_eq, decide_eq_false_iff_not, List.length_map] at h
    · obtain ⟨x, hxi⟩ := at_some (xs := xs) (i := i) (by omega)
      obtain ⟨y, hyi⟩ := at_some (xs := ys) (i := i) (by omega)
      refine rn rfl ?_
      refine goal_draw' [] 9 rfl ?_
      refine drn [0, 1, 4, 5] (by kernel_rfl) (by kernel_rfl) rfl rfl ?_
      refine AH_did 2 rfl (by kernel_rfl) (by kernel_rfl) (by kernel_rfl) rfl rfl (dA_index (eI x) rfl rfl rfl rfl rfl rfl rfl (by omega) (by simp; omega) (map_at (by simpa using hxi)) rfl) ?_
      refine AH_did 6 rfl (by kernel_rfl) (by kernel_rfl) (by kernel_rfl) rfl rfl (dA_index (eI y) rfl rfl rfl rfl rfl rfl rfl (by omega) (by simp; omega) (map_at (by simpa using hyi)) rfl) ?_
      refine drn [3, 7, 8] (by kernel_rfl) (by kernel_rfl) rfl rfl ?_
      refine AH_end (by kernel_rfl) ?_
      refine rn rfl ?_
      have hstep := take_eq_step hpre hxi hyi
      refine goal_cond rfl (fun h2 => ?_) (fun h2 => ?_) <;> simp only [bne_iff_ne, ne_eq, bne_eq_false_iff_eq] at h2
      · refine rn rfl ?_
        refine round_ret (fin_is [] rfl ⟨?_, rfl⟩)
        have : xs ≠ ys := fun h0 => h2 (hstep.1 (by rw [h0]))
        simp [this]
      · refine rn rfl ?_
        refine round_keep (xs.length - (i + 1)) [5, 1, 0] [] (by omega) rfl ⟨_, i + 1, ?_, by omega, rfl, hstep.2 h2, rfl⟩
        exact wrap64 (by omega) (by omega)
    · refine rn rfl ?_
      refine round_ext ?_
      refine rn rfl (fin_is [] rfl ⟨?_, rfl⟩)
      rw [show i = xs.length by omega, List.take_length, hlen, List.take_length] at hpre
      simp [hpre]

theorem eqPair_ct (p q : Pair) : ACalls pk 109 [.agg (eP p), .agg (eP q)] [] (fun r o => r = .one (.bool (decide (p = q))) ∧ o = []) := by
  obtain ⟨n, v⟩ := p
  obtain ⟨n', v'⟩ := q
  refine acalls_of_body Try.func109 rfl (by kernel_rfl) rfl ?_
  refine rn rfl ?_
  refine goal_cond rfl (fun h => ?_) (fun h => ?_) <;> simp only [Bool.not_eq_true', Bool.not_eq_false', beq_eq_false_iff_ne, beq_iff_eq] at h
  · exact rn rfl (fin_is [] rfl ⟨by simp [h], rfl⟩)
  · refine rn rfl ?_
    refine goal_cond rfl (fun h2 => ?_) (fun h2 => ?_) <;> simp only [bne_iff_ne, ne_eq, bne_eq_false_iff_eq] at h2
    · exact rn rfl (fin_is [] rfl ⟨by simp [h, h2], rfl⟩)
    · exact rn rfl (fin_is [] rfl ⟨by simp [h, h2], rfl⟩)

theorem eqPairS_ct (xs ys : List Pair) (hx : xs.length ≤ 2097152) :
    ACalls pk 64 [.one (.fs (xs.map eP)), .one (.fs (ys.map eP))] [] (fun r o => r = .one (.bool (decide (xs = ys))) ∧ o = []) := by
  refine acalls_of_body Try.func64 rfl (by kernel_rfl) rfl ?_
  refine rn rfl ?_
  refine goal_cond rfl (fun h => ?_) (fun h => ?_) <;> simp only [List.length_map, bne_iff_ne, ne_eq, bne_eq_false_iff_eq] at h
  · refine rn rfl (fin_is [] rfl ⟨?_, rfl⟩)
    have : xs ≠ ys := fun h0 => h (by rw [h0])
    simp [this]
  · have hlen : xs.length = ys.length := by omega
    refine rn rfl ?_
    refine goal_loop_keep (fun m σ => ∃ (n : Int) (i : Nat), n = i ∧ i ≤ xs.length ∧ m = xs.length - i ∧ xs.take i = ys.take i ∧
        σ = ⟨[(5, .one (.int .i64 n)), (1, .one (.fs (ys.map eP))), (0, .one (.fs (xs.map eP)))], [], []⟩) xs.length [5, 1, 0] [] rfl
      ⟨_, 0, rfl, by omega, by omega, rfl, rfl⟩ ?_
    rintro m σ ⟨n, i, rfl, hi, rfl, hpre, rfl⟩
    refine rn rfl ?_
    refine goal_cond rfl (fun h => ?_) (fun h => ?_) <;> simp only [decide_eq_true_eq, decide_eq_false_iff_not, List.length_map] at h
    · obtain ⟨x, hxi⟩ := at_some (xs := xs) (i := i) (by omega)
      obtain ⟨y, hyi⟩ := at_some (xs := ys) (i := i) (by omega)
      refine rn rfl ?_
      refine goal_draw' [] 10 rfl ?_
      refine drn [0, 1, 4, 5] (by kernel_rfl) (by kernel_rfl) rfl rfl ?_
      refine AH_did 2 rfl (by kernel_rfl) (by kernel_rfl) (by kernel_rfl) rfl rfl (dA_index (eP x) rfl rfl rfl rfl rfl rfl rfl (by omega) (by simp; omega) (map_at (by simpa using hxi)) rfl) ?_
      refine AH_did 6 rfl (by kernel_rfl) (by kernel_rfl) (by kernel_rfl) rfl rfl (dA_index (eP y) rfl rfl rfl rfl rfl rfl rfl (by omega) (by simp; omega) (map_at (by simpa using hyi)) rfl) ?_
      refine drn [3, 7] (by kernel_rfl) (by kernel_rfl) rfl rfl ?_
      refine AH_one (i := 8) (by kernel_rfl) (step_call [] rfl rfl rfl rfl rfl rfl (eqPair_ct x y)) (by simp) ?_
      rintro σ2 ⟨r, o', ⟨rfl, rfl⟩, hσ⟩
      obtain rfl := Option.some.inj hσ
      refine drn [9] (by kernel_rfl) (by kernel_rfl) rfl rfl ?_
      refine AH_end (by kernel_rfl) ?_
      refine rn rfl ?_
      have hstep := take_eq_step hpre hxi hyi
      refine goal_cond rfl (fun h2 => ?_) (fun h2 => ?_) <;> simp only [Bool.not_eq_true', Bool.not_eq_false', decide_eq_true_eq, decide_eq_false_iff_not] at h2
      · refine rn rfl ?_
        refine round_ret (fin_is [] rfl ⟨?_, rfl⟩)
        have : xs ≠ ys := fun h0 => h2 (hstep.1 (by rw [h0]))
        simp [this]
      · refine rn rfl ?_
        refine round_keep (xs.length - (i + 1)) [5, 1, 0] [] (by omega) rfl ⟨_, i + 1, ?_, by omega, rfl, hstep.2 h2, rfl⟩
        exact wrap64 (by omega) (by omega)
    · refine rn rfl ?_
      refine round_ext ?_
      refine rn rfl (fin_is [] rfl ⟨?_, rfl⟩)
      rw [show i = xs.length by omega, List.take_length, hlen, List.take_length] at hpre
      simp [hpre]

theorem eqFlat_ct (f g : Flat) (h1 : f.places.length ≤ 2097152) (h2 : f.named.length ≤ 2097152) :
    ACalls pk 23 [.agg (eF f), .agg (eF g)] [] (fun r o => r = .one (.bool (decide (f = g))) ∧ o = []) := by
  obtain ⟨a, b⟩ := f
  obtain ⟨a', b'⟩ := g
  refine acalls_of_body Try.func23 rfl (by kernel_rfl) rfl ?_
  refine rn rfl ?_
  refine goal_step (step_call [] rfl rfl rfl rfl rfl rfl (eqIntS_ct a a' h1)) ?_
  rintro σ2 ⟨r, o', ⟨rfl, rfl⟩, hσ⟩
  obtain rfl := Option.some.inj hσ
  refine rn rfl ?_
  refine goal_cond rfl (fun h => ?_) (fun h => ?_) <;> simp only [Bool.not_eq_true', Bool.not_eq_false', decide_eq_true_eq, decide_eq_false_iff_not] at h
  · exact rn rfl (fin_is [] rfl ⟨by simp [h], rfl⟩)
  · refine rn rfl ?_
    refine goal_step (step_call [] rfl rfl rfl rfl rfl rfl (eqPairS_ct b b' h2)) ?_
    rintro σ2 ⟨r, o', ⟨rfl, rfl⟩, hσ⟩
    obtain rfl := Option.some.inj hσ
    refine rn rfl ?_
    refine goal_cond rfl (fun h' => ?_) (fun h' => ?_) <;> simp only [Bool.not_eq_true', Bool.not_eq_false', decide_eq_true_eq, decide_eq_false_iff_not] at h'
    · exact rn rfl (fin_is [] rfl ⟨by simp [h, h'], rfl⟩)
    · exact rn rfl (fin_is [] rfl ⟨by simp [h, h'], rfl⟩)
end Go.Proofs.Ytkjbjgndinjdpaa
