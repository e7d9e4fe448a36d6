/- Flats: what is valid. -/
import Derived.Test.YtkjbjgndinjdpaaCg
set_option linter.unusedVariables false
set_option linter.unusedSimpArgs false
namespace Go.Proofs.Ytkjbjgndinjdpaa
open Go
set_option maxRecDepth 100000

def namesOf (ps : List Pair) : List Str := ps.map Pair.name
def okFlat (f : Flat) : Bool := f.named.all okPair && decide (namesOf f.named).Nodup && f.places.all okVal && decide (f.places.length ≤ 8) && decide (f.named.length ≤ 8)

theorem any_nameIs {ps : List Pair} {n : Str} : ps.any (nameIs n) = true ↔ n ∈ namesOf ps := by
  simp only [List.any_eq_true, nameIs, namesOf, List.mem_map, beq_iff_eq]
theorem pairIx_ge {ps : List Pair} {n : Str} : 0 ≤ pairIx ps n ↔ n ∈ namesOf ps := by
  rw [pairIx, idxI_ge, any_nameIs]
theorem nodup_take_succ {ps : List Pair} {i : Nat} {p : Pair} (h : ps[i]? = some p) : (namesOf (ps.take (i + 1))).Nodup ↔ (namesOf (ps.take i)).Nodup ∧ p.name ∉ namesOf (ps.take i) := by
  rw [List.take_add_one, h]
  simp only [namesOf, Option.toList_some, List.map_append, List.map_cons, List.map_nil, List.nodup_append, List.nodup_cons, List.not_mem_nil, not_false_eq_true, List.nodup_nil, and_self, true_and, List.mem_cons, or_false,
    forall_eq, and_congr_right_iff]
  intro _
  constructor
  · intro h1 h2; exact h1 _ h2 rfl
  · intro h1 a ha h2; subst h2; exact h1 ha
theorem nodup_take {ps : List Pair} (i : Nat) (h : (namesOf ps).Nodup) : (namesOf (ps.take i)).Nodup := by
  unfold namesOf at *
  rw [List.map_take]
  exact List.Nodup.sublist (List.take_sublist _ _) h

theorem ivalidFlat_ct (f : Flat) (h1 : f.places.length ≤ 2097152) (h2 : f.named.length ≤ 2097152) (hn : ∀ p ∈ f.named, p.name.length ≤ 9223372036854775807) :
    ACalls pk 42 [.agg (eF f)] [] (fun r o => r = .one (.bool (okFlat f)) ∧ o = []) := by
  refine acalls_of_body Try.func42 rfl (by kernel_rfl) rfl ?_
  refine rn rfl ?_
  refine goal_loop_keep (fun m σ => ∃ (n L : Int) (i : Nat), n = i ∧ L = f.named.length ∧ i ≤ f.named.length ∧ m = f.named.length - i ∧ (f.named.take i).all okPair = true ∧ (namesOf (f.named.take i)).Nodup ∧
      σ = ⟨[(8, .one (.int .i64 n)), (7, .one (.int .i64 L)), (6, .one (.fs (f.named.map eP))), (1, .one (.op 0 0 0))], [some ⟨2, [eF f], false, false, true⟩], []⟩) f.named.length [8, 7, 6, 1] [0] rfl
    ⟨_, _, 0, rfl, by simp, by omega, by omega, rfl, by simp [namesOf], rfl⟩ ?_
  rintro m σ ⟨n, L, i, rfl, rfl, hi, rfl, hall, hnd, rfl⟩
  refine rn rfl ?_
  refine goal_cond rfl (fun h => ?_) (fun h => ?_) <;> simp only [decide_eq_true_eq, decide_eq_false_iff_not] at h
  · obtain ⟨p, hp⟩ := at_some (xs := f.named) (i := i) (by omega)
    have hst := all_take_succ (p := okPair) hp
    have hns := nodup_take_succ hp
    refine rn rfl ?_
    refine goal_did rfl rfl (dA_index (eP p) rfl rfl rfl rfl rfl rfl rfl (by omega) (by simp; omega) (map_at (by simpa using hp)) rfl) ?_
    refine rn rfl ?_
    refine goal_draw' [0, 1] 13 rfl ?_
    refine drn [0] (by kernel_rfl) (by kernel_rfl) rfl rfl ?_
    refine AH_one (i := 1) (by kernel_rfl) (step_call [] rfl rfl rfl rfl rfl rfl (pairValid_ct p (hn p (List.mem_of_getElem? hp)))) (by simp) ?_
    rintro σ2 ⟨r, o', ⟨rfl, rfl⟩, hσ⟩
    obtain rfl := Option.some.inj hσ
    refine drn [2, 3] (by kernel_rfl) (by kernel_rfl) rfl rfl ?_
    refine AH_guard (i := 4) rfl rfl rfl (fun hg => ?_) (fun hg => ?_) <;> simp only [Bool.not_eq_true', Bool.not_eq_false'] at hg
    · refine drn [4, 5, 6, 7, 8, 9, 10, 11, 12] (by kernel_rfl) (by kernel_rfl) rfl rfl ?_
      refine AH_end (by kernel_rfl) ?_
      refine rn rfl ?_
      refine goal_condT rfl ?_
      refine rn rfl (round_ret (fin_is [] rfl ⟨?_, rfl⟩))
      rw [hg, Bool.and_false] at hst
      simp [okFlat, all_false_of_take hst]
    · refine drn [4, 5, 6, 8, 9] (by kernel_rfl) (by kernel_rfl) rfl rfl ?_
      refine AH_did 7 rfl (by kernel_rfl) (by kernel_rfl) (by kernel_rfl) rfl rfl (dA_slice 0 i ((f.named.take i).map eP) rfl rfl rfl rfl rfl Bnd.none_ (Bnd.some_ rfl rfl) (rows_len eP_len _) (by omega) (by simp; omega) rfl (by simp)) ?_
      refine AH_one (i := 10) (by kernel_rfl) (step_call [] rfl rfl rfl rfl rfl rfl (ipairAt_ct (f.named.take i) p.name (by simp; omega))) (by simp) ?_
      rintro σ2 ⟨r, o', ⟨rfl, rfl⟩, hσ⟩
      obtain rfl := Option.some.inj hσ
      refine drn [11, 12] (by kernel_rfl) (by kernel_rfl) rfl rfl ?_
      refine AH_end (by kernel_rfl) ?_
      refine rn rfl ?_
      refine goal_cond rfl (fun h3 => ?_) (fun h3 => ?_) <;> simp only [ge_iff_le, decide_eq_true_eq, decide_eq_false_iff_not, pairIx_ge] at h3
      · refine rn rfl (round_ret (fin_is [] rfl ⟨?_, rfl⟩))
        have : ¬ (namesOf f.named).Nodup := fun hh => (hns.1 (nodup_take _ hh)).2 h3
        simp [okFlat, this]
      · refine rn rfl ?_
        refine round_keep (f.named.length - (i + 1)) [8, 7, 6, 1] [0] (by omega) rfl ⟨_, _, i + 1, wrap64 (by omega) (by omega), rfl, by omega, rfl, by rw [hst, hall, hg]; rfl, hns.2 ⟨hnd, h3⟩, rfl⟩
  · rw [show i = f.named.length by omega, List.take_length] at hall hnd
    refine rn rfl (round_ext ?_)
    refine rn rfl ?_
    refine goal_guard rfl rfl rfl (fun h3 => ?_) (fun h3 => ?_) <;> simp only [List.length_map, decide_eq_true_eq, decide_eq_false_iff_not] at h3
    · refine rn rfl ?_
      refine goal_guard rfl rfl rfl (fun h4 => ?_) (fun h4 => ?_) <;> simp only [List.length_map, decide_eq_true_eq, decide_eq_false_iff_not] at h4
      · refine rn rfl ?_
        refine goal_step (step_call [] rfl rfl rfl rfl rfl rfl (areValues_ct f.places (by omega))) ?_
        rintro σ2 ⟨r, o', ⟨rfl, rfl⟩, hσ⟩
        obtain rfl := Option.some.inj hσ
        refine rn rfl (fin_is [] rfl ⟨?_, rfl⟩)
        simp [okFlat, hall, hnd, show f.places.length ≤ 8 by omega, show f.named.length ≤ 8 by omega]
      · refine rn rfl (fin_is [] rfl ⟨?_, rfl⟩)
        simp [okFlat, show ¬ f.named.length ≤ 8 by omega]
    · refine rn rfl ?_
      refine goal_guard rfl rfl rfl (fun h4 => ?_) (fun h4 => ?_)
      · cases h4
      · refine rn rfl (fin_is [] rfl ⟨?_, rfl⟩)
        simp [okFlat, show ¬ f.places.length ≤ 8 by omega]

theorem svalidFlat_ct (f : Flat) (h1 : f.places.length ≤ 2097152) (h2 : f.named.length ≤ 2097152) (hn : ∀ p ∈ f.named, p.name.length ≤ 9223372036854775807) :
    ACalls pk 47 [.agg (eF f)] [] (fun r o => r = .one (.bool (okFlat f)) ∧ o = []) := by
  refine acalls_of_body Try.func47 rfl (by kernel_rfl) rfl ?_
  refine rn rfl ?_
  refine goal_loop_keep (fun m σ => ∃ (n : Int) (i : Nat), n = i ∧ i ≤ f.named.length ∧ m = f.named.length - i ∧ (namesOf (f.named.take i)).Nodup ∧
      σ = ⟨[(3, .one (.int .i64 n)), (1, .one (.op 0 0 0))], [some ⟨2, [eF f], false, false, true⟩], []⟩) f.named.length [3, 1] [0] rfl
    ⟨_, 0, rfl, by omega, by omega, by simp [namesOf], rfl⟩ ?_
  rintro m σ ⟨n, i, rfl, hi, rfl, hnd, rfl⟩
  refine rn rfl ?_
  refine goal_cond rfl (fun h => ?_) (fun h => ?_) <;> simp only [decide_eq_true_eq, decide_eq_false_iff_not, List.length_map] at h
  · obtain ⟨p, hp⟩ := at_some (xs := f.named) (i := i) (by omega)
    have hns := nodup_take_succ hp
    refine rn rfl ?_
    refine goal_draw' [0] 12 rfl ?_
    refine drn [0, 1, 2, 4, 5, 6] (by kernel_rfl) (by kernel_rfl) rfl rfl ?_
    refine AH_did 3 rfl (by kernel_rfl) (by kernel_rfl) (by kernel_rfl) rfl rfl (dA_slice 0 i ((f.named.take i).map eP) rfl rfl rfl rfl rfl Bnd.none_ (Bnd.some_ rfl rfl) (rows_len eP_len _) (by omega) (by simp; omega) rfl (by simp)) ?_
    refine AH_did 7 rfl (by kernel_rfl) (by kernel_rfl) (by kernel_rfl) rfl rfl (dA_index (eP p) rfl rfl rfl rfl rfl rfl rfl (by omega) (by simp; omega) (map_at (by simpa using hp)) rfl) ?_
    refine drn [8, 9] (by kernel_rfl) (by kernel_rfl) rfl rfl ?_
    refine AH_one (i := 10) (by kernel_rfl) (step_call [] rfl rfl rfl rfl rfl rfl (spairAt_ct (f.named.take i) p.name (by simp; omega))) (by simp) ?_
    rintro σ2 ⟨r, o', ⟨rfl, rfl⟩, hσ⟩
    obtain rfl := Option.some.inj hσ
    refine drn [11] (by kernel_rfl) (by kernel_rfl) rfl rfl ?_
    refine AH_end (by kernel_rfl) ?_
    refine rn rfl ?_
    refine goal_cond rfl (fun h3 => ?_) (fun h3 => ?_) <;> simp only [ge_iff_le, decide_eq_true_eq, decide_eq_false_iff_not, pairIx_ge] at h3
    · refine rn rfl (round_ret (fin_is [] rfl ⟨?_, rfl⟩))
      have : ¬ (namesOf f.named).Nodup := fun hh => (hns.1 (nodup_take _ hh)).2 h3
      simp [okFlat, this]
    · refine rn rfl ?_
      refine round_keep (f.named.length - (i + 1)) [3, 1] [0] (by omega) rfl ⟨_, i + 1, wrap64 (by omega) (by omega), by omega, rfl, hns.2 ⟨hnd, h3⟩, rfl⟩
  · rw [show i = f.named.length by omega, List.take_length] at hnd
    refine rn rfl (round_ext ?_)
    refine rn rfl ?_
    refine goal_step (step_call [] rfl rfl rfl rfl rfl rfl (validNumbers_ct f.places (by omega))) ?_
    rintro σ2 ⟨r, o', ⟨rfl, rfl⟩, hσ⟩
    obtain rfl := Option.some.inj hσ
    refine rn rfl ?_
    refine goal_guard rfl rfl rfl (fun h3 => ?_) (fun h3 => ?_)
    · refine rn rfl ?_
      refine goal_step (step_call [] rfl rfl rfl rfl rfl rfl (validPairs_ct f.named (by omega) hn)) ?_
      rintro σ2 ⟨r, o', ⟨rfl, rfl⟩, hσ⟩
      obtain rfl := Option.some.inj hσ
      refine rn rfl ?_
      refine goal_guard rfl rfl rfl (fun h4 => ?_) (fun h4 => ?_)
      · refine rn rfl ?_
        refine goal_guard rfl rfl rfl (fun h5 => ?_) (fun h5 => ?_) <;> simp only [List.length_map, decide_eq_true_eq, decide_eq_false_iff_not] at h5
        · refine rn rfl (fin_is [] rfl ⟨?_, rfl⟩)
          simp [okFlat, h3, h4, hnd, show f.places.length ≤ 8 by omega]
          omega
        · refine rn rfl (fin_is [] rfl ⟨?_, rfl⟩)
          simp [okFlat, show ¬ f.places.length ≤ 8 by omega]
      · refine rn rfl ?_
        refine goal_guard rfl rfl rfl (fun h5 => by cases h5) (fun h5 => ?_)
        refine rn rfl (fin_is [] rfl ⟨?_, rfl⟩)
        simp [okFlat, h4]
    · refine rn rfl ?_
      refine goal_guard rfl rfl rfl (fun h4 => by cases h4) (fun h4 => ?_)
      refine rn rfl ?_
      refine goal_guard rfl rfl rfl (fun h5 => by cases h5) (fun h5 => ?_)
      refine rn rfl (fin_is [] rfl ⟨?_, rfl⟩)
      simp [okFlat, h3]
end Go.Proofs.Ytkjbjgndinjdpaa
