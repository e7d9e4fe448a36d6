/- Clones. -/
import Derived.Test.YtkjbjgndinjdpaaCd
set_option linter.unusedVariables false
set_option linter.unusedSimpArgs false
namespace Go.Proofs.Ytkjbjgndinjdpaa
open Go
set_option maxRecDepth 100000

theorem rows_len {α : Type} {enc : α → List C} {n : Nat} (h : ∀ x, (enc x).length = n) (xs : List α) : ∀ r ∈ xs.map enc, r.length = n := by
  intro r hr; obtain ⟨x, _, rfl⟩ := List.mem_map.1 hr; exact h x
theorem eI_len (n : Int) : (eI n).length = 1 := rfl
theorem eP_len (p : Pair) : (eP p).length = 2 := rfl

theorem cloneIntS_ct (xs : List Int) (hl : xs.length ≤ 2097152) :
    ACalls pk 108 [.one (.fs (xs.map eI))] [] (fun r o => r = .one (.os 0 0 xs.length xs.length) ∧ o = [ownI xs]) := by
  refine acalls_of_body Try.func108 rfl (by kernel_rfl) rfl ?_
  refine rn rfl ?_
  refine goal_step (step_eqNil rfl rfl (Src.fs rfl) rfl rfl rfl rfl) ?_
  rintro σ2 ⟨b, hb, rfl⟩
  refine rn rfl ?_
  refine goal_cond rfl (fun h => ?_) (fun h => ?_)
  · have hx : xs = [] := by simpa using hb h
    subst hx
    exact rn rfl (fin_adopt 2 0 1 [0] rfl ⟨rfl, rfl⟩)
  · refine rn rfl ?_
    refine goal_did rfl rfl (dA_append (xs.map eI) xs.length true (Dst.own rfl rfl rfl rfl rfl (Nat.le_refl 0) rfl) (Src.fs rfl) rfl rfl rfl rfl rfl rfl rfl rfl (by simp) (rows_len eI_len _) (by simp only [List.length_map, List.take_zero, List.length_nil]; show _ * 8 ≤ _; omega) (by simp; omega) rfl (by simp) (fun _ => noOwnR_map _ eI_noOwn _)) ?_
    exact rn rfl (fin_is [1] rfl ⟨rfl, rfl⟩)

theorem clipIntS_ct (xs : List Int) (kc : Nat) (hk : xs.length ≤ kc) :
    ACalls pk 107 [.one (.os 0 0 xs.length kc)] [ownI xs] (fun r o => r = .one (.os 0 0 xs.length xs.length) ∧ o = [ownI xs]) := by
  refine acalls_of_body Try.func107 rfl (by kernel_rfl) rfl ?_
  refine rn rfl ?_
  refine goal_did rfl rfl (dA_sliceOwn 0 xs.length xs.length 0 xs.length xs.length rfl rfl rfl rfl rfl rfl rfl Bnd.none_ (Bnd.some_ rfl rfl) (.inr ⟨by simp, by simp, Bnd.some_ rfl rfl⟩) (by omega) (by omega) hk (by simp) rfl rfl rfl rfl) ?_
  exact rn rfl (fin_is [] rfl ⟨rfl, rfl⟩)

theorem clonInt_ct (xs : List Int) (hl : xs.length ≤ 2097152) :
    ACalls pk 62 [.one (.fs (xs.map eI))] [] (fun r o => r = .one (.os 0 0 xs.length xs.length) ∧ o = [ownI xs]) := by
  refine acalls_of_body Try.func62 rfl (by kernel_rfl) rfl ?_
  refine rn rfl ?_
  refine goal_step (step_call [] rfl rfl rfl rfl rfl rfl (cloneIntS_ct xs hl)) ?_
  rintro σ2 ⟨r, o', ⟨rfl, rfl⟩, hσ⟩
  obtain rfl := Option.some.inj hσ
  refine goal_step (step_call [0] rfl rfl rfl rfl rfl rfl (clipIntS_ct xs xs.length (Nat.le_refl _))) ?_
  rintro σ2 ⟨r, o', ⟨rfl, rfl⟩, hσ⟩
  obtain rfl := Option.some.inj hσ
  exact rn rfl (fin_is [0] rfl ⟨rfl, rfl⟩)

theorem clonePairS_ct (xs : List Pair) (hl : xs.length ≤ 2097152) :
    ACalls pk 99 [.one (.fs (xs.map eP))] [] (fun r o => r = .one (.os 0 0 xs.length xs.length) ∧ o = [ownP xs]) := by
  refine acalls_of_body Try.func99 rfl (by kernel_rfl) rfl ?_
  refine rn rfl ?_
  refine goal_step (step_eqNil rfl rfl (Src.fs rfl) rfl rfl rfl rfl) ?_
  rintro σ2 ⟨b, hb, rfl⟩
  refine rn rfl ?_
  refine goal_cond rfl (fun h => ?_) (fun h => ?_)
  · have hx : xs = [] := by simpa using hb h
    subst hx
    exact rn rfl (fin_adopt 2 0 2 [0] rfl ⟨rfl, rfl⟩)
  · refine rn rfl ?_
    refine goal_did rfl rfl (dA_append (xs.map eP) xs.length true (Dst.own rfl rfl rfl rfl rfl (Nat.le_refl 0) rfl) (Src.fs rfl) rfl rfl rfl rfl rfl rfl rfl rfl (by simp) (rows_len eP_len _) (by simp only [List.length_map, List.take_zero, List.length_nil]; show _ * 24 ≤ _; omega) (by simp; omega) rfl (by simp) (fun _ => noOwnR_map _ eP_noOwn _)) ?_
    exact rn rfl (fin_is [1] rfl ⟨rfl, rfl⟩)

theorem clipPairS_ct (xs : List Pair) (kc : Nat) (hk : xs.length ≤ kc) :
    ACalls pk 98 [.one (.os 0 0 xs.length kc)] [ownP xs] (fun r o => r = .one (.os 0 0 xs.length xs.length) ∧ o = [ownP xs]) := by
  refine acalls_of_body Try.func98 rfl (by kernel_rfl) rfl ?_
  refine rn rfl ?_
  refine goal_did rfl rfl (dA_sliceOwn 0 xs.length xs.length 0 xs.length xs.length rfl rfl rfl rfl rfl rfl rfl Bnd.none_ (Bnd.some_ rfl rfl) (.inr ⟨by simp, by simp, Bnd.some_ rfl rfl⟩) (by omega) (by omega) hk (by simp) rfl rfl rfl rfl) ?_
  exact rn rfl (fin_is [] rfl ⟨rfl, rfl⟩)

theorem clonPair_ct (xs : List Pair) (hl : xs.length ≤ 2097152) :
    ACalls pk 44 [.one (.fs (xs.map eP))] [] (fun r o => r = .one (.os 0 0 xs.length xs.length) ∧ o = [ownP xs]) := by
  refine acalls_of_body Try.func44 rfl (by kernel_rfl) rfl ?_
  refine rn rfl ?_
  refine goal_step (step_call [] rfl rfl rfl rfl rfl rfl (clonePairS_ct xs hl)) ?_
  rintro σ2 ⟨r, o', ⟨rfl, rfl⟩, hσ⟩
  obtain rfl := Option.some.inj hσ
  refine goal_step (step_call [0] rfl rfl rfl rfl rfl rfl (clipPairS_ct xs xs.length (Nat.le_refl _))) ?_
  rintro σ2 ⟨r, o', ⟨rfl, rfl⟩, hσ⟩
  obtain rfl := Option.some.inj hσ
  exact rn rfl (fin_is [0] rfl ⟨rfl, rfl⟩)
end Go.Proofs.Ytkjbjgndinjdpaa
