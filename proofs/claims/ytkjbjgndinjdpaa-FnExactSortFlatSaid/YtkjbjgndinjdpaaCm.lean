/- The law of sorted flats, walked. -/
import Derived.Test.YtkjbjgndinjdpaaCl
set_option linter.unusedVariables false
set_option linter.unusedSimpArgs false
namespace Go.Proofs.Ytkjbjgndinjdpaa
open Go
set_option maxRecDepth 100000

theorem noFzR_map {α : Type} (enc : α → List C) (h : ∀ x, noFzL (enc x) = true) : ∀ xs : List α, noFzR (xs.map enc) = true
  | [] => rfl
  | x :: xs => by simp [noFzR, h x, noFzR_map enc h xs]
theorem oF_noFz (f : Flat) : noFzO (oF f) = true := by
  simp [oF, ownI, ownP, noFzO, noFzR_map eI (fun _ => rfl), noFzR_map eP (fun _ => rfl)]
theorem rF_noFz (f : Flat) : noFzT (rF f) = true := rfl

theorem szLen_ok {n : Nat} {k : Int} (h : ¬ szLen n k < 0) : (n : Int) ≤ k := by
  unfold szLen at h
  split at h <;> omega
theorem fits_of_sz {f : Flat} (h : ¬ szFlat f 1048576 < 0) : f.places.length ≤ 1048576 ∧ f.named.length ≤ 1048576 := by
  unfold szFlat at h
  split at h
  · omega
  · rename_i h1
    split at h
    · omega
    · rename_i h2
      have hk := szLen_le f.places.length 1048576 (by omega)
      have e1 := szLen_ok h1
      unfold szPairS at h2
      split at h2
      · omega
      · rename_i h3
        have e2 := szLen_ok h3
        omega

/-- What both ways of sorting make of a flat. -/
def sflat (f : Flat) : Flat := if okFlat f then ⟨f.places, sortL f.named⟩ else zF
theorem isflat (f : Flat) : (if okFlat f then (⟨f.places, isortL ltN f.named⟩ : Flat) else zF) = sflat f := by
  unfold sflat
  cases h : okFlat f with
  | false => rfl
  | true =>
    have : (namesOf f.named).Nodup := by simp [okFlat] at h; exact h.1.1.1.2
    simp [sorts_eq _ this]
theorem sortL_length (xs : List Pair) : (sortL xs).length = xs.length := by
  have : ∀ (xs S : List Pair), (xs.foldl (fun out p => insL p out) S).length = S.length + xs.length := by
    intro xs
    induction xs with
    | nil => intro S; simp
    | cons x xs ih => intro S; simp only [List.foldl_cons, ih, insL_length, List.length_cons]; omega
  simpa [sortL] using this xs []
theorem sflat_len (f : Flat) (h1 : f.places.length ≤ 1048576) (h2 : f.named.length ≤ 1048576) : (sflat f).places.length ≤ 1048576 ∧ (sflat f).named.length ≤ 1048576 := by
  unfold sflat
  split
  · exact ⟨h1, by simp [sortL_length, h2]⟩
  · simp [zF]

theorem sortFlatI_ct (f : Flat) (h1 : f.places.length ≤ 1048576) (h2 : f.named.length ≤ 1048576) (hn : ∀ p ∈ f.named, p.name.length ≤ 9223372036854775807) :
    ACalls pk 22 [.agg (eF f)] [] (fun r o => r = rF (sflat f) ∧ o = oF (sflat f)) := by
  have := isortFlat_ct f (by omega) (by omega) hn
  rw [isflat] at this
  exact this
theorem sortFlatS_ct (f : Flat) (h1 : f.places.length ≤ 1048576) (h2 : f.named.length ≤ 1048576) (hn : ∀ p ∈ f.named, p.name.length ≤ 9223372036854775807) :
    ACalls pk 20 [.agg (eF f)] [] (fun r o => r = rF (sflat f) ∧ o = oF (sflat f)) := ssortFlat_ct f (by omega) (by omega) hn

theorem asF (f : Flat) : [T.agg [C.fs (List.take f.places.length (List.drop 0 (f.places.map eI))), C.fs (List.take f.named.length (List.drop 0 (f.named.map eP)))]] = [T.agg (eF f)] := by
  simp [eF, List.take_of_length_le]
theorem asFk (f : Flat) (k : Int) : [T.agg [C.fs (List.take f.places.length (List.drop 0 (f.places.map eI))), C.fs (List.take f.named.length (List.drop 0 (f.named.map eP)))], T.one (.int .i64 k)] = [T.agg (eF f), T.one (.int .i64 k)] := by
  simp [eF, List.take_of_length_le]
theorem asFF (f g : Flat) : [T.agg [C.fs (List.take f.places.length (List.drop 0 (f.places.map eI))), C.fs (List.take f.named.length (List.drop 0 (f.named.map eP)))],
    T.agg [C.fs (List.take g.places.length (List.drop 0 (g.places.map eI))), C.fs (List.take g.named.length (List.drop 0 (g.named.map eP)))]] = [T.agg (eF f), T.agg (eF g)] := by
  simp [eF, List.take_of_length_le]

theorem fnExactSortFlat_ct (f : Flat) (hf : Fits f) : ACalls pk 5 [.agg (eF f)] [] (fun r o => r = .one (.bool true) ∧ o = []) := by
  refine acalls_of_body Try.func5 rfl (by kernel_rfl) rfl ?_
  refine rn rfl ?_
  refine goal_step (step_call [] rfl rfl rfl rfl rfl rfl (szFlat_ct f 1048576 (by omega) (by omega) hf)) ?_
  rintro σ2 ⟨r, o', ⟨rfl, rfl⟩, hσ⟩
  obtain rfl := Option.some.inj hσ
  refine rn rfl ?_
  refine goal_cond rfl (fun h => ?_) (fun h => ?_) <;> simp only [decide_eq_true_eq, decide_eq_false_iff_not] at h
  · exact rn rfl (fin_is [] rfl ⟨rfl, rfl⟩)
  clear hσ
  obtain ⟨h1, h2⟩ := fits_of_sz h
  have hn := hf.names
  obtain ⟨g1, g2⟩ := sflat_len f h1 h2
  refine rn rfl ?_
  refine goal_step (step_call [] rfl rfl rfl rfl rfl rfl (toFlat_ct f (by omega) (by omega))) ?_
  rintro σ2 ⟨r, o', ⟨rfl, rfl⟩, hσ⟩
  obtain rfl := Option.some.inj hσ
  clear hσ
  refine rn rfl ?_
  refine goal_step (step_callE [] rfl rfl rfl rfl rfl rfl (asF f) (sortFlatS_ct f h1 h2 hn)) ?_
  rintro σ2 ⟨r, o', ⟨rfl, rfl⟩, hσ⟩
  obtain rfl := Option.some.inj hσ
  clear hσ
  refine rn rfl ?_
  refine goal_step (step_call [] rfl rfl rfl rfl rfl rfl (toFlat_ct f (by omega) (by omega))) ?_
  rintro σ2 ⟨r, o', ⟨rfl, rfl⟩, hσ⟩
  obtain rfl := Option.some.inj hσ
  clear hσ
  refine rn rfl ?_
  refine goal_step (step_lendE [] rfl rfl rfl rfl rfl rfl rfl (asF f) (sortFlatI_ct f h1 h2 hn) (by rintro r o ⟨rfl, rfl⟩; exact ⟨rF_noFz _, oF_noFz _⟩)) ?_
  rintro σ2 ⟨r, o', ⟨rfl, rfl⟩, hσ⟩
  obtain rfl := Option.some.inj hσ
  clear hσ
  refine rn rfl ?_
  refine goal_step (step_lendE [] rfl rfl rfl rfl rfl rfl rfl (asFF _ _) (eqFlat_ct (sflat f) (sflat f) (by omega) (by omega)) (by rintro r o ⟨rfl, rfl⟩; exact ⟨rfl, rfl⟩)) ?_
  rintro σ2 ⟨r, o', ⟨rfl, rfl⟩, hσ⟩
  obtain rfl := Option.some.inj hσ
  clear hσ
  refine rn rfl ?_
  refine goal_cond rfl (fun h => by simp at h) (fun _ => ?_)
  refine rn rfl ?_
  -- the argument's copy reads as before
  refine goal_draw' [0, 8] 5 rfl ?_
  refine drn [0, 1] (by kernel_rfl) (by kernel_rfl) rfl rfl ?_
  refine AH_one (i := 2) (by kernel_rfl) (step_call [] rfl rfl rfl rfl rfl rfl (toFlat_ct f (by omega) (by omega))) (by simp) ?_
  rintro σ2 ⟨r, o', ⟨rfl, rfl⟩, hσ⟩
  obtain rfl := Option.some.inj hσ
  clear hσ
  refine AH_one (i := 3) (by kernel_rfl) (step_lendE [] rfl rfl rfl rfl rfl rfl rfl (asFF _ _) (eqFlat_ct f f (by omega) (by omega)) (by rintro r o ⟨rfl, rfl⟩; exact ⟨rfl, rfl⟩)) (by simp) ?_
  rintro σ2 ⟨r, o', ⟨rfl, rfl⟩, hσ⟩
  obtain rfl := Option.some.inj hσ
  clear hσ
  refine drn [4] (by kernel_rfl) (by kernel_rfl) rfl rfl ?_
  refine AH_end (by kernel_rfl) ?_
  refine rn rfl ?_
  refine goal_cond rfl (fun h => by simp at h) (fun _ => ?_)
  refine rn rfl ?_
  -- marks in the argument
  refine goal_step (step_call [6, 7] rfl rfl rfl rfl rfl rfl (markFlat_ct f _ _ (by omega) (by omega))) ?_
  rintro σ2 ⟨r, o', ⟨rfl, rfl⟩, hσ⟩
  obtain rfl := Option.some.inj hσ
  clear hσ
  refine rn rfl ?_
  refine goal_guard rfl rfl rfl (fun h => ?_) (fun h => ?_) <;> simp only [decide_eq_true_eq, decide_eq_false_iff_not] at h
  · omega
  clear h
  refine rn rfl ?_
  refine goal_step (step_lendE [] rfl rfl rfl rfl rfl rfl rfl (asFF _ _) (eqFlat_ct (sflat f) (sflat f) (by omega) (by omega)) (by rintro r o ⟨rfl, rfl⟩; exact ⟨rfl, rfl⟩)) ?_
  rintro σ2 ⟨r, o', ⟨rfl, rfl⟩, hσ⟩
  obtain rfl := Option.some.inj hσ
  clear hσ
  refine rn rfl ?_
  refine goal_cond rfl (fun h => by simp at h) (fun _ => ?_)
  refine rn rfl ?_
  -- marks in the result
  refine goal_step (step_call [9, 10] rfl rfl rfl rfl rfl rfl (markFlat_ct (sflat f) _ _ (by omega) (by omega))) ?_
  rintro σ2 ⟨r, o', ⟨rfl, rfl⟩, hσ⟩
  obtain rfl := Option.some.inj hσ
  clear hσ
  refine rn rfl ?_
  have hsq : ∀ a b : Nat, [T.agg [C.fs (List.take a (List.drop 0 ((seqF a b).places.map eI))), C.fs (List.take b (List.drop 0 ((seqF a b).named.map eP)))], T.one (.int .i64 1)] = [T.agg (eF (seqF a b)), T.one (.int .i64 1)] := by
    intro a b
    simp [eF, seqF, List.take_of_length_le, seqI_length, seqP_length]
  refine goal_step (step_lendE [] rfl rfl rfl rfl rfl rfl rfl (hsq _ _) (heldFlat_ct (sflat f).places.length (sflat f).named.length (by omega) (by omega)) (by rintro r o ⟨rfl, rfl⟩; exact ⟨rfl, rfl⟩)) ?_
  rintro σ2 ⟨r, o', ⟨rfl, rfl⟩, hσ⟩
  obtain rfl := Option.some.inj hσ
  clear hσ
  refine rn rfl ?_
  refine goal_cond rfl (fun h => ?_) (fun h => ?_) <;> simp only [decide_eq_true_eq, decide_eq_false_iff_not] at h
  · omega
  clear h
  refine rn rfl ?_
  refine goal_cond rfl (fun h => by simp at h) (fun _ => ?_)
  refine rn rfl ?_
  -- once more
  refine goal_step (step_call [] rfl rfl rfl rfl rfl rfl (toFlat_ct f (by omega) (by omega))) ?_
  rintro σ2 ⟨r, o', ⟨rfl, rfl⟩, hσ⟩
  obtain rfl := Option.some.inj hσ
  clear hσ
  refine rn rfl ?_
  refine goal_step (step_callE [] rfl rfl rfl rfl rfl rfl (asF f) (sortFlatI_ct f h1 h2 hn)) ?_
  rintro σ2 ⟨r, o', ⟨rfl, rfl⟩, hσ⟩
  obtain rfl := Option.some.inj hσ
  clear hσ
  refine rn rfl ?_
  refine goal_step (step_lendE [] rfl rfl rfl rfl rfl rfl rfl (asFF _ _) (eqFlat_ct (sflat f) (sflat f) (by omega) (by omega)) (by rintro r o ⟨rfl, rfl⟩; exact ⟨rfl, rfl⟩)) ?_
  rintro σ2 ⟨r, o', ⟨rfl, rfl⟩, hσ⟩
  obtain rfl := Option.some.inj hσ
  clear hσ
  refine rn rfl ?_
  refine goal_cond rfl (fun h => by simp at h) (fun _ => ?_)
  refine rn rfl ?_
  refine goal_step (step_lendE [] rfl rfl rfl rfl rfl rfl rfl (hsq _ _) (heldFlat_ct (sflat f).places.length (sflat f).named.length (by omega) (by omega)) (by rintro r o ⟨rfl, rfl⟩; exact ⟨rfl, rfl⟩)) ?_
  rintro σ2 ⟨r, o', ⟨rfl, rfl⟩, hσ⟩
  obtain rfl := Option.some.inj hσ
  clear hσ
  refine rn rfl ?_
  refine goal_cond rfl (fun h => ?_) (fun h => ?_) <;> simp only [decide_eq_true_eq, decide_eq_false_iff_not] at h
  · omega
  clear h
  refine rn rfl ?_
  refine goal_cond rfl (fun h => by simp at h) (fun _ => ?_)
  exact rn rfl (fin_is [] rfl ⟨rfl, rfl⟩)
end Go.Proofs.Ytkjbjgndinjdpaa
