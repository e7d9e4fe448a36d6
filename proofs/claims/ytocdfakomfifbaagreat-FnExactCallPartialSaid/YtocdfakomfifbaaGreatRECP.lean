/- Proved: whatever the input, the law FnExactCallPartial returns true, and the input reads behind the call as it read before (the statement FnExactCallPartialSaid). No condition. -/
import Derived.Test.YtocdfakomfifbaaGreatKECP5
import Derived.Test.YtocdfakomfifbaaGreatRows
import Derived.WalkKit
import Derived.ProofKit
import Derived.OpenShut
import Derived.ShutString
import Derived.ChangeOld
import Derived.Below
set_option linter.unusedVariables false
set_option linter.unusedSimpArgs false
namespace Go.Proofs.YtocdfakomfifbaaGreat.FnExactCallPartialx
open Go Go.ChangeShapes Go.WideShapes Go.ChangeAt Go.RowKit
open Go.Proofs.YtocdfakomfifbaaGreat
set_option maxRecDepth 100000
set_option maxHeartbeats 1000000

theorem own : ownKnob Tryz.prog.godebug = none := by kernel_rfl
theorem laidOut : laidOutB Tryz.prog = true := by kernel_rfl

theorem lifted (os : Os) (started : os.Started) (H : Type) (enc : TypeId × Value → H) :
    ReturnsInHanded {} Tryz.checked os 4 .any (Rows.fnExactCallPartialSpec.pre6 enc Tryz.prog Tryz.f4 Rows.fnExactCallPartialRow.domain false) (Rows.fnExactCallPartialSpec.post enc Tryz.prog Tryz.f4 false true false false) := by
  refine returnsInHanded_of_change (C := Tryz.checked) own started (by kernel_rfl) Tryz.func4
    (ChangeSpec.witness6 (enc := enc) (C := Tryz.checked) false ⟨#[], #[.agg #[.slice none 0 0, .slice none 0 0, .slice none 0 0], .agg #[.slice none 0 0, .slice none 0 0]], []⟩ 8 (by kernel_rfl) (by kernel_rfl) (by kernel_rfl) (by kernel_rfl)) ?_
  intro W base args ds gs before hval0 hW hcnd _
  have hval : ∀ (j : Nat) t v, Tryz.f4.params[j]? = some t → args[j]? = some v → Value.okWide Tryz.prog W .any base t v := hval0
  have hW' := hW
  obtain ⟨p, q, hA0, hV, rfl, hfz, hnd⟩ := hW
  have hA : DataW.TrodAll enc Tryz.prog W 0 (fun _ => true) true [54, 52] args.toList ds p := hA0
  obtain ⟨v0, vs0, d0, ds0, p0, q0, hargs, rfl, rfl, h0, r0⟩ := trodAll_cons hA
  obtain ⟨v1, vs1, d1, ds1, p1, q1, rfl, rfl, rfl, h1, r1⟩ := trodAll_cons r0
  obtain ⟨rfl, rfl, rfl⟩ := trodAll_nil r1
  obtain rfl : args = #[v0, v1] := by cases args; simp_all
  obtain ⟨rfl, rfl⟩ := trodVars_none hV
  have k0 := h0
  have lt0 : ∀ x ∈ p0, x.block < W.heap.size := by obtain ⟨m, hm⟩ := k0; exact DataW.trod_lt m _ _ _ hm
  obtain ⟨fs0, hfs0, _⟩ := (pk.tiok (t := 54) rfl).struct rfl
  obtain ⟨cs0, rfl⟩ := agg_of_okWide (show Tryz.prog.underlying 54 = _ from hfs0) (hval 0 54 v0 rfl rfl)
  obtain ⟨fuel0, hf0⟩ := h0
  obtain ⟨a0, hok0, hr0, hl0⟩ := openPartial H enc W fuel0 _ _ hf0
  have k1 := h1
  have lt1 : ∀ x ∈ p1, x.block < W.heap.size := by obtain ⟨m, hm⟩ := k1; exact DataW.trod_lt m _ _ _ hm
  obtain ⟨fs1, hfs1, _⟩ := (pk.tiok (t := 52) rfl).struct rfl
  obtain ⟨cs1, rfl⟩ := agg_of_okWide (show Tryz.prog.underlying 52 = _ from hfs1) (hval 1 52 v1 rfl rfl)
  obtain ⟨fuel1, hf1⟩ := h1
  obtain ⟨a1, hok1, hr1, hl1⟩ := openFlat H enc W fuel1 _ _ hf1
  clear hA0 hval0
  refine (law_calls (vals := #[.agg cs0, .agg cs1]) (fnExactCallPartial_ct a0 a1 hok0 hok1) (fun g hg => by cases hg) ?_).mono fun e W' ⟨he, bel⟩ => ?_
  · simp only [TRs, TR]
    exact ⟨_, _, rfl, ⟨cs0, rfl, hl0, hr0⟩, ⟨_, _, rfl, ⟨cs1, rfl, hl1, hr1⟩, rfl⟩⟩
  · subst he
    exact ⟨_, rfl, _, _, _, [], _, [], hW', trodAll_mk1 (shut_bool (show Tryz.prog.underlying 4 = some .bool by kernel_rfl) _), (trodAll_cons_mk (Below.trod laidOut (by kernel_rfl) (of_decide_eq_true (by kernel_rfl)) k0 bel lt0) (trodAll_cons_mk (Below.trod laidOut (by kernel_rfl) (of_decide_eq_true (by kernel_rfl)) k1 bel lt1) trodAll_mk0)), rfl, bel.frame _, fun h => by cases h⟩

theorem over : Rows.fnExactCallPartialRow.holds Tryz.pinned (OpenSpec.ofChange Rows.fnExactCallPartialSpec) :=
  OpenClaim.holds_of_wide 4 Tryz.f4 rfl rfl rfl rfl rfl rfl rfl ⟨rfl, rfl, rfl, rfl, rfl⟩ rfl rfl rfl rfl rfl (by kernel_rfl) Tryz.func4 (by kernel_rfl)
    (of_decide_eq_true (by kernel_rfl)) (by unfold Func.isWrapper; first | (rw [if_pos (by decide +kernel)]; kernel_rfl) | (rw [if_neg (by decide +kernel)]; exact ⟨rfl, rfl⟩))
    (fun os started H enc _ => lifted os started H enc)
theorem proved : Rows.FnExactCallPartialSaid := over
#print axioms proved
end Go.Proofs.YtocdfakomfifbaaGreat.FnExactCallPartialx
namespace Go.Proofs.YtocdfakomfifbaaGreat
/-- The row, under a short name, for the claim. -/
theorem fnExactCallPartial_holds : Rows.FnExactCallPartialSaid := FnExactCallPartialx.proved
end Go.Proofs.YtocdfakomfifbaaGreat
