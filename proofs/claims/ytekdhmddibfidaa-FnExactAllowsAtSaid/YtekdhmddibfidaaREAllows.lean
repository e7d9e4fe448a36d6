/- Proved: whatever the input, the law FnExactAllowsAt returns true, and the input reads behind the call as it read before (the statement FnExactAllowsAtSaid). No condition. -/
import Derived.Test.YtekdhmddibfidaaKEAllows3
import Derived.Test.YtekdhmddibfidaaRows
import Derived.WalkKit
import Derived.ProofKit
import Derived.OpenShut
import Derived.ShutString
import Derived.ChangeOld
import Derived.Below
set_option linter.unusedVariables false
set_option linter.unusedSimpArgs false
namespace Go.Proofs.Ytekdhmddibfidaa.FnExactAllowsAtx
open Go Go.ChangeShapes Go.WideShapes Go.ChangeAt Go.RowKit
open Go.Proofs.Ytekdhmddibfidaa
set_option maxRecDepth 100000

theorem own : ownKnob Try.prog.godebug = none := by kernel_rfl
theorem laidOut : laidOutB Try.prog = true := by kernel_rfl

theorem lifted (os : Os) (started : os.Started) (H : Type) (enc : TypeId × Value → H) :
    ReturnsInHanded {} Try.checked os 6 .any (Rows.fnExactAllowsAtSpec.pre6 enc Try.prog Try.f6 Rows.fnExactAllowsAtRow.domain false) (Rows.fnExactAllowsAtSpec.post enc Try.prog Try.f6 false true false false) := by
  refine returnsInHanded_of_change (C := Try.checked) own started (by kernel_rfl) Try.func6
    (ChangeSpec.witness6 (enc := enc) (C := Try.checked) false ⟨#[], #[.agg #[.slice none 0 0], .int .i64 0, .string ⟨#[]⟩], []⟩ 8 (by kernel_rfl) (by kernel_rfl) (by kernel_rfl) (by kernel_rfl)) ?_
  intro W base args ds gs before hval0 hW hcnd _
  have hval : ∀ (j : Nat) t v, Try.f6.params[j]? = some t → args[j]? = some v → Value.okWide Try.prog W .any base t v := hval0
  have hW' := hW
  obtain ⟨p, q, hA0, hV, rfl, hfz, hnd⟩ := hW
  have hA : DataW.TrodAll enc Try.prog W 0 (fun _ => true) true [46, 3, 9] args.toList ds p := hA0
  obtain ⟨v0, vs0, d0, ds0, p0, q0, hargs, rfl, rfl, h0, r0⟩ := trodAll_cons hA
  obtain ⟨v1, vs1, d1, ds1, p1, q1, rfl, rfl, rfl, h1, r1⟩ := trodAll_cons r0
  obtain ⟨v2, vs2, d2, ds2, p2, q2, rfl, rfl, rfl, h2, r2⟩ := trodAll_cons r1
  obtain ⟨rfl, rfl, rfl⟩ := trodAll_nil r2
  obtain rfl : args = #[v0, v1, v2] := by cases args; simp_all
  obtain ⟨rfl, rfl⟩ := trodVars_none hV
  have k0 := h0
  have lt0 : ∀ x ∈ p0, x.block < W.heap.size := by obtain ⟨m, hm⟩ := k0; exact DataW.trod_lt m _ _ _ hm
  obtain ⟨fs0, hfs0, _⟩ := (pk.tiok (t := 46) rfl).struct rfl
  obtain ⟨cs0, rfl⟩ := agg_of_okWide (show Try.prog.underlying 46 = _ from hfs0) (hval 0 46 v0 rfl rfl)
  obtain ⟨fuel0, hf0⟩ := h0
  obtain ⟨a0, hok0, hr0, hl0⟩ := openSig H enc W fuel0 _ _ hf0
  have k1 := h1
  have lt1 : ∀ x ∈ p1, x.block < W.heap.size := by obtain ⟨m, hm⟩ := k1; exact DataW.trod_lt m _ _ _ hm
  have hc1 := cells_of_okWide (.inr (.inl ⟨_, (pk.tiok (t := 3) rfl).int rfl⟩)) (hval 1 3 v1 rfl rfl)
  obtain ⟨fuel1, hf1⟩ := h1
  rw [hc1] at hf1
  obtain ⟨a1, hok1, hr1, hl1⟩ := openInt H enc W fuel1 _ _ hf1
  have k2 := h2
  have lt2 : ∀ x ∈ p2, x.block < W.heap.size := by obtain ⟨m, hm⟩ := k2; exact DataW.trod_lt m _ _ _ hm
  have hc2 := cells_of_okWide (.inr (.inr ((pk.tiok (t := 9) rfl).string rfl))) (hval 2 9 v2 rfl rfl)
  obtain ⟨fuel2, hf2⟩ := h2
  rw [hc2] at hf2
  obtain ⟨a2, hok2, hr2, hl2⟩ := openStr H enc W fuel2 _ _ hf2
  clear hA0 hval0
  refine (law_calls (vals := #[.agg cs0, v1, v2]) (fnExactAllowsAt_ct a0 a1 a2 hok0 hok1 hok2) ?_).mono fun e W' ⟨he, bel⟩ => ?_
  · simp only [TRs, TR]
    exact ⟨_, _, rfl, ⟨cs0, rfl, hl0, hr0⟩, ⟨_, _, rfl, hr1.1, ⟨_, _, rfl, hr2.1, rfl⟩⟩⟩
  · subst he
    exact ⟨_, rfl, _, _, _, [], _, [], hW', trodAll_mk1 (shut_bool (show Try.prog.underlying 4 = some .bool by kernel_rfl) _), (trodAll_cons_mk (Below.trod laidOut (by kernel_rfl) (of_decide_eq_true (by kernel_rfl)) k0 bel lt0) (trodAll_cons_mk (Below.trod laidOut (by kernel_rfl) (of_decide_eq_true (by kernel_rfl)) k1 bel lt1) (trodAll_cons_mk (Below.trod laidOut (by kernel_rfl) (of_decide_eq_true (by kernel_rfl)) k2 bel lt2) trodAll_mk0))), rfl, bel.frame _, fun h => by cases h⟩

theorem over : Rows.fnExactAllowsAtRow.holds Try.pinned (OpenSpec.ofChange Rows.fnExactAllowsAtSpec) :=
  OpenClaim.holds_of_wide 6 Try.f6 rfl rfl rfl rfl rfl rfl rfl ⟨rfl, rfl, rfl, rfl, rfl⟩ rfl rfl rfl rfl rfl (by kernel_rfl) Try.func6 (by kernel_rfl)
    (of_decide_eq_true (by kernel_rfl)) (by unfold Func.isWrapper; first | (rw [if_pos (by decide +kernel)]; kernel_rfl) | (rw [if_neg (by decide +kernel)]; exact ⟨rfl, rfl⟩))
    (fun os started H enc _ => lifted os started H enc)
theorem proved : Rows.FnExactAllowsAtSaid := over
#print axioms proved
end Go.Proofs.Ytekdhmddibfidaa.FnExactAllowsAtx
namespace Go.Proofs.Ytekdhmddibfidaa
/-- The row, under a short name, for the claim. -/
theorem fnExactAllowsAt_holds : Rows.FnExactAllowsAtSaid := FnExactAllowsAtx.proved
end Go.Proofs.Ytekdhmddibfidaa
