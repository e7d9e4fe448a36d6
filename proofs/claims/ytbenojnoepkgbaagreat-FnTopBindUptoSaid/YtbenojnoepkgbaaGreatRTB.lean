/- Proved: where what it reads is of bulk at most 1048576, the law FnTopBind returns true, and the input reads behind the call as it read before (the statement FnTopBindUptoSaid). -/
import Derived.Test.YtbenojnoepkgbaaGreatKTB4
import Derived.Test.YtbenojnoepkgbaaGreatRows
import Derived.WalkKit
import Derived.ProofKit
import Derived.OpenShut
import Derived.ShutString
import Derived.ChangeOld
import Derived.Below
import Derived.JoinedCond
set_option linter.unusedVariables false
set_option linter.unusedSimpArgs false
namespace Go.Proofs.YtbenojnoepkgbaaGreat.FnTopBindx
open Go Go.ChangeShapes Go.WideShapes Go.ChangeAt Go.RowKit
open Go.Proofs.YtbenojnoepkgbaaGreat
set_option maxRecDepth 100000
set_option maxHeartbeats 1000000

theorem own : ownKnob Tryz.prog.godebug = none := by kernel_rfl
theorem laidOut : laidOutB Tryz.prog = true := by kernel_rfl

theorem lifted (os : Os) (started : os.Started) (H : Type) (enc : TypeId × Value → H) (F : Stop.Interp) :
    ReturnsInHanded {} Tryz.checked os 7 .any ((Rows.OpenSpec.upto Rows.fnTopBindSpec).pre6 enc Tryz.prog Tryz.f7 Rows.fnTopBindUptoRow.domain false) (((Rows.OpenSpec.upto Rows.fnTopBindSpec).at F).post enc Tryz.prog Tryz.f7 false true false false) := by
  refine returnsInHanded_of_cond (C := Tryz.checked) (s := Rows.OpenSpec.upto Rows.fnTopBindSpec) (k := Rows.uptoSmall) rfl own started (by kernel_rfl) Tryz.func7
    (OpenSpec.witness (enc := enc) (C := Tryz.checked) (s := Rows.OpenSpec.upto Rows.fnTopBindSpec) (k := Rows.uptoSmall) rfl false ⟨#[], #[.agg #[.slice none 0 0], .agg #[.slice none 0 0]], []⟩ 8 (by kernel_rfl) (by kernel_rfl) (by kernel_rfl)
      (x := ([.agg [.nil], .agg [.nil]], [], [])) (by kernel_rfl) rfl (by kernel_rfl)) ?_
  intro W base args ds gs before hval0 hW _ hk _
  have hval : ∀ (j : Nat) t v, Tryz.f7.params[j]? = some t → args[j]? = some v → Value.okWide Tryz.prog W .any base t v := hval0
  have hW' := hW
  obtain ⟨p, q, hA0, hV, rfl, hfz, hnd⟩ := hW
  have hA : DataW.TrodAll enc Tryz.prog W 0 (fun _ => true) true [25, 53] args.toList ds p := hA0
  obtain ⟨v0, vs0, d0, ds0, p0, q0, hargs, rfl, rfl, h0, r0⟩ := trodAll_cons hA
  obtain ⟨v1, vs1, d1, ds1, p1, q1, rfl, rfl, rfl, h1, r1⟩ := trodAll_cons r0
  obtain ⟨rfl, rfl, rfl⟩ := trodAll_nil r1
  obtain rfl : args = #[v0, v1] := by cases args; simp_all
  obtain ⟨rfl, rfl⟩ := trodVars_none hV
  have hbulk : Rows.uptoBulkAll [d0, d1] ≤ 1048576 := of_decide_eq_true hk
  simp only [Rows.uptoBulkAll] at hbulk
  have k0 := h0
  have lt0 : ∀ x ∈ p0, x.block < W.heap.size := by obtain ⟨m, hm⟩ := k0; exact DataW.trod_lt m _ _ _ hm
  obtain ⟨fs0, hfs0, _⟩ := (pk.tiok (t := 25) rfl).struct rfl
  obtain ⟨cs0, rfl⟩ := agg_of_okWide (show Tryz.prog.underlying 25 = _ from hfs0) (hval 0 25 v0 rfl rfl)
  obtain ⟨fuel0, hf0⟩ := h0
  obtain ⟨a0, hmu0, hr0, hl0⟩ := omISig H enc W fuel0 _ _ hf0
  have hok0 := muG_len (Nat.le_trans hmu0 (show Rows.uptoBulk d0 ≤ 1048576 by omega))
  have k1 := h1
  have lt1 : ∀ x ∈ p1, x.block < W.heap.size := by obtain ⟨m, hm⟩ := k1; exact DataW.trod_lt m _ _ _ hm
  obtain ⟨fs1, hfs1, _⟩ := (pk.tiok (t := 53) rfl).struct rfl
  obtain ⟨cs1, rfl⟩ := agg_of_okWide (show Tryz.prog.underlying 53 = _ from hfs1) (hval 1 53 v1 rfl rfl)
  obtain ⟨fuel1, hf1⟩ := h1
  obtain ⟨a1, hmu1, hr1, hl1⟩ := omIBinding H enc W fuel1 _ _ hf1
  have hok1 := muB_small (Nat.le_trans hmu1 (show Rows.uptoBulk d1 ≤ 1048576 by omega))
  clear hA0 hval0
  refine (law_calls (vals := #[.agg cs0, .agg cs1]) (fnTopBind_ct a0 a1 hok0 hok1) (fun g hg => by cases hg) ?_).mono fun e W' ⟨he, bel⟩ => ?_
  · simp only [TRs, TR]
    exact ⟨_, _, rfl, ⟨cs0, rfl, hl0, hr0⟩, ⟨_, _, rfl, ⟨cs1, rfl, hl1, hr1⟩, rfl⟩⟩
  · subst he
    exact ⟨_, rfl, _, _, _, [], _, [], hW', trodAll_mk1 (shut_bool (show Tryz.prog.underlying 4 = some .bool by kernel_rfl) _), (trodAll_cons_mk (Below.trod laidOut (by kernel_rfl) (of_decide_eq_true (by kernel_rfl)) k0 bel lt0) (trodAll_cons_mk (Below.trod laidOut (by kernel_rfl) (of_decide_eq_true (by kernel_rfl)) k1 bel lt1) trodAll_mk0)), rfl, bel.frame _, fun h => by cases h⟩

theorem over : Rows.fnTopBindUptoRow.holds Tryz.pinned (Rows.OpenSpec.upto Rows.fnTopBindSpec) :=
  OpenClaim.holds_of_cond 7 Tryz.f7 rfl rfl rfl rfl rfl rfl rfl ⟨rfl, rfl, rfl, rfl, rfl⟩ rfl rfl rfl rfl rfl (by kernel_rfl) Tryz.func7 (by kernel_rfl)
    (of_decide_eq_true (by kernel_rfl)) (by unfold Func.isWrapper; first | (rw [if_pos (by decide +kernel)]; kernel_rfl) | (rw [if_neg (by decide +kernel)]; exact ⟨rfl, rfl⟩))
    (fun os started H enc _ F => lifted os started H enc F)
theorem proved : Rows.FnTopBindUptoSaid := over
#print axioms proved
end Go.Proofs.YtbenojnoepkgbaaGreat.FnTopBindx
namespace Go.Proofs.YtbenojnoepkgbaaGreat
/-- The row, under a short name, for the claim. -/
theorem fnTopBind_holds : Rows.FnTopBindUptoSaid := FnTopBindx.proved
end Go.Proofs.YtbenojnoepkgbaaGreat
