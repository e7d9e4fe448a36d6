/- The row of the law of sorted flats. -/
import Derived.Test.YtkjbjgndinjdpaaRows
import Derived.Test.YtkjbjgndinjdpaaCm
import Derived.Test.YtkjbjgndinjdpaaEb
import Derived.WalkKit
import Derived.ProofKit
import Derived.OpenShut
import Derived.ShutString
import Derived.ChangeOld
import Derived.Below
set_option linter.unusedVariables false
set_option linter.unusedSimpArgs false
namespace Go.Proofs.Ytkjbjgndinjdpaa.FnExactSortFlatx
open Go Go.ChangeShapes Go.WideShapes Go.ChangeAt Go.RowKit
open Go.Proofs.Ytkjbjgndinjdpaa
set_option maxRecDepth 100000

theorem own : ownKnob Try.prog.godebug = none := by kernel_rfl
theorem laidOut : laidOutB Try.prog = true := by kernel_rfl

def PairOk (p : Pair) : Prop := p.name.length ≤ 9223372036854775807
theorem openPair : Opens pk.P 121 eP PairOk :=
  Opens.map (xo_struct (α := Str × Int × Unit) rfl rfl (fun _ => rfl) (opensF_cons (off' := 1) (xo_str rfl rfl) (fun _ => rfl) (by omega) (opensF_cons (off' := 2) (xo_int rfl rfl rfl) (fun _ => rfl) (by omega) opensF_nil)))
    (fun x => ⟨x.1, x.2.1⟩) (fun _ => rfl) (fun _ h => h.1)
theorem openFlat : Opens pk.P 53 eF Fits :=
  Opens.map (xo_struct (α := List Int × List Pair × Unit) rfl rfl (fun _ => rfl) (opensF_cons (off' := 1) (xo_slice (enc := eI) rfl rfl rfl rfl (fun _ => rfl) (xo_int rfl rfl rfl)) (fun _ => rfl) (by omega)
      (opensF_cons (off' := 2) (xo_slice rfl rfl rfl rfl (fun _ => rfl) openPair) (fun _ => rfl) (by omega) opensF_nil)))
    (fun x => ⟨x.1, x.2.1⟩) (fun _ => rfl) (fun _ h => ⟨h.1.1, h.2.1.1, h.2.1.2⟩)

theorem lifted (os : Os) (started : os.Started) (H : Type) (enc : TypeId × Value → H) :
    ReturnsInHanded {} Try.checked os 5 .any (Rows.fnExactSortFlatSpec.pre6 enc Try.prog Try.f5 Rows.fnExactSortFlatRow.domain false) (Rows.fnExactSortFlatSpec.post enc Try.prog Try.f5 false true false false) := by
  refine returnsInHanded_of_change (C := Try.checked) own started (by kernel_rfl) Try.func5
    (ChangeSpec.witness6 (enc := enc) (C := Try.checked) false ⟨#[], #[.agg #[.slice none 0 0, .slice none 0 0]], []⟩ 8 (by kernel_rfl) (by kernel_rfl) (by kernel_rfl) (by kernel_rfl)) ?_
  intro W base args ds gs before hval0 hW hcnd _
  have hval : ∀ (j : Nat) t v, Try.f5.params[j]? = some t → args[j]? = some v → Value.okWide Try.prog W .any base t v := hval0
  have hW' := hW
  obtain ⟨p, q, hA0, hV, rfl, hfz, hnd⟩ := hW
  have hA : DataW.TrodAll enc Try.prog W 0 (fun _ => true) true [53] args.toList ds p := hA0
  obtain ⟨v0, vs0, d0, ds0, p0, q0, hargs, rfl, rfl, h0, r0⟩ := trodAll_cons hA
  obtain ⟨rfl, rfl, rfl⟩ := trodAll_nil r0
  obtain rfl : args = #[v0] := by cases args; simp_all
  obtain ⟨rfl, rfl⟩ := trodVars_none hV
  have k0 := h0
  have lt0 : ∀ x ∈ p0, x.block < W.heap.size := by obtain ⟨m, hm⟩ := k0; exact DataW.trod_lt m _ _ _ hm
  obtain ⟨fs, hfs, _⟩ := (pk.tiok (t := 53) rfl).struct rfl
  have hfs' : Try.prog.underlying 53 = some (.struct fs) := hfs
  obtain ⟨cs, rfl⟩ : ∃ cs, v0 = .agg cs := by
    have h1 := hval 0 53 v0 rfl rfl
    unfold Value.okWide at h1
    rw [hfs'] at h1
    obtain ⟨cs, h2, _⟩ := h1
    exact ⟨cs, h2⟩
  obtain ⟨fuel, hf⟩ := h0
  obtain ⟨f, hok, hr, hl⟩ := openFlat H enc W fuel _ _ hf
  clear hA0 hval0
  refine (law_calls (vals := #[.agg cs]) (fnExactSortFlat_ct f hok) ?_).mono fun e W' ⟨he, bel⟩ => ?_
  · simp only [TRs, TR]
    exact ⟨_, _, rfl, ⟨cs, rfl, hl, hr⟩, rfl⟩
  · subst he
    exact ⟨_, rfl, _, _, _, [], _, [], hW', trodAll_mk1 (shut_bool (show Try.prog.underlying 4 = some .bool by kernel_rfl) _), trodAll_cons_mk (Below.trod laidOut (by kernel_rfl) (of_decide_eq_true (by kernel_rfl)) k0 bel lt0) trodAll_mk0, rfl, bel.frame _, fun h => by cases h⟩

theorem over : Rows.fnExactSortFlatRow.holds Try.pinned (OpenSpec.ofChange Rows.fnExactSortFlatSpec) :=
  OpenClaim.holds_of_wide 5 Try.f5 rfl rfl rfl rfl rfl rfl rfl ⟨rfl, rfl, rfl, rfl, rfl⟩ rfl rfl rfl rfl rfl (by kernel_rfl) Try.func5 (by kernel_rfl)
    (of_decide_eq_true (by kernel_rfl)) (by unfold Func.isWrapper; first | (rw [if_pos (by decide +kernel)]; kernel_rfl) | (rw [if_neg (by decide +kernel)]; exact ⟨rfl, rfl⟩))
    (fun os started H enc _ => lifted os started H enc)
theorem proved : Rows.FnExactSortFlatSaid := over
#print axioms proved
end Go.Proofs.Ytkjbjgndinjdpaa.FnExactSortFlatx
namespace Go.Proofs.Ytkjbjgndinjdpaa
/-- The row, under a short name, for the claim. -/
theorem fnExactSortFlat_holds : Rows.FnExactSortFlatSaid := FnExactSortFlatx.proved
end Go.Proofs.Ytkjbjgndinjdpaa
