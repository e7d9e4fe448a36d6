/-
  No cell of these rows narrows 'for every input' (looked for: loops, veiled, ifaces, maps, wideKeys, modest, calm, conditions, laid).
  DERIVED. THE GIVEN ROWS OF THIS SEAT. 2 by the template 'for every input the law returns true; each argument reads behind the call as it read before'; 0 by the template 'total and deterministic' (their statements: YtodggffbepfemaaGreatTotals.lean).
  GIVEN WITH THE SEED: the statements are not yours to turn. If you find one false, say at which input.
  Laid BY PROGRAM, IN A SANDBOX (cutbox-rows.mjs): the forced cells as the released guide's own fill.sh prints them over the translation 8737f02cc16edb69… (all of the seat's roots in one cut). By AI agents, Wed Nov 11 2026. No macro, syntax, notation, axiom, sorry.
-/
import Derived.Test.YtodggffbepfemaaGreatChecked
import GoSem.Claim
import GoSem.ClaimJoined
import GoSem.ClaimMapViews
import Derived.JoinedTies
import Derived.KernelRfl
namespace Go.Proofs.YtodggffbepfemaaGreat
/- THE CELL 'sum', in the pinned program and in every row, IS THE sha256 OF THE DUMP (.gsa) THAT YtodggffbepfemaaGreatProg.lean LOADS. Nothing in Lean hashes anything: it is a label: what it is worth is what the hold of that sum in a sandbox is worth. -/
noncomputable def Tryz.pinned : Pinned := { name := "ytodggffbepfemaagreat", sum := "8737f02cc16edb6952bad3846f072059b0c0f019996a66f2003c72e39291f59c", checked := Tryz.checked }
namespace Rows
def none {H : Type} : Left H := { results := [], args := [] }

/-- 'laws.FnExactFullFlat': WHATEVER THE INPUT: true; the input reads as it did. -/
def fnExactFullFlatSpec : ChangeSpec := { name := "fnExactFullFlat", fn := fun _ => fun
  | [d1, d2] => { results := [.lit (.bool true)], args := [d1, d2] }
  | _ => none }
def fnExactFullFlatRow : OpenClaim := { program := "ytodggffbepfemaagreat", sum := "8737f02cc16edb6952bad3846f072059b0c0f019996a66f2003c72e39291f59c", func := "loop.example/callbinding/laws.FnExactFullFlat", spec := "fnExactFullFlat", unfollowed := true, recurses := true, apart := false }
def FnExactFullFlatSaid : Prop := fnExactFullFlatRow.holds Tryz.pinned (OpenSpec.ofChange fnExactFullFlatSpec)

/-- ITS FALSE NEIGHBOUR: 'it returns false'. Refute it at one input. -/
def fnExactFullFlatWrong : ChangeSpec := { name := "fnExactFullFlat", fn := fun _ => fun
  | [d1, d2] => { results := [.lit (.bool false)], args := [d1, d2] }
  | _ => none }
def FnExactFullFlatWrongFalsely : Prop := fnExactFullFlatRow.holds Tryz.pinned (OpenSpec.ofChange fnExactFullFlatWrong)

/-- 'laws.FnExtendPartial': WHATEVER THE INPUT: true; the input reads as it did. -/
def fnExtendPartialSpec : ChangeSpec := { name := "fnExtendPartial", fn := fun _ => fun
  | [d] => { results := [.lit (.bool true)], args := [d] }
  | _ => none }
def fnExtendPartialRow : OpenClaim := { program := "ytodggffbepfemaagreat", sum := "8737f02cc16edb6952bad3846f072059b0c0f019996a66f2003c72e39291f59c", func := "loop.example/callbinding/laws.FnExtendPartial", spec := "fnExtendPartial", unfollowed := true, recurses := true, apart := false }
def FnExtendPartialSaid : Prop := fnExtendPartialRow.holds Tryz.pinned (OpenSpec.ofChange fnExtendPartialSpec)

/-- ITS FALSE NEIGHBOUR: 'it returns false'. Refute it at one input. -/
def fnExtendPartialWrong : ChangeSpec := { name := "fnExtendPartial", fn := fun _ => fun
  | [d] => { results := [.lit (.bool false)], args := [d] }
  | _ => none }
def FnExtendPartialWrongFalsely : Prop := fnExtendPartialRow.holds Tryz.pinned (OpenSpec.ofChange fnExtendPartialWrong)

/- THE SECOND FORM. 'bulk': how many values and letters a reading holds, each counted each time it is reached (what is shared counts as often as it is met; a slice's spare places count too). A statement '..UptoSaid' is the law's where the arguments, and the package variables that the reading takes, are together of bulk at most 1048576: NARROWER than '..Said'. Prove '..Said' where nothing that the law and all that it calls make is longer than what came in: it says more and counts as full. Else prove '..UptoSaid'. A law counts once. -/
mutual
def uptoBulk {H : Type} : DataW H → Nat
  | .lit (.string bytes) => bytes.length + 1
  | .lit _ => 1
  | .nil => 1
  | .ptr d => uptoBulk d + 1
  | .slice elems spare => uptoBulkAll elems + uptoBulkAll spare + 1
  | .agg parts => uptoBulkAll parts + 1
  | .iface _ d => uptoBulk d + 1
  | .map entries => uptoBulkEntries entries + 1
  | .held _ => 1
def uptoBulkAll {H : Type} : List (DataW H) → Nat
  | [] => 0
  | d :: r => uptoBulk d + uptoBulkAll r
def uptoBulkEntries {H : Type} : List (Lit × DataW H) → Nat
  | [] => 0
  | x :: r => uptoBulkEntry x + uptoBulkEntries r
def uptoBulkEntry {H : Type} : Lit × DataW H → Nat
  | (.string bytes, d) => bytes.length + uptoBulk d + 1
  | (_, d) => uptoBulk d + 1
 end
def uptoSmall : (H : Type) → List (DataW H) → Bool := fun _ ds => decide (uptoBulkAll ds ≤ 1048576)
def OpenSpec.upto (s : _root_.Go.ChangeSpec) : _root_.Go.OpenSpec := { _root_.Go.OpenSpec.ofChange s with cond := some uptoSmall }

/-- 'laws.FnExactFullFlat', WHERE WHAT IT READS IS OF BULK AT MOST 1048576: true; the input reads as it did. -/
def fnExactFullFlatUptoRow : OpenClaim := { program := "ytodggffbepfemaagreat", sum := "8737f02cc16edb6952bad3846f072059b0c0f019996a66f2003c72e39291f59c", func := "loop.example/callbinding/laws.FnExactFullFlat", spec := "fnExactFullFlat", unfollowed := true, recurses := true, apart := false, narrowed := true }
def FnExactFullFlatUptoSaid : Prop := fnExactFullFlatUptoRow.holds Tryz.pinned (OpenSpec.upto fnExactFullFlatSpec)

/-- 'laws.FnExtendPartial', WHERE WHAT IT READS IS OF BULK AT MOST 1048576: true; the input reads as it did. -/
def fnExtendPartialUptoRow : OpenClaim := { program := "ytodggffbepfemaagreat", sum := "8737f02cc16edb6952bad3846f072059b0c0f019996a66f2003c72e39291f59c", func := "loop.example/callbinding/laws.FnExtendPartial", spec := "fnExtendPartial", unfollowed := true, recurses := true, apart := false, narrowed := true }
def FnExtendPartialUptoSaid : Prop := fnExtendPartialUptoRow.holds Tryz.pinned (OpenSpec.upto fnExtendPartialSpec)

end Rows
end Go.Proofs.YtodggffbepfemaaGreat
