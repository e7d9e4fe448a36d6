/-
  No cell of these rows narrows 'for every input' (looked for: loops, veiled, ifaces, maps, wideKeys, modest, calm, conditions, laid).
  DERIVED. THE GIVEN ROWS OF THIS SEAT. 5 by the template 'for every input the law returns true; each argument reads behind the call as it read before'; 0 by the template 'total and deterministic' (their statements: YtbenojnoepkgbaaGreatTotals.lean).
  GIVEN WITH THE SEED: the statements are not yours to turn. If you find one false, say at which input.
  Laid BY PROGRAM, IN A SANDBOX (cutbox-rows.mjs): the forced cells as the released guide's own fill.sh prints them over the translation 44b39d9d5acb0011… (all of the seat's roots in one cut). By AI agents, Wed Nov 11 2026. No macro, syntax, notation, axiom, sorry.
-/
import Derived.Test.YtbenojnoepkgbaaGreatChecked
import GoSem.Claim
import GoSem.ClaimJoined
import GoSem.ClaimMapViews
import Derived.JoinedTies
import Derived.KernelRfl
namespace Go.Proofs.YtbenojnoepkgbaaGreat
/- THE CELL 'sum', in the pinned program and in every row, IS THE sha256 OF THE DUMP (.gsa) THAT YtbenojnoepkgbaaGreatProg.lean LOADS. Nothing in Lean hashes anything: it is a label: what it is worth is what the hold of that sum in a sandbox is worth. -/
noncomputable def Tryz.pinned : Pinned := { name := "ytbenojnoepkgbaagreat", sum := "44b39d9d5acb00112a8d9bf4802d332a400d00c6a1421bb93c3b2bda3c0968d8", checked := Tryz.checked }
namespace Rows
def none {H : Type} : Left H := { results := [], args := [] }

/-- 'laws.FnAdaptFlatSelf': WHATEVER THE INPUT: true; the input reads as it did. -/
def fnAdaptFlatSelfSpec : ChangeSpec := { name := "fnAdaptFlatSelf", fn := fun _ => fun
  | [d] => { results := [.lit (.bool true)], args := [d] }
  | _ => none }
def fnAdaptFlatSelfRow : OpenClaim := { program := "ytbenojnoepkgbaagreat", sum := "44b39d9d5acb00112a8d9bf4802d332a400d00c6a1421bb93c3b2bda3c0968d8", func := "loop.example/callbinding/laws.FnAdaptFlatSelf", spec := "fnAdaptFlatSelf", unfollowed := true, recurses := true, apart := false }
def FnAdaptFlatSelfSaid : Prop := fnAdaptFlatSelfRow.holds Tryz.pinned (OpenSpec.ofChange fnAdaptFlatSelfSpec)

/-- ITS FALSE NEIGHBOUR: 'it returns false'. Refute it at one input. -/
def fnAdaptFlatSelfWrong : ChangeSpec := { name := "fnAdaptFlatSelf", fn := fun _ => fun
  | [d] => { results := [.lit (.bool false)], args := [d] }
  | _ => none }
def FnAdaptFlatSelfWrongFalsely : Prop := fnAdaptFlatSelfRow.holds Tryz.pinned (OpenSpec.ofChange fnAdaptFlatSelfWrong)

/-- 'laws.FnAdaptFlatBack': WHATEVER THE INPUT: true; the input reads as it did. -/
def fnAdaptFlatBackSpec : ChangeSpec := { name := "fnAdaptFlatBack", fn := fun _ => fun
  | [d] => { results := [.lit (.bool true)], args := [d] }
  | _ => none }
def fnAdaptFlatBackRow : OpenClaim := { program := "ytbenojnoepkgbaagreat", sum := "44b39d9d5acb00112a8d9bf4802d332a400d00c6a1421bb93c3b2bda3c0968d8", func := "loop.example/callbinding/laws.FnAdaptFlatBack", spec := "fnAdaptFlatBack", unfollowed := true, recurses := true, apart := false }
def FnAdaptFlatBackSaid : Prop := fnAdaptFlatBackRow.holds Tryz.pinned (OpenSpec.ofChange fnAdaptFlatBackSpec)

/-- ITS FALSE NEIGHBOUR: 'it returns false'. Refute it at one input. -/
def fnAdaptFlatBackWrong : ChangeSpec := { name := "fnAdaptFlatBack", fn := fun _ => fun
  | [d] => { results := [.lit (.bool false)], args := [d] }
  | _ => none }
def FnAdaptFlatBackWrongFalsely : Prop := fnAdaptFlatBackRow.holds Tryz.pinned (OpenSpec.ofChange fnAdaptFlatBackWrong)

/-- 'laws.FnExactUnbind': WHATEVER THE INPUT: true; the input reads as it did. -/
def fnExactUnbindSpec : ChangeSpec := { name := "fnExactUnbind", fn := fun _ => fun
  | [d1, d2] => { results := [.lit (.bool true)], args := [d1, d2] }
  | _ => none }
def fnExactUnbindRow : OpenClaim := { program := "ytbenojnoepkgbaagreat", sum := "44b39d9d5acb00112a8d9bf4802d332a400d00c6a1421bb93c3b2bda3c0968d8", func := "loop.example/callbinding/laws.FnExactUnbind", spec := "fnExactUnbind", unfollowed := true, recurses := true, apart := false }
def FnExactUnbindSaid : Prop := fnExactUnbindRow.holds Tryz.pinned (OpenSpec.ofChange fnExactUnbindSpec)

/-- ITS FALSE NEIGHBOUR: 'it returns false'. Refute it at one input. -/
def fnExactUnbindWrong : ChangeSpec := { name := "fnExactUnbind", fn := fun _ => fun
  | [d1, d2] => { results := [.lit (.bool false)], args := [d1, d2] }
  | _ => none }
def FnExactUnbindWrongFalsely : Prop := fnExactUnbindRow.holds Tryz.pinned (OpenSpec.ofChange fnExactUnbindWrong)

/-- 'laws.FnExactCallPartial': WHATEVER THE INPUT: true; the input reads as it did. -/
def fnExactCallPartialSpec : ChangeSpec := { name := "fnExactCallPartial", fn := fun _ => fun
  | [d1, d2] => { results := [.lit (.bool true)], args := [d1, d2] }
  | _ => none }
def fnExactCallPartialRow : OpenClaim := { program := "ytbenojnoepkgbaagreat", sum := "44b39d9d5acb00112a8d9bf4802d332a400d00c6a1421bb93c3b2bda3c0968d8", func := "loop.example/callbinding/laws.FnExactCallPartial", spec := "fnExactCallPartial", unfollowed := true, recurses := true, apart := false }
def FnExactCallPartialSaid : Prop := fnExactCallPartialRow.holds Tryz.pinned (OpenSpec.ofChange fnExactCallPartialSpec)

/-- ITS FALSE NEIGHBOUR: 'it returns false'. Refute it at one input. -/
def fnExactCallPartialWrong : ChangeSpec := { name := "fnExactCallPartial", fn := fun _ => fun
  | [d1, d2] => { results := [.lit (.bool false)], args := [d1, d2] }
  | _ => none }
def FnExactCallPartialWrongFalsely : Prop := fnExactCallPartialRow.holds Tryz.pinned (OpenSpec.ofChange fnExactCallPartialWrong)

/-- 'laws.FnTopBind': WHATEVER THE INPUT: true; the input reads as it did. -/
def fnTopBindSpec : ChangeSpec := { name := "fnTopBind", fn := fun _ => fun
  | [d1, d2] => { results := [.lit (.bool true)], args := [d1, d2] }
  | _ => none }
def fnTopBindRow : OpenClaim := { program := "ytbenojnoepkgbaagreat", sum := "44b39d9d5acb00112a8d9bf4802d332a400d00c6a1421bb93c3b2bda3c0968d8", func := "loop.example/callbinding/laws.FnTopBind", spec := "fnTopBind", unfollowed := true, recurses := true, apart := false }
def FnTopBindSaid : Prop := fnTopBindRow.holds Tryz.pinned (OpenSpec.ofChange fnTopBindSpec)

/-- ITS FALSE NEIGHBOUR: 'it returns false'. Refute it at one input. -/
def fnTopBindWrong : ChangeSpec := { name := "fnTopBind", fn := fun _ => fun
  | [d1, d2] => { results := [.lit (.bool false)], args := [d1, d2] }
  | _ => none }
def FnTopBindWrongFalsely : Prop := fnTopBindRow.holds Tryz.pinned (OpenSpec.ofChange fnTopBindWrong)

/- THE SECOND FORM. 'bulk': how many values and letters a reading holds, each counted each time it is reached (what is shared counts as often as it is met; a slice's spare places count too). A statement '..UptoSaid' is the law's where the arguments, and the package variables that the reading takes, are together of bulk at most 1048576: NARROWER than '..Said'. Prove '..Said' where nothing that the law and all that it calls make is longer than what came in: it says more and counts as full. Else prove '..UptoSaid'. A law counts once. -/
mutual
def uptoBulk {H : Type} : DataW H → Nat
  | .lit (.string bytes) => bytes.length + 1
  | .lit _ => 1
  | .nil => 1
  | .ptr d => uptoBulk d + 1
  | .slice elems spare => uptoBulkAll elems + uptoBulkAll spare + 1
  | .agg parts => uptoBulkAll parts + 1
  | .iface _ d => uptoBulk d + 1
  | .map entries => uptoBulkEntries entries + 1
  | .held _ => 1
def uptoBulkAll {H : Type} : List (DataW H) → Nat
  | [] => 0
  | d :: r => uptoBulk d + uptoBulkAll r
def uptoBulkEntries {H : Type} : List (Lit × DataW H) → Nat
  | [] => 0
  | x :: r => uptoBulkEntry x + uptoBulkEntries r
def uptoBulkEntry {H : Type} : Lit × DataW H → Nat
  | (.string bytes, d) => bytes.length + uptoBulk d + 1
  | (_, d) => uptoBulk d + 1
 end
def uptoSmall : (H : Type) → List (DataW H) → Bool := fun _ ds => decide (uptoBulkAll ds ≤ 1048576)
def OpenSpec.upto (s : _root_.Go.ChangeSpec) : _root_.Go.OpenSpec := { _root_.Go.OpenSpec.ofChange s with cond := some uptoSmall }

/-- 'laws.FnAdaptFlatSelf', WHERE WHAT IT READS IS OF BULK AT MOST 1048576: true; the input reads as it did. -/
def fnAdaptFlatSelfUptoRow : OpenClaim := { program := "ytbenojnoepkgbaagreat", sum := "44b39d9d5acb00112a8d9bf4802d332a400d00c6a1421bb93c3b2bda3c0968d8", func := "loop.example/callbinding/laws.FnAdaptFlatSelf", spec := "fnAdaptFlatSelf", unfollowed := true, recurses := true, apart := false, narrowed := true }
def FnAdaptFlatSelfUptoSaid : Prop := fnAdaptFlatSelfUptoRow.holds Tryz.pinned (OpenSpec.upto fnAdaptFlatSelfSpec)

/-- 'laws.FnAdaptFlatBack', WHERE WHAT IT READS IS OF BULK AT MOST 1048576: true; the input reads as it did. -/
def fnAdaptFlatBackUptoRow : OpenClaim := { program := "ytbenojnoepkgbaagreat", sum := "44b39d9d5acb00112a8d9bf4802d332a400d00c6a1421bb93c3b2bda3c0968d8", func := "loop.example/callbinding/laws.FnAdaptFlatBack", spec := "fnAdaptFlatBack", unfollowed := true, recurses := true, apart := false, narrowed := true }
def FnAdaptFlatBackUptoSaid : Prop := fnAdaptFlatBackUptoRow.holds Tryz.pinned (OpenSpec.upto fnAdaptFlatBackSpec)

/-- 'laws.FnExactUnbind', WHERE WHAT IT READS IS OF BULK AT MOST 1048576: true; the input reads as it did. -/
def fnExactUnbindUptoRow : OpenClaim := { program := "ytbenojnoepkgbaagreat", sum := "44b39d9d5acb00112a8d9bf4802d332a400d00c6a1421bb93c3b2bda3c0968d8", func := "loop.example/callbinding/laws.FnExactUnbind", spec := "fnExactUnbind", unfollowed := true, recurses := true, apart := false, narrowed := true }
def FnExactUnbindUptoSaid : Prop := fnExactUnbindUptoRow.holds Tryz.pinned (OpenSpec.upto fnExactUnbindSpec)

/-- 'laws.FnExactCallPartial', WHERE WHAT IT READS IS OF BULK AT MOST 1048576: true; the input reads as it did. -/
def fnExactCallPartialUptoRow : OpenClaim := { program := "ytbenojnoepkgbaagreat", sum := "44b39d9d5acb00112a8d9bf4802d332a400d00c6a1421bb93c3b2bda3c0968d8", func := "loop.example/callbinding/laws.FnExactCallPartial", spec := "fnExactCallPartial", unfollowed := true, recurses := true, apart := false, narrowed := true }
def FnExactCallPartialUptoSaid : Prop := fnExactCallPartialUptoRow.holds Tryz.pinned (OpenSpec.upto fnExactCallPartialSpec)

/-- 'laws.FnTopBind', WHERE WHAT IT READS IS OF BULK AT MOST 1048576: true; the input reads as it did. -/
def fnTopBindUptoRow : OpenClaim := { program := "ytbenojnoepkgbaagreat", sum := "44b39d9d5acb00112a8d9bf4802d332a400d00c6a1421bb93c3b2bda3c0968d8", func := "loop.example/callbinding/laws.FnTopBind", spec := "fnTopBind", unfollowed := true, recurses := true, apart := false, narrowed := true }
def FnTopBindUptoSaid : Prop := fnTopBindUptoRow.holds Tryz.pinned (OpenSpec.upto fnTopBindSpec)

end Rows
end Go.Proofs.YtbenojnoepkgbaaGreat
