/-
  No cell of these rows narrows 'for every input' (looked for: loops, veiled, ifaces, maps, wideKeys, modest, calm, conditions, laid).
  DERIVED. THE GIVEN ROWS OF THIS SEAT. 8 by the template 'for every input the law returns true; each argument reads behind the call as it read before'; 0 by the template 'total and deterministic' (their statements: YtodggffbepfemaaTotals.lean).
  GIVEN WITH THE SEED: the statements are not yours to turn. If you find one false, say at which input.
  Laid BY PROGRAM, IN A SANDBOX (cutbox-rows.mjs): the forced cells as the released guide's own fill.sh prints them over the translation a95d69ea88f47672… (all of the seat's roots in one cut). By AI agents, Wed Nov 11 2026. No macro, syntax, notation, axiom, sorry.
-/
import Derived.Test.YtodggffbepfemaaChecked
import GoSem.Claim
import GoSem.ClaimJoined
import GoSem.ClaimMapViews
import Derived.JoinedTies
import Derived.KernelRfl
namespace Go.Proofs.Ytodggffbepfemaa
/- THE CELL 'sum', in the pinned program and in every row, IS THE sha256 OF THE DUMP (.gsa) THAT YtodggffbepfemaaProg.lean LOADS. Nothing in Lean hashes anything: it is a label: what it is worth is what the hold of that sum in a sandbox is worth. -/
noncomputable def Try.pinned : Pinned := { name := "ytodggffbepfemaa", sum := "a95d69ea88f47672f7a0be6cc17517b2eb9b42f40c30d65520bdcbaecfdf7e2c", checked := Try.checked }
namespace Rows
def none {H : Type} : Left H := { results := [], args := [] }

/-- 'laws.FnPartialSignature': WHATEVER THE INPUT: true; the input reads as it did. -/
def fnPartialSignatureSpec : ChangeSpec := { name := "fnPartialSignature", fn := fun _ => fun
  | [d] => { results := [.lit (.bool true)], args := [d] }
  | _ => none }
def fnPartialSignatureRow : OpenClaim := { program := "ytodggffbepfemaa", sum := "a95d69ea88f47672f7a0be6cc17517b2eb9b42f40c30d65520bdcbaecfdf7e2c", func := "loop.example/callbinding/laws.FnPartialSignature", spec := "fnPartialSignature", unfollowed := true, recurses := true, apart := false }
def FnPartialSignatureSaid : Prop := fnPartialSignatureRow.holds Try.pinned (OpenSpec.ofChange fnPartialSignatureSpec)

/-- ITS FALSE NEIGHBOUR: 'it returns false'. Refute it at one input. -/
def fnPartialSignatureWrong : ChangeSpec := { name := "fnPartialSignature", fn := fun _ => fun
  | [d] => { results := [.lit (.bool false)], args := [d] }
  | _ => none }
def FnPartialSignatureWrongFalsely : Prop := fnPartialSignatureRow.holds Try.pinned (OpenSpec.ofChange fnPartialSignatureWrong)

/-- 'laws.FnDropName': WHATEVER THE INPUT: true; the input reads as it did. -/
def fnDropNameSpec : ChangeSpec := { name := "fnDropName", fn := fun _ => fun
  | [d] => { results := [.lit (.bool true)], args := [d] }
  | _ => none }
def fnDropNameRow : OpenClaim := { program := "ytodggffbepfemaa", sum := "a95d69ea88f47672f7a0be6cc17517b2eb9b42f40c30d65520bdcbaecfdf7e2c", func := "loop.example/callbinding/laws.FnDropName", spec := "fnDropName", unfollowed := true, recurses := true, apart := false }
def FnDropNameSaid : Prop := fnDropNameRow.holds Try.pinned (OpenSpec.ofChange fnDropNameSpec)

/-- ITS FALSE NEIGHBOUR: 'it returns false'. Refute it at one input. -/
def fnDropNameWrong : ChangeSpec := { name := "fnDropName", fn := fun _ => fun
  | [d] => { results := [.lit (.bool false)], args := [d] }
  | _ => none }
def FnDropNameWrongFalsely : Prop := fnDropNameRow.holds Try.pinned (OpenSpec.ofChange fnDropNameWrong)

/-- 'laws.FnExactPartialSignature': WHATEVER THE INPUT: true; the input reads as it did. -/
def fnExactPartialSignatureSpec : ChangeSpec := { name := "fnExactPartialSignature", fn := fun _ => fun
  | [d] => { results := [.lit (.bool true)], args := [d] }
  | _ => none }
def fnExactPartialSignatureRow : OpenClaim := { program := "ytodggffbepfemaa", sum := "a95d69ea88f47672f7a0be6cc17517b2eb9b42f40c30d65520bdcbaecfdf7e2c", func := "loop.example/callbinding/laws.FnExactPartialSignature", spec := "fnExactPartialSignature", unfollowed := true, recurses := true, apart := false }
def FnExactPartialSignatureSaid : Prop := fnExactPartialSignatureRow.holds Try.pinned (OpenSpec.ofChange fnExactPartialSignatureSpec)

/-- ITS FALSE NEIGHBOUR: 'it returns false'. Refute it at one input. -/
def fnExactPartialSignatureWrong : ChangeSpec := { name := "fnExactPartialSignature", fn := fun _ => fun
  | [d] => { results := [.lit (.bool false)], args := [d] }
  | _ => none }
def FnExactPartialSignatureWrongFalsely : Prop := fnExactPartialSignatureRow.holds Try.pinned (OpenSpec.ofChange fnExactPartialSignatureWrong)

/-- 'laws.FnOverFlatShape': WHATEVER THE INPUT: true; the input reads as it did. -/
def fnOverFlatShapeSpec : ChangeSpec := { name := "fnOverFlatShape", fn := fun _ => fun
  | [d] => { results := [.lit (.bool true)], args := [d] }
  | _ => none }
def fnOverFlatShapeRow : OpenClaim := { program := "ytodggffbepfemaa", sum := "a95d69ea88f47672f7a0be6cc17517b2eb9b42f40c30d65520bdcbaecfdf7e2c", func := "loop.example/callbinding/laws.FnOverFlatShape", spec := "fnOverFlatShape", unfollowed := true, recurses := true, apart := false }
def FnOverFlatShapeSaid : Prop := fnOverFlatShapeRow.holds Try.pinned (OpenSpec.ofChange fnOverFlatShapeSpec)

/-- ITS FALSE NEIGHBOUR: 'it returns false'. Refute it at one input. -/
def fnOverFlatShapeWrong : ChangeSpec := { name := "fnOverFlatShape", fn := fun _ => fun
  | [d] => { results := [.lit (.bool false)], args := [d] }
  | _ => none }
def FnOverFlatShapeWrongFalsely : Prop := fnOverFlatShapeRow.holds Try.pinned (OpenSpec.ofChange fnOverFlatShapeWrong)

/-- 'laws.FnExactShapeOf': WHATEVER THE INPUT: true; the input reads as it did. -/
def fnExactShapeOfSpec : ChangeSpec := { name := "fnExactShapeOf", fn := fun _ => fun
  | [d] => { results := [.lit (.bool true)], args := [d] }
  | _ => none }
def fnExactShapeOfRow : OpenClaim := { program := "ytodggffbepfemaa", sum := "a95d69ea88f47672f7a0be6cc17517b2eb9b42f40c30d65520bdcbaecfdf7e2c", func := "loop.example/callbinding/laws.FnExactShapeOf", spec := "fnExactShapeOf", unfollowed := true, recurses := true, apart := false }
def FnExactShapeOfSaid : Prop := fnExactShapeOfRow.holds Try.pinned (OpenSpec.ofChange fnExactShapeOfSpec)

/-- ITS FALSE NEIGHBOUR: 'it returns false'. Refute it at one input. -/
def fnExactShapeOfWrong : ChangeSpec := { name := "fnExactShapeOf", fn := fun _ => fun
  | [d] => { results := [.lit (.bool false)], args := [d] }
  | _ => none }
def FnExactShapeOfWrongFalsely : Prop := fnExactShapeOfRow.holds Try.pinned (OpenSpec.ofChange fnExactShapeOfWrong)

/-- 'laws.FnExactNeedsAt': WHATEVER THE INPUT: true; the input reads as it did. -/
def fnExactNeedsAtSpec : ChangeSpec := { name := "fnExactNeedsAt", fn := fun _ => fun
  | [d1, d2] => { results := [.lit (.bool true)], args := [d1, d2] }
  | _ => none }
def fnExactNeedsAtRow : OpenClaim := { program := "ytodggffbepfemaa", sum := "a95d69ea88f47672f7a0be6cc17517b2eb9b42f40c30d65520bdcbaecfdf7e2c", func := "loop.example/callbinding/laws.FnExactNeedsAt", spec := "fnExactNeedsAt", unfollowed := true, recurses := true, apart := false }
def FnExactNeedsAtSaid : Prop := fnExactNeedsAtRow.holds Try.pinned (OpenSpec.ofChange fnExactNeedsAtSpec)

/-- ITS FALSE NEIGHBOUR: 'it returns false'. Refute it at one input. -/
def fnExactNeedsAtWrong : ChangeSpec := { name := "fnExactNeedsAt", fn := fun _ => fun
  | [d1, d2] => { results := [.lit (.bool false)], args := [d1, d2] }
  | _ => none }
def FnExactNeedsAtWrongFalsely : Prop := fnExactNeedsAtRow.holds Try.pinned (OpenSpec.ofChange fnExactNeedsAtWrong)

/-- 'laws.FnExactNamedFlat': WHATEVER THE INPUT: true; the input reads as it did. -/
def fnExactNamedFlatSpec : ChangeSpec := { name := "fnExactNamedFlat", fn := fun _ => fun
  | [d1, d2] => { results := [.lit (.bool true)], args := [d1, d2] }
  | _ => none }
def fnExactNamedFlatRow : OpenClaim := { program := "ytodggffbepfemaa", sum := "a95d69ea88f47672f7a0be6cc17517b2eb9b42f40c30d65520bdcbaecfdf7e2c", func := "loop.example/callbinding/laws.FnExactNamedFlat", spec := "fnExactNamedFlat", unfollowed := true, recurses := true, apart := false }
def FnExactNamedFlatSaid : Prop := fnExactNamedFlatRow.holds Try.pinned (OpenSpec.ofChange fnExactNamedFlatSpec)

/-- ITS FALSE NEIGHBOUR: 'it returns false'. Refute it at one input. -/
def fnExactNamedFlatWrong : ChangeSpec := { name := "fnExactNamedFlat", fn := fun _ => fun
  | [d1, d2] => { results := [.lit (.bool false)], args := [d1, d2] }
  | _ => none }
def FnExactNamedFlatWrongFalsely : Prop := fnExactNamedFlatRow.holds Try.pinned (OpenSpec.ofChange fnExactNamedFlatWrong)

/-- 'laws.FnExactLeanFlat': WHATEVER THE INPUT: true; the input reads as it did. -/
def fnExactLeanFlatSpec : ChangeSpec := { name := "fnExactLeanFlat", fn := fun _ => fun
  | [d1, d2] => { results := [.lit (.bool true)], args := [d1, d2] }
  | _ => none }
def fnExactLeanFlatRow : OpenClaim := { program := "ytodggffbepfemaa", sum := "a95d69ea88f47672f7a0be6cc17517b2eb9b42f40c30d65520bdcbaecfdf7e2c", func := "loop.example/callbinding/laws.FnExactLeanFlat", spec := "fnExactLeanFlat", unfollowed := true, recurses := true, apart := false }
def FnExactLeanFlatSaid : Prop := fnExactLeanFlatRow.holds Try.pinned (OpenSpec.ofChange fnExactLeanFlatSpec)

/-- ITS FALSE NEIGHBOUR: 'it returns false'. Refute it at one input. -/
def fnExactLeanFlatWrong : ChangeSpec := { name := "fnExactLeanFlat", fn := fun _ => fun
  | [d1, d2] => { results := [.lit (.bool false)], args := [d1, d2] }
  | _ => none }
def FnExactLeanFlatWrongFalsely : Prop := fnExactLeanFlatRow.holds Try.pinned (OpenSpec.ofChange fnExactLeanFlatWrong)

/- THE SECOND FORM. 'bulk': how many values and letters a reading holds, each counted each time it is reached (what is shared counts as often as it is met; a slice's spare places count too). A statement '..UptoSaid' is the law's where the arguments, and the package variables that the reading takes, are together of bulk at most 1048576: NARROWER than '..Said'. Prove '..Said' where nothing that the law and all that it calls make is longer than what came in: it says more and counts as full. Else prove '..UptoSaid'. A law counts once. -/
mutual
def uptoBulk {H : Type} : DataW H → Nat
  | .lit (.string bytes) => bytes.length + 1
  | .lit _ => 1
  | .nil => 1
  | .ptr d => uptoBulk d + 1
  | .slice elems spare => uptoBulkAll elems + uptoBulkAll spare + 1
  | .agg parts => uptoBulkAll parts + 1
  | .iface _ d => uptoBulk d + 1
  | .map entries => uptoBulkEntries entries + 1
  | .held _ => 1
def uptoBulkAll {H : Type} : List (DataW H) → Nat
  | [] => 0
  | d :: r => uptoBulk d + uptoBulkAll r
def uptoBulkEntries {H : Type} : List (Lit × DataW H) → Nat
  | [] => 0
  | x :: r => uptoBulkEntry x + uptoBulkEntries r
def uptoBulkEntry {H : Type} : Lit × DataW H → Nat
  | (.string bytes, d) => bytes.length + uptoBulk d + 1
  | (_, d) => uptoBulk d + 1
 end
def uptoSmall : (H : Type) → List (DataW H) → Bool := fun _ ds => decide (uptoBulkAll ds ≤ 1048576)
def OpenSpec.upto (s : _root_.Go.ChangeSpec) : _root_.Go.OpenSpec := { _root_.Go.OpenSpec.ofChange s with cond := some uptoSmall }

/-- 'laws.FnPartialSignature', WHERE WHAT IT READS IS OF BULK AT MOST 1048576: true; the input reads as it did. -/
def fnPartialSignatureUptoRow : OpenClaim := { program := "ytodggffbepfemaa", sum := "a95d69ea88f47672f7a0be6cc17517b2eb9b42f40c30d65520bdcbaecfdf7e2c", func := "loop.example/callbinding/laws.FnPartialSignature", spec := "fnPartialSignature", unfollowed := true, recurses := true, apart := false, narrowed := true }
def FnPartialSignatureUptoSaid : Prop := fnPartialSignatureUptoRow.holds Try.pinned (OpenSpec.upto fnPartialSignatureSpec)

/-- 'laws.FnDropName', WHERE WHAT IT READS IS OF BULK AT MOST 1048576: true; the input reads as it did. -/
def fnDropNameUptoRow : OpenClaim := { program := "ytodggffbepfemaa", sum := "a95d69ea88f47672f7a0be6cc17517b2eb9b42f40c30d65520bdcbaecfdf7e2c", func := "loop.example/callbinding/laws.FnDropName", spec := "fnDropName", unfollowed := true, recurses := true, apart := false, narrowed := true }
def FnDropNameUptoSaid : Prop := fnDropNameUptoRow.holds Try.pinned (OpenSpec.upto fnDropNameSpec)

/-- 'laws.FnExactPartialSignature', WHERE WHAT IT READS IS OF BULK AT MOST 1048576: true; the input reads as it did. -/
def fnExactPartialSignatureUptoRow : OpenClaim := { program := "ytodggffbepfemaa", sum := "a95d69ea88f47672f7a0be6cc17517b2eb9b42f40c30d65520bdcbaecfdf7e2c", func := "loop.example/callbinding/laws.FnExactPartialSignature", spec := "fnExactPartialSignature", unfollowed := true, recurses := true, apart := false, narrowed := true }
def FnExactPartialSignatureUptoSaid : Prop := fnExactPartialSignatureUptoRow.holds Try.pinned (OpenSpec.upto fnExactPartialSignatureSpec)

/-- 'laws.FnOverFlatShape', WHERE WHAT IT READS IS OF BULK AT MOST 1048576: true; the input reads as it did. -/
def fnOverFlatShapeUptoRow : OpenClaim := { program := "ytodggffbepfemaa", sum := "a95d69ea88f47672f7a0be6cc17517b2eb9b42f40c30d65520bdcbaecfdf7e2c", func := "loop.example/callbinding/laws.FnOverFlatShape", spec := "fnOverFlatShape", unfollowed := true, recurses := true, apart := false, narrowed := true }
def FnOverFlatShapeUptoSaid : Prop := fnOverFlatShapeUptoRow.holds Try.pinned (OpenSpec.upto fnOverFlatShapeSpec)

/-- 'laws.FnExactShapeOf', WHERE WHAT IT READS IS OF BULK AT MOST 1048576: true; the input reads as it did. -/
def fnExactShapeOfUptoRow : OpenClaim := { program := "ytodggffbepfemaa", sum := "a95d69ea88f47672f7a0be6cc17517b2eb9b42f40c30d65520bdcbaecfdf7e2c", func := "loop.example/callbinding/laws.FnExactShapeOf", spec := "fnExactShapeOf", unfollowed := true, recurses := true, apart := false, narrowed := true }
def FnExactShapeOfUptoSaid : Prop := fnExactShapeOfUptoRow.holds Try.pinned (OpenSpec.upto fnExactShapeOfSpec)

/-- 'laws.FnExactNeedsAt', WHERE WHAT IT READS IS OF BULK AT MOST 1048576: true; the input reads as it did. -/
def fnExactNeedsAtUptoRow : OpenClaim := { program := "ytodggffbepfemaa", sum := "a95d69ea88f47672f7a0be6cc17517b2eb9b42f40c30d65520bdcbaecfdf7e2c", func := "loop.example/callbinding/laws.FnExactNeedsAt", spec := "fnExactNeedsAt", unfollowed := true, recurses := true, apart := false, narrowed := true }
def FnExactNeedsAtUptoSaid : Prop := fnExactNeedsAtUptoRow.holds Try.pinned (OpenSpec.upto fnExactNeedsAtSpec)

/-- 'laws.FnExactNamedFlat', WHERE WHAT IT READS IS OF BULK AT MOST 1048576: true; the input reads as it did. -/
def fnExactNamedFlatUptoRow : OpenClaim := { program := "ytodggffbepfemaa", sum := "a95d69ea88f47672f7a0be6cc17517b2eb9b42f40c30d65520bdcbaecfdf7e2c", func := "loop.example/callbinding/laws.FnExactNamedFlat", spec := "fnExactNamedFlat", unfollowed := true, recurses := true, apart := false, narrowed := true }
def FnExactNamedFlatUptoSaid : Prop := fnExactNamedFlatUptoRow.holds Try.pinned (OpenSpec.upto fnExactNamedFlatSpec)

/-- 'laws.FnExactLeanFlat', WHERE WHAT IT READS IS OF BULK AT MOST 1048576: true; the input reads as it did. -/
def fnExactLeanFlatUptoRow : OpenClaim := { program := "ytodggffbepfemaa", sum := "a95d69ea88f47672f7a0be6cc17517b2eb9b42f40c30d65520bdcbaecfdf7e2c", func := "loop.example/callbinding/laws.FnExactLeanFlat", spec := "fnExactLeanFlat", unfollowed := true, recurses := true, apart := false, narrowed := true }
def FnExactLeanFlatUptoSaid : Prop := fnExactLeanFlatUptoRow.holds Try.pinned (OpenSpec.upto fnExactLeanFlatSpec)

end Rows
end Go.Proofs.Ytodggffbepfemaa
