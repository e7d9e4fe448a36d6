/-
  No cell of these rows narrows 'for every input' (looked for: loops, veiled, ifaces, maps, wideKeys, modest, calm, conditions, laid).
  DERIVED. THE GIVEN ROWS OF THIS SEAT. 7 by the template 'for every input the law returns true; each argument reads behind the call as it read before'; 0 by the template 'total and deterministic' (their statements: YtekdhmddibfidaaTotals.lean).
  GIVEN WITH THE SEED: the statements are not yours to turn. If you find one false, say at which input.
  Laid BY PROGRAM, IN A SANDBOX (cutbox-rows.mjs): the forced cells as the released guide's own fill.sh prints them over the translation 404336e26497329f… (all of the seat's roots in one cut). By AI agents, Wed Nov 11 2026. No macro, syntax, notation, axiom, sorry.
-/
import Derived.Test.YtekdhmddibfidaaChecked
import GoSem.Claim
import GoSem.ClaimJoined
import GoSem.ClaimMapViews
import Derived.JoinedTies
import Derived.KernelRfl
namespace Go.Proofs.Ytekdhmddibfidaa
/- THE CELL 'sum', in the pinned program and in every row, IS THE sha256 OF THE DUMP (.gsa) THAT YtekdhmddibfidaaProg.lean LOADS. Nothing in Lean hashes anything: it is a label: what it is worth is what the hold of that sum in a sandbox is worth. -/
noncomputable def Try.pinned : Pinned := { name := "ytekdhmddibfidaa", sum := "404336e26497329faebb43e35e9afb186efaaa569c9b0d5cb1e85f5573fb9b10", checked := Try.checked }
namespace Rows
def none {H : Type} : Left H := { results := [], args := [] }

/-- 'laws.FnPartialSignature': WHATEVER THE INPUT: true; the input reads as it did. -/
def fnPartialSignatureSpec : ChangeSpec := { name := "fnPartialSignature", fn := fun _ => fun
  | [d] => { results := [.lit (.bool true)], args := [d] }
  | _ => none }
def fnPartialSignatureRow : OpenClaim := { program := "ytekdhmddibfidaa", sum := "404336e26497329faebb43e35e9afb186efaaa569c9b0d5cb1e85f5573fb9b10", func := "loop.example/callbinding/laws.FnPartialSignature", spec := "fnPartialSignature", unfollowed := true, recurses := true, apart := false }
def FnPartialSignatureSaid : Prop := fnPartialSignatureRow.holds Try.pinned (OpenSpec.ofChange fnPartialSignatureSpec)

/-- ITS FALSE NEIGHBOUR: 'it returns false'. Refute it at one input. -/
def fnPartialSignatureWrong : ChangeSpec := { name := "fnPartialSignature", fn := fun _ => fun
  | [d] => { results := [.lit (.bool false)], args := [d] }
  | _ => none }
def FnPartialSignatureWrongFalsely : Prop := fnPartialSignatureRow.holds Try.pinned (OpenSpec.ofChange fnPartialSignatureWrong)

/-- 'laws.FnExactLeastShape': WHATEVER THE INPUT: true; the input reads as it did. -/
def fnExactLeastShapeSpec : ChangeSpec := { name := "fnExactLeastShape", fn := fun _ => fun
  | [d] => { results := [.lit (.bool true)], args := [d] }
  | _ => none }
def fnExactLeastShapeRow : OpenClaim := { program := "ytekdhmddibfidaa", sum := "404336e26497329faebb43e35e9afb186efaaa569c9b0d5cb1e85f5573fb9b10", func := "loop.example/callbinding/laws.FnExactLeastShape", spec := "fnExactLeastShape", unfollowed := true, recurses := true, apart := false }
def FnExactLeastShapeSaid : Prop := fnExactLeastShapeRow.holds Try.pinned (OpenSpec.ofChange fnExactLeastShapeSpec)

/-- ITS FALSE NEIGHBOUR: 'it returns false'. Refute it at one input. -/
def fnExactLeastShapeWrong : ChangeSpec := { name := "fnExactLeastShape", fn := fun _ => fun
  | [d] => { results := [.lit (.bool false)], args := [d] }
  | _ => none }
def FnExactLeastShapeWrongFalsely : Prop := fnExactLeastShapeRow.holds Try.pinned (OpenSpec.ofChange fnExactLeastShapeWrong)

/-- 'laws.FnTakesCount': WHATEVER THE INPUT: true; the input reads as it did. -/
def fnTakesCountSpec : ChangeSpec := { name := "fnTakesCount", fn := fun _ => fun
  | [d] => { results := [.lit (.bool true)], args := [d] }
  | _ => none }
def fnTakesCountRow : OpenClaim := { program := "ytekdhmddibfidaa", sum := "404336e26497329faebb43e35e9afb186efaaa569c9b0d5cb1e85f5573fb9b10", func := "loop.example/callbinding/laws.FnTakesCount", spec := "fnTakesCount", unfollowed := true, recurses := true, apart := false }
def FnTakesCountSaid : Prop := fnTakesCountRow.holds Try.pinned (OpenSpec.ofChange fnTakesCountSpec)

/-- ITS FALSE NEIGHBOUR: 'it returns false'. Refute it at one input. -/
def fnTakesCountWrong : ChangeSpec := { name := "fnTakesCount", fn := fun _ => fun
  | [d] => { results := [.lit (.bool false)], args := [d] }
  | _ => none }
def FnTakesCountWrongFalsely : Prop := fnTakesCountRow.holds Try.pinned (OpenSpec.ofChange fnTakesCountWrong)

/-- 'laws.FnExactAllowsAt': WHATEVER THE INPUT: true; the input reads as it did. -/
def fnExactAllowsAtSpec : ChangeSpec := { name := "fnExactAllowsAt", fn := fun _ => fun
  | [d1, d2, d3] => { results := [.lit (.bool true)], args := [d1, d2, d3] }
  | _ => none }
def fnExactAllowsAtRow : OpenClaim := { program := "ytekdhmddibfidaa", sum := "404336e26497329faebb43e35e9afb186efaaa569c9b0d5cb1e85f5573fb9b10", func := "loop.example/callbinding/laws.FnExactAllowsAt", spec := "fnExactAllowsAt", unfollowed := true, recurses := true, apart := false }
def FnExactAllowsAtSaid : Prop := fnExactAllowsAtRow.holds Try.pinned (OpenSpec.ofChange fnExactAllowsAtSpec)

/-- ITS FALSE NEIGHBOUR: 'it returns false'. Refute it at one input. -/
def fnExactAllowsAtWrong : ChangeSpec := { name := "fnExactAllowsAt", fn := fun _ => fun
  | [d1, d2, d3] => { results := [.lit (.bool false)], args := [d1, d2, d3] }
  | _ => none }
def FnExactAllowsAtWrongFalsely : Prop := fnExactAllowsAtRow.holds Try.pinned (OpenSpec.ofChange fnExactAllowsAtWrong)

/-- 'laws.FnNeedsAtProblems': WHATEVER THE INPUT: true; the input reads as it did. -/
def fnNeedsAtProblemsSpec : ChangeSpec := { name := "fnNeedsAtProblems", fn := fun _ => fun
  | [d] => { results := [.lit (.bool true)], args := [d] }
  | _ => none }
def fnNeedsAtProblemsRow : OpenClaim := { program := "ytekdhmddibfidaa", sum := "404336e26497329faebb43e35e9afb186efaaa569c9b0d5cb1e85f5573fb9b10", func := "loop.example/callbinding/laws.FnNeedsAtProblems", spec := "fnNeedsAtProblems", unfollowed := true, recurses := true, apart := false }
def FnNeedsAtProblemsSaid : Prop := fnNeedsAtProblemsRow.holds Try.pinned (OpenSpec.ofChange fnNeedsAtProblemsSpec)

/-- ITS FALSE NEIGHBOUR: 'it returns false'. Refute it at one input. -/
def fnNeedsAtProblemsWrong : ChangeSpec := { name := "fnNeedsAtProblems", fn := fun _ => fun
  | [d] => { results := [.lit (.bool false)], args := [d] }
  | _ => none }
def FnNeedsAtProblemsWrongFalsely : Prop := fnNeedsAtProblemsRow.holds Try.pinned (OpenSpec.ofChange fnNeedsAtProblemsWrong)

/-- 'laws.FnNeedsAt': WHATEVER THE INPUT: true; the input reads as it did. -/
def fnNeedsAtSpec : ChangeSpec := { name := "fnNeedsAt", fn := fun _ => fun
  | [d] => { results := [.lit (.bool true)], args := [d] }
  | _ => none }
def fnNeedsAtRow : OpenClaim := { program := "ytekdhmddibfidaa", sum := "404336e26497329faebb43e35e9afb186efaaa569c9b0d5cb1e85f5573fb9b10", func := "loop.example/callbinding/laws.FnNeedsAt", spec := "fnNeedsAt", unfollowed := true, recurses := true, apart := false }
def FnNeedsAtSaid : Prop := fnNeedsAtRow.holds Try.pinned (OpenSpec.ofChange fnNeedsAtSpec)

/-- ITS FALSE NEIGHBOUR: 'it returns false'. Refute it at one input. -/
def fnNeedsAtWrong : ChangeSpec := { name := "fnNeedsAt", fn := fun _ => fun
  | [d] => { results := [.lit (.bool false)], args := [d] }
  | _ => none }
def FnNeedsAtWrongFalsely : Prop := fnNeedsAtRow.holds Try.pinned (OpenSpec.ofChange fnNeedsAtWrong)

/-- 'laws.FnLeastShape': WHATEVER THE INPUT: true; the input reads as it did. -/
def fnLeastShapeSpec : ChangeSpec := { name := "fnLeastShape", fn := fun _ => fun
  | [d] => { results := [.lit (.bool true)], args := [d] }
  | _ => none }
def fnLeastShapeRow : OpenClaim := { program := "ytekdhmddibfidaa", sum := "404336e26497329faebb43e35e9afb186efaaa569c9b0d5cb1e85f5573fb9b10", func := "loop.example/callbinding/laws.FnLeastShape", spec := "fnLeastShape", unfollowed := true, recurses := true, apart := false }
def FnLeastShapeSaid : Prop := fnLeastShapeRow.holds Try.pinned (OpenSpec.ofChange fnLeastShapeSpec)

/-- ITS FALSE NEIGHBOUR: 'it returns false'. Refute it at one input. -/
def fnLeastShapeWrong : ChangeSpec := { name := "fnLeastShape", fn := fun _ => fun
  | [d] => { results := [.lit (.bool false)], args := [d] }
  | _ => none }
def FnLeastShapeWrongFalsely : Prop := fnLeastShapeRow.holds Try.pinned (OpenSpec.ofChange fnLeastShapeWrong)

/- THE SECOND FORM. 'bulk': how many values and letters a reading holds, each counted each time it is reached (what is shared counts as often as it is met; a slice's spare places count too). A statement '..UptoSaid' is the law's where the arguments, and the package variables that the reading takes, are together of bulk at most 1048576: NARROWER than '..Said'. Prove '..Said' where nothing that the law and all that it calls make is longer than what came in: it says more and counts as full. Else prove '..UptoSaid'. A law counts once. -/
mutual
def uptoBulk {H : Type} : DataW H → Nat
  | .lit (.string bytes) => bytes.length + 1
  | .lit _ => 1
  | .nil => 1
  | .ptr d => uptoBulk d + 1
  | .slice elems spare => uptoBulkAll elems + uptoBulkAll spare + 1
  | .agg parts => uptoBulkAll parts + 1
  | .iface _ d => uptoBulk d + 1
  | .map entries => uptoBulkEntries entries + 1
  | .held _ => 1
def uptoBulkAll {H : Type} : List (DataW H) → Nat
  | [] => 0
  | d :: r => uptoBulk d + uptoBulkAll r
def uptoBulkEntries {H : Type} : List (Lit × DataW H) → Nat
  | [] => 0
  | x :: r => uptoBulkEntry x + uptoBulkEntries r
def uptoBulkEntry {H : Type} : Lit × DataW H → Nat
  | (.string bytes, d) => bytes.length + uptoBulk d + 1
  | (_, d) => uptoBulk d + 1
 end
def uptoSmall : (H : Type) → List (DataW H) → Bool := fun _ ds => decide (uptoBulkAll ds ≤ 1048576)
def OpenSpec.upto (s : _root_.Go.ChangeSpec) : _root_.Go.OpenSpec := { _root_.Go.OpenSpec.ofChange s with cond := some uptoSmall }

/-- 'laws.FnPartialSignature', WHERE WHAT IT READS IS OF BULK AT MOST 1048576: true; the input reads as it did. -/
def fnPartialSignatureUptoRow : OpenClaim := { program := "ytekdhmddibfidaa", sum := "404336e26497329faebb43e35e9afb186efaaa569c9b0d5cb1e85f5573fb9b10", func := "loop.example/callbinding/laws.FnPartialSignature", spec := "fnPartialSignature", unfollowed := true, recurses := true, apart := false, narrowed := true }
def FnPartialSignatureUptoSaid : Prop := fnPartialSignatureUptoRow.holds Try.pinned (OpenSpec.upto fnPartialSignatureSpec)

/-- 'laws.FnExactLeastShape', WHERE WHAT IT READS IS OF BULK AT MOST 1048576: true; the input reads as it did. -/
def fnExactLeastShapeUptoRow : OpenClaim := { program := "ytekdhmddibfidaa", sum := "404336e26497329faebb43e35e9afb186efaaa569c9b0d5cb1e85f5573fb9b10", func := "loop.example/callbinding/laws.FnExactLeastShape", spec := "fnExactLeastShape", unfollowed := true, recurses := true, apart := false, narrowed := true }
def FnExactLeastShapeUptoSaid : Prop := fnExactLeastShapeUptoRow.holds Try.pinned (OpenSpec.upto fnExactLeastShapeSpec)

/-- 'laws.FnTakesCount', WHERE WHAT IT READS IS OF BULK AT MOST 1048576: true; the input reads as it did. -/
def fnTakesCountUptoRow : OpenClaim := { program := "ytekdhmddibfidaa", sum := "404336e26497329faebb43e35e9afb186efaaa569c9b0d5cb1e85f5573fb9b10", func := "loop.example/callbinding/laws.FnTakesCount", spec := "fnTakesCount", unfollowed := true, recurses := true, apart := false, narrowed := true }
def FnTakesCountUptoSaid : Prop := fnTakesCountUptoRow.holds Try.pinned (OpenSpec.upto fnTakesCountSpec)

/-- 'laws.FnExactAllowsAt', WHERE WHAT IT READS IS OF BULK AT MOST 1048576: true; the input reads as it did. -/
def fnExactAllowsAtUptoRow : OpenClaim := { program := "ytekdhmddibfidaa", sum := "404336e26497329faebb43e35e9afb186efaaa569c9b0d5cb1e85f5573fb9b10", func := "loop.example/callbinding/laws.FnExactAllowsAt", spec := "fnExactAllowsAt", unfollowed := true, recurses := true, apart := false, narrowed := true }
def FnExactAllowsAtUptoSaid : Prop := fnExactAllowsAtUptoRow.holds Try.pinned (OpenSpec.upto fnExactAllowsAtSpec)

/-- 'laws.FnNeedsAtProblems', WHERE WHAT IT READS IS OF BULK AT MOST 1048576: true; the input reads as it did. -/
def fnNeedsAtProblemsUptoRow : OpenClaim := { program := "ytekdhmddibfidaa", sum := "404336e26497329faebb43e35e9afb186efaaa569c9b0d5cb1e85f5573fb9b10", func := "loop.example/callbinding/laws.FnNeedsAtProblems", spec := "fnNeedsAtProblems", unfollowed := true, recurses := true, apart := false, narrowed := true }
def FnNeedsAtProblemsUptoSaid : Prop := fnNeedsAtProblemsUptoRow.holds Try.pinned (OpenSpec.upto fnNeedsAtProblemsSpec)

/-- 'laws.FnNeedsAt', WHERE WHAT IT READS IS OF BULK AT MOST 1048576: true; the input reads as it did. -/
def fnNeedsAtUptoRow : OpenClaim := { program := "ytekdhmddibfidaa", sum := "404336e26497329faebb43e35e9afb186efaaa569c9b0d5cb1e85f5573fb9b10", func := "loop.example/callbinding/laws.FnNeedsAt", spec := "fnNeedsAt", unfollowed := true, recurses := true, apart := false, narrowed := true }
def FnNeedsAtUptoSaid : Prop := fnNeedsAtUptoRow.holds Try.pinned (OpenSpec.upto fnNeedsAtSpec)

/-- 'laws.FnLeastShape', WHERE WHAT IT READS IS OF BULK AT MOST 1048576: true; the input reads as it did. -/
def fnLeastShapeUptoRow : OpenClaim := { program := "ytekdhmddibfidaa", sum := "404336e26497329faebb43e35e9afb186efaaa569c9b0d5cb1e85f5573fb9b10", func := "loop.example/callbinding/laws.FnLeastShape", spec := "fnLeastShape", unfollowed := true, recurses := true, apart := false, narrowed := true }
def FnLeastShapeUptoSaid : Prop := fnLeastShapeUptoRow.holds Try.pinned (OpenSpec.upto fnLeastShapeSpec)

end Rows
end Go.Proofs.Ytekdhmddibfidaa
