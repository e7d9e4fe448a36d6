/-
  No cell of these rows narrows 'for every input' (looked for: loops, veiled, ifaces, maps, wideKeys, modest, calm, conditions, laid).
  DERIVED. THE GIVEN ROWS OF THIS SEAT. 3 by the template 'for every input the law returns true; each argument reads behind the call as it read before'; 0 by the template 'total and deterministic' (their statements: YtkjbjgndinjdpaaTotals.lean).
  GIVEN WITH THE SEED: the statements are not yours to turn. If you find one false, say at which input.
  Laid BY PROGRAM, IN A SANDBOX (cutbox-rows.mjs): the forced cells as the released guide's own fill.sh prints them over the translation 707bf5fe92b1250e… (all of the seat's roots in one cut). By AI agents, Wed Nov 11 2026. No macro, syntax, notation, axiom, sorry.
-/
import Derived.Test.YtkjbjgndinjdpaaChecked
import GoSem.Claim
import GoSem.ClaimJoined
import GoSem.ClaimMapViews
import Derived.JoinedTies
import Derived.KernelRfl
namespace Go.Proofs.Ytkjbjgndinjdpaa
/- THE CELL 'sum', in the pinned program and in every row, IS THE sha256 OF THE DUMP (.gsa) THAT YtkjbjgndinjdpaaProg.lean LOADS. Nothing in Lean hashes anything: it is a label: what it is worth is what the hold of that sum in a sandbox is worth. -/
noncomputable def Try.pinned : Pinned := { name := "ytkjbjgndinjdpaa", sum := "707bf5fe92b1250eb5317abf2cb4d6c8c128758aca7a348aafdd446ef4f0d34d", checked := Try.checked }
namespace Rows
def none {H : Type} : Left H := { results := [], args := [] }

/-- 'laws.FnPartialSignature': WHATEVER THE INPUT: true; the input reads as it did. -/
def fnPartialSignatureSpec : ChangeSpec := { name := "fnPartialSignature", fn := fun _ => fun
  | [d] => { results := [.lit (.bool true)], args := [d] }
  | _ => none }
def fnPartialSignatureRow : OpenClaim := { program := "ytkjbjgndinjdpaa", sum := "707bf5fe92b1250eb5317abf2cb4d6c8c128758aca7a348aafdd446ef4f0d34d", func := "loop.example/callbinding/laws.FnPartialSignature", spec := "fnPartialSignature", unfollowed := true, recurses := true, apart := false }
def FnPartialSignatureSaid : Prop := fnPartialSignatureRow.holds Try.pinned (OpenSpec.ofChange fnPartialSignatureSpec)

/-- ITS FALSE NEIGHBOUR: 'it returns false'. Refute it at one input. -/
def fnPartialSignatureWrong : ChangeSpec := { name := "fnPartialSignature", fn := fun _ => fun
  | [d] => { results := [.lit (.bool false)], args := [d] }
  | _ => none }
def FnPartialSignatureWrongFalsely : Prop := fnPartialSignatureRow.holds Try.pinned (OpenSpec.ofChange fnPartialSignatureWrong)

/-- 'laws.FnDropName': WHATEVER THE INPUT: true; the input reads as it did. -/
def fnDropNameSpec : ChangeSpec := { name := "fnDropName", fn := fun _ => fun
  | [d] => { results := [.lit (.bool true)], args := [d] }
  | _ => none }
def fnDropNameRow : OpenClaim := { program := "ytkjbjgndinjdpaa", sum := "707bf5fe92b1250eb5317abf2cb4d6c8c128758aca7a348aafdd446ef4f0d34d", func := "loop.example/callbinding/laws.FnDropName", spec := "fnDropName", unfollowed := true, recurses := true, apart := false }
def FnDropNameSaid : Prop := fnDropNameRow.holds Try.pinned (OpenSpec.ofChange fnDropNameSpec)

/-- ITS FALSE NEIGHBOUR: 'it returns false'. Refute it at one input. -/
def fnDropNameWrong : ChangeSpec := { name := "fnDropName", fn := fun _ => fun
  | [d] => { results := [.lit (.bool false)], args := [d] }
  | _ => none }
def FnDropNameWrongFalsely : Prop := fnDropNameRow.holds Try.pinned (OpenSpec.ofChange fnDropNameWrong)

/-- 'laws.FnExactSortFlat': WHATEVER THE INPUT: true; the input reads as it did. -/
def fnExactSortFlatSpec : ChangeSpec := { name := "fnExactSortFlat", fn := fun _ => fun
  | [d] => { results := [.lit (.bool true)], args := [d] }
  | _ => none }
def fnExactSortFlatRow : OpenClaim := { program := "ytkjbjgndinjdpaa", sum := "707bf5fe92b1250eb5317abf2cb4d6c8c128758aca7a348aafdd446ef4f0d34d", func := "loop.example/callbinding/laws.FnExactSortFlat", spec := "fnExactSortFlat", unfollowed := true, recurses := true, apart := false }
def FnExactSortFlatSaid : Prop := fnExactSortFlatRow.holds Try.pinned (OpenSpec.ofChange fnExactSortFlatSpec)

/-- ITS FALSE NEIGHBOUR: 'it returns false'. Refute it at one input. -/
def fnExactSortFlatWrong : ChangeSpec := { name := "fnExactSortFlat", fn := fun _ => fun
  | [d] => { results := [.lit (.bool false)], args := [d] }
  | _ => none }
def FnExactSortFlatWrongFalsely : Prop := fnExactSortFlatRow.holds Try.pinned (OpenSpec.ofChange fnExactSortFlatWrong)

/- THE SECOND FORM. 'bulk': how many values and letters a reading holds, each counted each time it is reached (what is shared counts as often as it is met; a slice's spare places count too). A statement '..UptoSaid' is the law's where the arguments, and the package variables that the reading takes, are together of bulk at most 1048576: NARROWER than '..Said'. Prove '..Said' where nothing that the law and all that it calls make is longer than what came in: it says more and counts as full. Else prove '..UptoSaid'. A law counts once. -/
mutual
def uptoBulk {H : Type} : DataW H → Nat
  | .lit (.string bytes) => bytes.length + 1
  | .lit _ => 1
  | .nil => 1
  | .ptr d => uptoBulk d + 1
  | .slice elems spare => uptoBulkAll elems + uptoBulkAll spare + 1
  | .agg parts => uptoBulkAll parts + 1
  | .iface _ d => uptoBulk d + 1
  | .map entries => uptoBulkEntries entries + 1
  | .held _ => 1
def uptoBulkAll {H : Type} : List (DataW H) → Nat
  | [] => 0
  | d :: r => uptoBulk d + uptoBulkAll r
def uptoBulkEntries {H : Type} : List (Lit × DataW H) → Nat
  | [] => 0
  | x :: r => uptoBulkEntry x + uptoBulkEntries r
def uptoBulkEntry {H : Type} : Lit × DataW H → Nat
  | (.string bytes, d) => bytes.length + uptoBulk d + 1
  | (_, d) => uptoBulk d + 1
 end
def uptoSmall : (H : Type) → List (DataW H) → Bool := fun _ ds => decide (uptoBulkAll ds ≤ 1048576)
def OpenSpec.upto (s : _root_.Go.ChangeSpec) : _root_.Go.OpenSpec := { _root_.Go.OpenSpec.ofChange s with cond := some uptoSmall }

/-- 'laws.FnPartialSignature', WHERE WHAT IT READS IS OF BULK AT MOST 1048576: true; the input reads as it did. -/
def fnPartialSignatureUptoRow : OpenClaim := { program := "ytkjbjgndinjdpaa", sum := "707bf5fe92b1250eb5317abf2cb4d6c8c128758aca7a348aafdd446ef4f0d34d", func := "loop.example/callbinding/laws.FnPartialSignature", spec := "fnPartialSignature", unfollowed := true, recurses := true, apart := false, narrowed := true }
def FnPartialSignatureUptoSaid : Prop := fnPartialSignatureUptoRow.holds Try.pinned (OpenSpec.upto fnPartialSignatureSpec)

/-- 'laws.FnDropName', WHERE WHAT IT READS IS OF BULK AT MOST 1048576: true; the input reads as it did. -/
def fnDropNameUptoRow : OpenClaim := { program := "ytkjbjgndinjdpaa", sum := "707bf5fe92b1250eb5317abf2cb4d6c8c128758aca7a348aafdd446ef4f0d34d", func := "loop.example/callbinding/laws.FnDropName", spec := "fnDropName", unfollowed := true, recurses := true, apart := false, narrowed := true }
def FnDropNameUptoSaid : Prop := fnDropNameUptoRow.holds Try.pinned (OpenSpec.upto fnDropNameSpec)

/-- 'laws.FnExactSortFlat', WHERE WHAT IT READS IS OF BULK AT MOST 1048576: true; the input reads as it did. -/
def fnExactSortFlatUptoRow : OpenClaim := { program := "ytkjbjgndinjdpaa", sum := "707bf5fe92b1250eb5317abf2cb4d6c8c128758aca7a348aafdd446ef4f0d34d", func := "loop.example/callbinding/laws.FnExactSortFlat", spec := "fnExactSortFlat", unfollowed := true, recurses := true, apart := false, narrowed := true }
def FnExactSortFlatUptoSaid : Prop := fnExactSortFlatUptoRow.holds Try.pinned (OpenSpec.upto fnExactSortFlatSpec)

end Rows
end Go.Proofs.Ytkjbjgndinjdpaa
