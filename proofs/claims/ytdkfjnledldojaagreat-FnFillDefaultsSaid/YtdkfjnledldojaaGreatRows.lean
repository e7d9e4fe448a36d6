/-
  No cell of these rows narrows 'for every input' (looked for: loops, veiled, ifaces, maps, wideKeys, modest, calm, conditions, laid).
  DERIVED. THE GIVEN ROWS OF THIS SEAT. 4 by the template 'for every input the law returns true; each argument reads behind the call as it read before'; 0 by the template 'total and deterministic' (their statements: YtdkfjnledldojaaGreatTotals.lean).
  GIVEN WITH THE SEED: the statements are not yours to turn. If you find one false, say at which input.
  Laid BY PROGRAM, IN A SANDBOX (cutbox-rows.mjs): the forced cells as the released guide's own fill.sh prints them over the translation 4160361b90815bf3… (all of the seat's roots in one cut). By AI agents, Wed Nov 11 2026. No macro, syntax, notation, axiom, sorry.
-/
import Derived.Test.YtdkfjnledldojaaGreatChecked
import GoSem.Claim
import GoSem.ClaimJoined
import GoSem.ClaimMapViews
import Derived.JoinedTies
import Derived.KernelRfl
namespace Go.Proofs.YtdkfjnledldojaaGreat
/- THE CELL 'sum', in the pinned program and in every row, IS THE sha256 OF THE DUMP (.gsa) THAT YtdkfjnledldojaaGreatProg.lean LOADS. Nothing in Lean hashes anything: it is a label: what it is worth is what the hold of that sum in a sandbox is worth. -/
noncomputable def Tryz.pinned : Pinned := { name := "ytdkfjnledldojaagreat", sum := "4160361b90815bf3aff876ba6fa76678b0990517ccd8e392fe5c09816251f2ab", checked := Tryz.checked }
namespace Rows
def none {H : Type} : Left H := { results := [], args := [] }

/-- 'laws.FnNamedFlat': WHATEVER THE INPUT: true; the input reads as it did. -/
def fnNamedFlatSpec : ChangeSpec := { name := "fnNamedFlat", fn := fun _ => fun
  | [d] => { results := [.lit (.bool true)], args := [d] }
  | _ => none }
def fnNamedFlatRow : OpenClaim := { program := "ytdkfjnledldojaagreat", sum := "4160361b90815bf3aff876ba6fa76678b0990517ccd8e392fe5c09816251f2ab", func := "loop.example/callbinding/laws.FnNamedFlat", spec := "fnNamedFlat", unfollowed := true, recurses := true, apart := false }
def FnNamedFlatSaid : Prop := fnNamedFlatRow.holds Tryz.pinned (OpenSpec.ofChange fnNamedFlatSpec)

/-- ITS FALSE NEIGHBOUR: 'it returns false'. Refute it at one input. -/
def fnNamedFlatWrong : ChangeSpec := { name := "fnNamedFlat", fn := fun _ => fun
  | [d] => { results := [.lit (.bool false)], args := [d] }
  | _ => none }
def FnNamedFlatWrongFalsely : Prop := fnNamedFlatRow.holds Tryz.pinned (OpenSpec.ofChange fnNamedFlatWrong)

/-- 'laws.FnUnbind': WHATEVER THE INPUT: true; the input reads as it did. -/
def fnUnbindSpec : ChangeSpec := { name := "fnUnbind", fn := fun _ => fun
  | [d] => { results := [.lit (.bool true)], args := [d] }
  | _ => none }
def fnUnbindRow : OpenClaim := { program := "ytdkfjnledldojaagreat", sum := "4160361b90815bf3aff876ba6fa76678b0990517ccd8e392fe5c09816251f2ab", func := "loop.example/callbinding/laws.FnUnbind", spec := "fnUnbind", unfollowed := true, recurses := true, apart := false }
def FnUnbindSaid : Prop := fnUnbindRow.holds Tryz.pinned (OpenSpec.ofChange fnUnbindSpec)

/-- ITS FALSE NEIGHBOUR: 'it returns false'. Refute it at one input. -/
def fnUnbindWrong : ChangeSpec := { name := "fnUnbind", fn := fun _ => fun
  | [d] => { results := [.lit (.bool false)], args := [d] }
  | _ => none }
def FnUnbindWrongFalsely : Prop := fnUnbindRow.holds Tryz.pinned (OpenSpec.ofChange fnUnbindWrong)

/-- 'laws.FnFillDefaults': WHATEVER THE INPUT: true; the input reads as it did. -/
def fnFillDefaultsSpec : ChangeSpec := { name := "fnFillDefaults", fn := fun _ => fun
  | [d] => { results := [.lit (.bool true)], args := [d] }
  | _ => none }
def fnFillDefaultsRow : OpenClaim := { program := "ytdkfjnledldojaagreat", sum := "4160361b90815bf3aff876ba6fa76678b0990517ccd8e392fe5c09816251f2ab", func := "loop.example/callbinding/laws.FnFillDefaults", spec := "fnFillDefaults", unfollowed := true, recurses := true, apart := false }
def FnFillDefaultsSaid : Prop := fnFillDefaultsRow.holds Tryz.pinned (OpenSpec.ofChange fnFillDefaultsSpec)

/-- ITS FALSE NEIGHBOUR: 'it returns false'. Refute it at one input. -/
def fnFillDefaultsWrong : ChangeSpec := { name := "fnFillDefaults", fn := fun _ => fun
  | [d] => { results := [.lit (.bool false)], args := [d] }
  | _ => none }
def FnFillDefaultsWrongFalsely : Prop := fnFillDefaultsRow.holds Tryz.pinned (OpenSpec.ofChange fnFillDefaultsWrong)

/-- 'laws.FnValueOf': WHATEVER THE INPUT: true; the input reads as it did. -/
def fnValueOfSpec : ChangeSpec := { name := "fnValueOf", fn := fun _ => fun
  | [d] => { results := [.lit (.bool true)], args := [d] }
  | _ => none }
def fnValueOfRow : OpenClaim := { program := "ytdkfjnledldojaagreat", sum := "4160361b90815bf3aff876ba6fa76678b0990517ccd8e392fe5c09816251f2ab", func := "loop.example/callbinding/laws.FnValueOf", spec := "fnValueOf", unfollowed := true, recurses := true, apart := false }
def FnValueOfSaid : Prop := fnValueOfRow.holds Tryz.pinned (OpenSpec.ofChange fnValueOfSpec)

/-- ITS FALSE NEIGHBOUR: 'it returns false'. Refute it at one input. -/
def fnValueOfWrong : ChangeSpec := { name := "fnValueOf", fn := fun _ => fun
  | [d] => { results := [.lit (.bool false)], args := [d] }
  | _ => none }
def FnValueOfWrongFalsely : Prop := fnValueOfRow.holds Tryz.pinned (OpenSpec.ofChange fnValueOfWrong)

/- THE SECOND FORM. 'bulk': how many values and letters a reading holds, each counted each time it is reached (what is shared counts as often as it is met; a slice's spare places count too). A statement '..UptoSaid' is the law's where the arguments, and the package variables that the reading takes, are together of bulk at most 1048576: NARROWER than '..Said'. Prove '..Said' where nothing that the law and all that it calls make is longer than what came in: it says more and counts as full. Else prove '..UptoSaid'. A law counts once. -/
mutual
def uptoBulk {H : Type} : DataW H → Nat
  | .lit (.string bytes) => bytes.length + 1
  | .lit _ => 1
  | .nil => 1
  | .ptr d => uptoBulk d + 1
  | .slice elems spare => uptoBulkAll elems + uptoBulkAll spare + 1
  | .agg parts => uptoBulkAll parts + 1
  | .iface _ d => uptoBulk d + 1
  | .map entries => uptoBulkEntries entries + 1
  | .held _ => 1
def uptoBulkAll {H : Type} : List (DataW H) → Nat
  | [] => 0
  | d :: r => uptoBulk d + uptoBulkAll r
def uptoBulkEntries {H : Type} : List (Lit × DataW H) → Nat
  | [] => 0
  | x :: r => uptoBulkEntry x + uptoBulkEntries r
def uptoBulkEntry {H : Type} : Lit × DataW H → Nat
  | (.string bytes, d) => bytes.length + uptoBulk d + 1
  | (_, d) => uptoBulk d + 1
 end
def uptoSmall : (H : Type) → List (DataW H) → Bool := fun _ ds => decide (uptoBulkAll ds ≤ 1048576)
def OpenSpec.upto (s : _root_.Go.ChangeSpec) : _root_.Go.OpenSpec := { _root_.Go.OpenSpec.ofChange s with cond := some uptoSmall }

/-- 'laws.FnNamedFlat', WHERE WHAT IT READS IS OF BULK AT MOST 1048576: true; the input reads as it did. -/
def fnNamedFlatUptoRow : OpenClaim := { program := "ytdkfjnledldojaagreat", sum := "4160361b90815bf3aff876ba6fa76678b0990517ccd8e392fe5c09816251f2ab", func := "loop.example/callbinding/laws.FnNamedFlat", spec := "fnNamedFlat", unfollowed := true, recurses := true, apart := false, narrowed := true }
def FnNamedFlatUptoSaid : Prop := fnNamedFlatUptoRow.holds Tryz.pinned (OpenSpec.upto fnNamedFlatSpec)

/-- 'laws.FnUnbind', WHERE WHAT IT READS IS OF BULK AT MOST 1048576: true; the input reads as it did. -/
def fnUnbindUptoRow : OpenClaim := { program := "ytdkfjnledldojaagreat", sum := "4160361b90815bf3aff876ba6fa76678b0990517ccd8e392fe5c09816251f2ab", func := "loop.example/callbinding/laws.FnUnbind", spec := "fnUnbind", unfollowed := true, recurses := true, apart := false, narrowed := true }
def FnUnbindUptoSaid : Prop := fnUnbindUptoRow.holds Tryz.pinned (OpenSpec.upto fnUnbindSpec)

/-- 'laws.FnFillDefaults', WHERE WHAT IT READS IS OF BULK AT MOST 1048576: true; the input reads as it did. -/
def fnFillDefaultsUptoRow : OpenClaim := { program := "ytdkfjnledldojaagreat", sum := "4160361b90815bf3aff876ba6fa76678b0990517ccd8e392fe5c09816251f2ab", func := "loop.example/callbinding/laws.FnFillDefaults", spec := "fnFillDefaults", unfollowed := true, recurses := true, apart := false, narrowed := true }
def FnFillDefaultsUptoSaid : Prop := fnFillDefaultsUptoRow.holds Tryz.pinned (OpenSpec.upto fnFillDefaultsSpec)

/-- 'laws.FnValueOf', WHERE WHAT IT READS IS OF BULK AT MOST 1048576: true; the input reads as it did. -/
def fnValueOfUptoRow : OpenClaim := { program := "ytdkfjnledldojaagreat", sum := "4160361b90815bf3aff876ba6fa76678b0990517ccd8e392fe5c09816251f2ab", func := "loop.example/callbinding/laws.FnValueOf", spec := "fnValueOf", unfollowed := true, recurses := true, apart := false, narrowed := true }
def FnValueOfUptoSaid : Prop := fnValueOfUptoRow.holds Tryz.pinned (OpenSpec.upto fnValueOfSpec)

end Rows
end Go.Proofs.YtdkfjnledldojaaGreat
