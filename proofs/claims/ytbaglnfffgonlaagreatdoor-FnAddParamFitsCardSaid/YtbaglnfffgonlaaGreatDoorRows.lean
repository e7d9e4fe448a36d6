/-
  NARROWER THAN 'FOR EVERY INPUT', by the rows' own cells (each row's printed sentence says how): FnDropParamFits: laid · FnAddParamFits: laid · FnPlacesOnly: laid · FnNamedOnly: laid · FnClearDefault: laid · FnSetDefault: laid · FnTopFits: laid.
  DERIVED. THE GIVEN ROWS OF THIS SEAT. 7 by the template 'for every input the law returns true; each argument reads behind the call as it read before'; 0 by the template 'total and deterministic' (their statements: YtbaglnfffgonlaaGreatDoorTotals.lean).
  GIVEN WITH THE SEED: the statements are not yours to turn. If you find one false, say at which input.
  Laid BY PROGRAM, IN A SANDBOX (cutbox-rows.mjs): the forced cells as the released guide's own fill.sh prints them over the translation 392ee77eb870c94d… (all of the seat's roots in one cut). By AI agents, Wed Nov 11 2026. No macro, syntax, notation, axiom, sorry.
-/
import Derived.Test.YtbaglnfffgonlaaGreatDoorChecked
import GoSem.PinnedTables
import GoSem.Claim
import GoSem.ClaimJoined
import GoSem.ClaimMapViews
import Derived.JoinedTies
import Derived.KernelRfl
namespace Go.Proofs.YtbaglnfffgonlaaGreatDoor
/- THE CELL 'sum', in the pinned program and in every row, IS THE sha256 OF THE DUMP (.gsa) THAT YtbaglnfffgonlaaGreatDoorProg.lean LOADS. Nothing in Lean hashes anything: it is a label: what it is worth is what the hold of that sum in a sandbox is worth. -/
noncomputable def Tryz.pinned : Pinned := { name := "ytbaglnfffgonlaagreatdoor", sum := "392ee77eb870c94db05d4e927189a4e6f3b8f8d544cfe09bd37d23311cc6a045", checked := Tryz.checked }
namespace Rows
def none {H : Type} : Left H := { results := [], args := [] }

/- WHAT THE LISTED PACKAGE-LEVEL VARIABLES READ AS WHEN THE CALL BEGINS. Each datum BY PROGRAM (the guide's laid-datum.mjs) off the statement by which the dump's own 'gosem.cut.vars' lays the variable. In a bare row this is a premise. The card (YtbaglnfffgonlaaGreatDoorCards.lean) ties it to the program's text. -/
def laid_unicode_utf8_acceptRanges {H : Type} : DataW H := .agg [.agg [.lit (.int .u8 128), .lit (.int .u8 191)], .agg [.lit (.int .u8 160), .lit (.int .u8 191)], .agg [.lit (.int .u8 128), .lit (.int .u8 159)], .agg [.lit (.int .u8 144), .lit (.int .u8 191)], .agg [.lit (.int .u8 128), .lit (.int .u8 143)], .agg [.lit (.int .u8 0), .lit (.int .u8 0)], .agg [.lit (.int .u8 0), .lit (.int .u8 0)], .agg [.lit (.int .u8 0), .lit (.int .u8 0)], .agg [.lit (.int .u8 0), .lit (.int .u8 0)], .agg [.lit (.int .u8 0), .lit (.int .u8 0)], .agg [.lit (.int .u8 0), .lit (.int .u8 0)], .agg [.lit (.int .u8 0), .lit (.int .u8 0)], .agg [.lit (.int .u8 0), .lit (.int .u8 0)], .agg [.lit (.int .u8 0), .lit (.int .u8 0)], .agg [.lit (.int .u8 0), .lit (.int .u8 0)], .agg [.lit (.int .u8 0), .lit (.int .u8 0)]]
/-- One of Go's own tables, pinned by name: the form's constant. -/
def laid_unicode_utf8_first : DataW Unit := Go.Pinned.utf8First

/-- 'laws.FnDropParamFits': WHATEVER THE INPUT: true; the input reads as it did. -/
def fnDropParamFitsSpec : ChangeSpec := { name := "fnDropParamFits", fn := fun _ => fun
  | [d] => { results := [.lit (.bool true)], args := [d] }
  | _ => none }
def fnDropParamFitsRow : OpenClaim := { program := "ytbaglnfffgonlaagreatdoor", sum := "392ee77eb870c94db05d4e927189a4e6f3b8f8d544cfe09bd37d23311cc6a045", func := "loop.example/callbinding/laws.FnDropParamFits", spec := "fnDropParamFits", inPlace := ["internal/bytealg.IndexByteString", "internal/bytealg.IndexString"], unfollowed := true, recurses := true, named := ["unicode/utf8.first", "unicode/utf8.acceptRanges", "internal/bytealg.MaxLen"], apart := false, laid := [("unicode/utf8.acceptRanges", laid_unicode_utf8_acceptRanges), ("unicode/utf8.first", laid_unicode_utf8_first)] }
def FnDropParamFitsSaid : Prop := fnDropParamFitsRow.holds Tryz.pinned (OpenSpec.ofChange fnDropParamFitsSpec)

/-- ITS FALSE NEIGHBOUR: 'it returns false'. Refute it at one input. -/
def fnDropParamFitsWrong : ChangeSpec := { name := "fnDropParamFits", fn := fun _ => fun
  | [d] => { results := [.lit (.bool false)], args := [d] }
  | _ => none }
def FnDropParamFitsWrongFalsely : Prop := fnDropParamFitsRow.holds Tryz.pinned (OpenSpec.ofChange fnDropParamFitsWrong)

/-- 'laws.FnAddParamFits': WHATEVER THE INPUT: true; the input reads as it did. -/
def fnAddParamFitsSpec : ChangeSpec := { name := "fnAddParamFits", fn := fun _ => fun
  | [d] => { results := [.lit (.bool true)], args := [d] }
  | _ => none }
def fnAddParamFitsRow : OpenClaim := { program := "ytbaglnfffgonlaagreatdoor", sum := "392ee77eb870c94db05d4e927189a4e6f3b8f8d544cfe09bd37d23311cc6a045", func := "loop.example/callbinding/laws.FnAddParamFits", spec := "fnAddParamFits", inPlace := ["internal/bytealg.IndexByteString", "internal/bytealg.IndexString"], unfollowed := true, recurses := true, named := ["unicode/utf8.first", "unicode/utf8.acceptRanges", "internal/bytealg.MaxLen"], apart := false, laid := [("unicode/utf8.acceptRanges", laid_unicode_utf8_acceptRanges), ("unicode/utf8.first", laid_unicode_utf8_first)] }
def FnAddParamFitsSaid : Prop := fnAddParamFitsRow.holds Tryz.pinned (OpenSpec.ofChange fnAddParamFitsSpec)

/-- ITS FALSE NEIGHBOUR: 'it returns false'. Refute it at one input. -/
def fnAddParamFitsWrong : ChangeSpec := { name := "fnAddParamFits", fn := fun _ => fun
  | [d] => { results := [.lit (.bool false)], args := [d] }
  | _ => none }
def FnAddParamFitsWrongFalsely : Prop := fnAddParamFitsRow.holds Tryz.pinned (OpenSpec.ofChange fnAddParamFitsWrong)

/-- 'laws.FnPlacesOnly': WHATEVER THE INPUT: true; the input reads as it did. -/
def fnPlacesOnlySpec : ChangeSpec := { name := "fnPlacesOnly", fn := fun _ => fun
  | [d] => { results := [.lit (.bool true)], args := [d] }
  | _ => none }
def fnPlacesOnlyRow : OpenClaim := { program := "ytbaglnfffgonlaagreatdoor", sum := "392ee77eb870c94db05d4e927189a4e6f3b8f8d544cfe09bd37d23311cc6a045", func := "loop.example/callbinding/laws.FnPlacesOnly", spec := "fnPlacesOnly", inPlace := ["internal/bytealg.IndexByteString", "internal/bytealg.IndexString"], unfollowed := true, recurses := true, named := ["unicode/utf8.first", "unicode/utf8.acceptRanges", "internal/bytealg.MaxLen"], apart := false, laid := [("unicode/utf8.acceptRanges", laid_unicode_utf8_acceptRanges), ("unicode/utf8.first", laid_unicode_utf8_first)] }
def FnPlacesOnlySaid : Prop := fnPlacesOnlyRow.holds Tryz.pinned (OpenSpec.ofChange fnPlacesOnlySpec)

/-- ITS FALSE NEIGHBOUR: 'it returns false'. Refute it at one input. -/
def fnPlacesOnlyWrong : ChangeSpec := { name := "fnPlacesOnly", fn := fun _ => fun
  | [d] => { results := [.lit (.bool false)], args := [d] }
  | _ => none }
def FnPlacesOnlyWrongFalsely : Prop := fnPlacesOnlyRow.holds Tryz.pinned (OpenSpec.ofChange fnPlacesOnlyWrong)

/-- 'laws.FnNamedOnly': WHATEVER THE INPUT: true; the input reads as it did. -/
def fnNamedOnlySpec : ChangeSpec := { name := "fnNamedOnly", fn := fun _ => fun
  | [d] => { results := [.lit (.bool true)], args := [d] }
  | _ => none }
def fnNamedOnlyRow : OpenClaim := { program := "ytbaglnfffgonlaagreatdoor", sum := "392ee77eb870c94db05d4e927189a4e6f3b8f8d544cfe09bd37d23311cc6a045", func := "loop.example/callbinding/laws.FnNamedOnly", spec := "fnNamedOnly", inPlace := ["internal/bytealg.IndexByteString", "internal/bytealg.IndexString"], unfollowed := true, recurses := true, named := ["unicode/utf8.first", "unicode/utf8.acceptRanges", "internal/bytealg.MaxLen"], apart := false, laid := [("unicode/utf8.acceptRanges", laid_unicode_utf8_acceptRanges), ("unicode/utf8.first", laid_unicode_utf8_first)] }
def FnNamedOnlySaid : Prop := fnNamedOnlyRow.holds Tryz.pinned (OpenSpec.ofChange fnNamedOnlySpec)

/-- ITS FALSE NEIGHBOUR: 'it returns false'. Refute it at one input. -/
def fnNamedOnlyWrong : ChangeSpec := { name := "fnNamedOnly", fn := fun _ => fun
  | [d] => { results := [.lit (.bool false)], args := [d] }
  | _ => none }
def FnNamedOnlyWrongFalsely : Prop := fnNamedOnlyRow.holds Tryz.pinned (OpenSpec.ofChange fnNamedOnlyWrong)

/-- 'laws.FnClearDefault': WHATEVER THE INPUT: true; the input reads as it did. -/
def fnClearDefaultSpec : ChangeSpec := { name := "fnClearDefault", fn := fun _ => fun
  | [d] => { results := [.lit (.bool true)], args := [d] }
  | _ => none }
def fnClearDefaultRow : OpenClaim := { program := "ytbaglnfffgonlaagreatdoor", sum := "392ee77eb870c94db05d4e927189a4e6f3b8f8d544cfe09bd37d23311cc6a045", func := "loop.example/callbinding/laws.FnClearDefault", spec := "fnClearDefault", inPlace := ["internal/bytealg.IndexByteString", "internal/bytealg.IndexString"], unfollowed := true, recurses := true, named := ["unicode/utf8.first", "unicode/utf8.acceptRanges", "internal/bytealg.MaxLen"], apart := false, laid := [("unicode/utf8.acceptRanges", laid_unicode_utf8_acceptRanges), ("unicode/utf8.first", laid_unicode_utf8_first)] }
def FnClearDefaultSaid : Prop := fnClearDefaultRow.holds Tryz.pinned (OpenSpec.ofChange fnClearDefaultSpec)

/-- ITS FALSE NEIGHBOUR: 'it returns false'. Refute it at one input. -/
def fnClearDefaultWrong : ChangeSpec := { name := "fnClearDefault", fn := fun _ => fun
  | [d] => { results := [.lit (.bool false)], args := [d] }
  | _ => none }
def FnClearDefaultWrongFalsely : Prop := fnClearDefaultRow.holds Tryz.pinned (OpenSpec.ofChange fnClearDefaultWrong)

/-- 'laws.FnSetDefault': WHATEVER THE INPUT: true; the input reads as it did. -/
def fnSetDefaultSpec : ChangeSpec := { name := "fnSetDefault", fn := fun _ => fun
  | [d] => { results := [.lit (.bool true)], args := [d] }
  | _ => none }
def fnSetDefaultRow : OpenClaim := { program := "ytbaglnfffgonlaagreatdoor", sum := "392ee77eb870c94db05d4e927189a4e6f3b8f8d544cfe09bd37d23311cc6a045", func := "loop.example/callbinding/laws.FnSetDefault", spec := "fnSetDefault", inPlace := ["internal/bytealg.IndexByteString", "internal/bytealg.IndexString"], unfollowed := true, recurses := true, named := ["unicode/utf8.first", "unicode/utf8.acceptRanges", "internal/bytealg.MaxLen"], apart := false, laid := [("unicode/utf8.acceptRanges", laid_unicode_utf8_acceptRanges), ("unicode/utf8.first", laid_unicode_utf8_first)] }
def FnSetDefaultSaid : Prop := fnSetDefaultRow.holds Tryz.pinned (OpenSpec.ofChange fnSetDefaultSpec)

/-- ITS FALSE NEIGHBOUR: 'it returns false'. Refute it at one input. -/
def fnSetDefaultWrong : ChangeSpec := { name := "fnSetDefault", fn := fun _ => fun
  | [d] => { results := [.lit (.bool false)], args := [d] }
  | _ => none }
def FnSetDefaultWrongFalsely : Prop := fnSetDefaultRow.holds Tryz.pinned (OpenSpec.ofChange fnSetDefaultWrong)

/-- 'laws.FnTopFits': WHATEVER THE INPUT: true; the input reads as it did. -/
def fnTopFitsSpec : ChangeSpec := { name := "fnTopFits", fn := fun _ => fun
  | [d1, d2] => { results := [.lit (.bool true)], args := [d1, d2] }
  | _ => none }
def fnTopFitsRow : OpenClaim := { program := "ytbaglnfffgonlaagreatdoor", sum := "392ee77eb870c94db05d4e927189a4e6f3b8f8d544cfe09bd37d23311cc6a045", func := "loop.example/callbinding/laws.FnTopFits", spec := "fnTopFits", inPlace := ["internal/bytealg.IndexByteString", "internal/bytealg.IndexString"], unfollowed := true, recurses := true, named := ["unicode/utf8.first", "unicode/utf8.acceptRanges", "internal/bytealg.MaxLen"], apart := false, laid := [("unicode/utf8.acceptRanges", laid_unicode_utf8_acceptRanges), ("unicode/utf8.first", laid_unicode_utf8_first)] }
def FnTopFitsSaid : Prop := fnTopFitsRow.holds Tryz.pinned (OpenSpec.ofChange fnTopFitsSpec)

/-- ITS FALSE NEIGHBOUR: 'it returns false'. Refute it at one input. -/
def fnTopFitsWrong : ChangeSpec := { name := "fnTopFits", fn := fun _ => fun
  | [d1, d2] => { results := [.lit (.bool false)], args := [d1, d2] }
  | _ => none }
def FnTopFitsWrongFalsely : Prop := fnTopFitsRow.holds Tryz.pinned (OpenSpec.ofChange fnTopFitsWrong)

/- THE SECOND FORM. 'bulk': how many values and letters a reading holds, each counted each time it is reached (what is shared counts as often as it is met; a slice's spare places count too). A statement '..UptoSaid' is the law's where the arguments, and the package variables that the reading takes, are together of bulk at most 1048576: NARROWER than '..Said'. Prove '..Said' where nothing that the law and all that it calls make is longer than what came in: it says more and counts as full. Else prove '..UptoSaid'. A law counts once. -/
mutual
def uptoBulk {H : Type} : DataW H → Nat
  | .lit (.string bytes) => bytes.length + 1
  | .lit _ => 1
  | .nil => 1
  | .ptr d => uptoBulk d + 1
  | .slice elems spare => uptoBulkAll elems + uptoBulkAll spare + 1
  | .agg parts => uptoBulkAll parts + 1
  | .iface _ d => uptoBulk d + 1
  | .map entries => uptoBulkEntries entries + 1
  | .held _ => 1
def uptoBulkAll {H : Type} : List (DataW H) → Nat
  | [] => 0
  | d :: r => uptoBulk d + uptoBulkAll r
def uptoBulkEntries {H : Type} : List (Lit × DataW H) → Nat
  | [] => 0
  | x :: r => uptoBulkEntry x + uptoBulkEntries r
def uptoBulkEntry {H : Type} : Lit × DataW H → Nat
  | (.string bytes, d) => bytes.length + uptoBulk d + 1
  | (_, d) => uptoBulk d + 1
 end
def uptoSmall : (H : Type) → List (DataW H) → Bool := fun _ ds => decide (uptoBulkAll ds ≤ 1048576)
def OpenSpec.upto (s : _root_.Go.ChangeSpec) : _root_.Go.OpenSpec := { _root_.Go.OpenSpec.ofChange s with cond := some uptoSmall }

/-- 'laws.FnDropParamFits', WHERE WHAT IT READS IS OF BULK AT MOST 1048576: true; the input reads as it did. -/
def fnDropParamFitsUptoRow : OpenClaim := { program := "ytbaglnfffgonlaagreatdoor", sum := "392ee77eb870c94db05d4e927189a4e6f3b8f8d544cfe09bd37d23311cc6a045", func := "loop.example/callbinding/laws.FnDropParamFits", spec := "fnDropParamFits", inPlace := ["internal/bytealg.IndexByteString", "internal/bytealg.IndexString"], unfollowed := true, recurses := true, named := ["unicode/utf8.first", "unicode/utf8.acceptRanges", "internal/bytealg.MaxLen"], apart := false, laid := [("unicode/utf8.acceptRanges", laid_unicode_utf8_acceptRanges), ("unicode/utf8.first", laid_unicode_utf8_first)], narrowed := true }
def FnDropParamFitsUptoSaid : Prop := fnDropParamFitsUptoRow.holds Tryz.pinned (OpenSpec.upto fnDropParamFitsSpec)

/-- 'laws.FnAddParamFits', WHERE WHAT IT READS IS OF BULK AT MOST 1048576: true; the input reads as it did. -/
def fnAddParamFitsUptoRow : OpenClaim := { program := "ytbaglnfffgonlaagreatdoor", sum := "392ee77eb870c94db05d4e927189a4e6f3b8f8d544cfe09bd37d23311cc6a045", func := "loop.example/callbinding/laws.FnAddParamFits", spec := "fnAddParamFits", inPlace := ["internal/bytealg.IndexByteString", "internal/bytealg.IndexString"], unfollowed := true, recurses := true, named := ["unicode/utf8.first", "unicode/utf8.acceptRanges", "internal/bytealg.MaxLen"], apart := false, laid := [("unicode/utf8.acceptRanges", laid_unicode_utf8_acceptRanges), ("unicode/utf8.first", laid_unicode_utf8_first)], narrowed := true }
def FnAddParamFitsUptoSaid : Prop := fnAddParamFitsUptoRow.holds Tryz.pinned (OpenSpec.upto fnAddParamFitsSpec)

/-- 'laws.FnPlacesOnly', WHERE WHAT IT READS IS OF BULK AT MOST 1048576: true; the input reads as it did. -/
def fnPlacesOnlyUptoRow : OpenClaim := { program := "ytbaglnfffgonlaagreatdoor", sum := "392ee77eb870c94db05d4e927189a4e6f3b8f8d544cfe09bd37d23311cc6a045", func := "loop.example/callbinding/laws.FnPlacesOnly", spec := "fnPlacesOnly", inPlace := ["internal/bytealg.IndexByteString", "internal/bytealg.IndexString"], unfollowed := true, recurses := true, named := ["unicode/utf8.first", "unicode/utf8.acceptRanges", "internal/bytealg.MaxLen"], apart := false, laid := [("unicode/utf8.acceptRanges", laid_unicode_utf8_acceptRanges), ("unicode/utf8.first", laid_unicode_utf8_first)], narrowed := true }
def FnPlacesOnlyUptoSaid : Prop := fnPlacesOnlyUptoRow.holds Tryz.pinned (OpenSpec.upto fnPlacesOnlySpec)

/-- 'laws.FnNamedOnly', WHERE WHAT IT READS IS OF BULK AT MOST 1048576: true; the input reads as it did. -/
def fnNamedOnlyUptoRow : OpenClaim := { program := "ytbaglnfffgonlaagreatdoor", sum := "392ee77eb870c94db05d4e927189a4e6f3b8f8d544cfe09bd37d23311cc6a045", func := "loop.example/callbinding/laws.FnNamedOnly", spec := "fnNamedOnly", inPlace := ["internal/bytealg.IndexByteString", "internal/bytealg.IndexString"], unfollowed := true, recurses := true, named := ["unicode/utf8.first", "unicode/utf8.acceptRanges", "internal/bytealg.MaxLen"], apart := false, laid := [("unicode/utf8.acceptRanges", laid_unicode_utf8_acceptRanges), ("unicode/utf8.first", laid_unicode_utf8_first)], narrowed := true }
def FnNamedOnlyUptoSaid : Prop := fnNamedOnlyUptoRow.holds Tryz.pinned (OpenSpec.upto fnNamedOnlySpec)

/-- 'laws.FnClearDefault', WHERE WHAT IT READS IS OF BULK AT MOST 1048576: true; the input reads as it did. -/
def fnClearDefaultUptoRow : OpenClaim := { program := "ytbaglnfffgonlaagreatdoor", sum := "392ee77eb870c94db05d4e927189a4e6f3b8f8d544cfe09bd37d23311cc6a045", func := "loop.example/callbinding/laws.FnClearDefault", spec := "fnClearDefault", inPlace := ["internal/bytealg.IndexByteString", "internal/bytealg.IndexString"], unfollowed := true, recurses := true, named := ["unicode/utf8.first", "unicode/utf8.acceptRanges", "internal/bytealg.MaxLen"], apart := false, laid := [("unicode/utf8.acceptRanges", laid_unicode_utf8_acceptRanges), ("unicode/utf8.first", laid_unicode_utf8_first)], narrowed := true }
def FnClearDefaultUptoSaid : Prop := fnClearDefaultUptoRow.holds Tryz.pinned (OpenSpec.upto fnClearDefaultSpec)

/-- 'laws.FnSetDefault', WHERE WHAT IT READS IS OF BULK AT MOST 1048576: true; the input reads as it did. -/
def fnSetDefaultUptoRow : OpenClaim := { program := "ytbaglnfffgonlaagreatdoor", sum := "392ee77eb870c94db05d4e927189a4e6f3b8f8d544cfe09bd37d23311cc6a045", func := "loop.example/callbinding/laws.FnSetDefault", spec := "fnSetDefault", inPlace := ["internal/bytealg.IndexByteString", "internal/bytealg.IndexString"], unfollowed := true, recurses := true, named := ["unicode/utf8.first", "unicode/utf8.acceptRanges", "internal/bytealg.MaxLen"], apart := false, laid := [("unicode/utf8.acceptRanges", laid_unicode_utf8_acceptRanges), ("unicode/utf8.first", laid_unicode_utf8_first)], narrowed := true }
def FnSetDefaultUptoSaid : Prop := fnSetDefaultUptoRow.holds Tryz.pinned (OpenSpec.upto fnSetDefaultSpec)

/-- 'laws.FnTopFits', WHERE WHAT IT READS IS OF BULK AT MOST 1048576: true; the input reads as it did. -/
def fnTopFitsUptoRow : OpenClaim := { program := "ytbaglnfffgonlaagreatdoor", sum := "392ee77eb870c94db05d4e927189a4e6f3b8f8d544cfe09bd37d23311cc6a045", func := "loop.example/callbinding/laws.FnTopFits", spec := "fnTopFits", inPlace := ["internal/bytealg.IndexByteString", "internal/bytealg.IndexString"], unfollowed := true, recurses := true, named := ["unicode/utf8.first", "unicode/utf8.acceptRanges", "internal/bytealg.MaxLen"], apart := false, laid := [("unicode/utf8.acceptRanges", laid_unicode_utf8_acceptRanges), ("unicode/utf8.first", laid_unicode_utf8_first)], narrowed := true }
def FnTopFitsUptoSaid : Prop := fnTopFitsUptoRow.holds Tryz.pinned (OpenSpec.upto fnTopFitsSpec)

end Rows
end Go.Proofs.YtbaglnfffgonlaaGreatDoor
