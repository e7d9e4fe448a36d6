/-
  No cell of these rows narrows 'for every input' (looked for: loops, veiled, ifaces, maps, wideKeys, modest, calm, conditions, laid).
  DERIVED. THE GIVEN ROWS OF THIS SEAT. 5 by the template 'for every input the law returns true; each argument reads behind the call as it read before'; 0 by the template 'total and deterministic' (their statements: YtekdhmddibfidaaGreatTotals.lean).
  GIVEN WITH THE SEED: the statements are not yours to turn. If you find one false, say at which input.
  Laid BY PROGRAM, IN A SANDBOX (cutbox-rows.mjs): the forced cells as the released guide's own fill.sh prints them over the translation 82752497e6b3234f… (all of the seat's roots in one cut). By AI agents, Wed Nov 11 2026. No macro, syntax, notation, axiom, sorry.
-/
import Derived.Test.YtekdhmddibfidaaGreatChecked
import GoSem.Claim
import GoSem.ClaimJoined
import GoSem.ClaimMapViews
import Derived.JoinedTies
import Derived.KernelRfl
namespace Go.Proofs.YtekdhmddibfidaaGreat
/- THE CELL 'sum', in the pinned program and in every row, IS THE sha256 OF THE DUMP (.gsa) THAT YtekdhmddibfidaaGreatProg.lean LOADS. Nothing in Lean hashes anything: it is a label: what it is worth is what the hold of that sum in a sandbox is worth. -/
noncomputable def Tryz.pinned : Pinned := { name := "ytekdhmddibfidaagreat", sum := "82752497e6b3234fb0ba97e330a319adb013dafe53d4e79a02184dd4750126d0", checked := Tryz.checked }
namespace Rows
def none {H : Type} : Left H := { results := [], args := [] }

/-- 'laws.FnExtendPartial': WHATEVER THE INPUT: true; the input reads as it did. -/
def fnExtendPartialSpec : ChangeSpec := { name := "fnExtendPartial", fn := fun _ => fun
  | [d] => { results := [.lit (.bool true)], args := [d] }
  | _ => none }
def fnExtendPartialRow : OpenClaim := { program := "ytekdhmddibfidaagreat", sum := "82752497e6b3234fb0ba97e330a319adb013dafe53d4e79a02184dd4750126d0", func := "loop.example/callbinding/laws.FnExtendPartial", spec := "fnExtendPartial", unfollowed := true, recurses := true, apart := false }
def FnExtendPartialSaid : Prop := fnExtendPartialRow.holds Tryz.pinned (OpenSpec.ofChange fnExtendPartialSpec)

/-- ITS FALSE NEIGHBOUR: 'it returns false'. Refute it at one input. -/
def fnExtendPartialWrong : ChangeSpec := { name := "fnExtendPartial", fn := fun _ => fun
  | [d] => { results := [.lit (.bool false)], args := [d] }
  | _ => none }
def FnExtendPartialWrongFalsely : Prop := fnExtendPartialRow.holds Tryz.pinned (OpenSpec.ofChange fnExtendPartialWrong)

/-- 'laws.FnExactExtendPartial': WHATEVER THE INPUT: true; the input reads as it did. -/
def fnExactExtendPartialSpec : ChangeSpec := { name := "fnExactExtendPartial", fn := fun _ => fun
  | [d1, d2] => { results := [.lit (.bool true)], args := [d1, d2] }
  | _ => none }
def fnExactExtendPartialRow : OpenClaim := { program := "ytekdhmddibfidaagreat", sum := "82752497e6b3234fb0ba97e330a319adb013dafe53d4e79a02184dd4750126d0", func := "loop.example/callbinding/laws.FnExactExtendPartial", spec := "fnExactExtendPartial", unfollowed := true, recurses := true, apart := false }
def FnExactExtendPartialSaid : Prop := fnExactExtendPartialRow.holds Tryz.pinned (OpenSpec.ofChange fnExactExtendPartialSpec)

/-- ITS FALSE NEIGHBOUR: 'it returns false'. Refute it at one input. -/
def fnExactExtendPartialWrong : ChangeSpec := { name := "fnExactExtendPartial", fn := fun _ => fun
  | [d1, d2] => { results := [.lit (.bool false)], args := [d1, d2] }
  | _ => none }
def FnExactExtendPartialWrongFalsely : Prop := fnExactExtendPartialRow.holds Tryz.pinned (OpenSpec.ofChange fnExactExtendPartialWrong)

/-- 'laws.FnTopBind': WHATEVER THE INPUT: true; the input reads as it did. -/
def fnTopBindSpec : ChangeSpec := { name := "fnTopBind", fn := fun _ => fun
  | [d1, d2] => { results := [.lit (.bool true)], args := [d1, d2] }
  | _ => none }
def fnTopBindRow : OpenClaim := { program := "ytekdhmddibfidaagreat", sum := "82752497e6b3234fb0ba97e330a319adb013dafe53d4e79a02184dd4750126d0", func := "loop.example/callbinding/laws.FnTopBind", spec := "fnTopBind", unfollowed := true, recurses := true, apart := false }
def FnTopBindSaid : Prop := fnTopBindRow.holds Tryz.pinned (OpenSpec.ofChange fnTopBindSpec)

/-- ITS FALSE NEIGHBOUR: 'it returns false'. Refute it at one input. -/
def fnTopBindWrong : ChangeSpec := { name := "fnTopBind", fn := fun _ => fun
  | [d1, d2] => { results := [.lit (.bool false)], args := [d1, d2] }
  | _ => none }
def FnTopBindWrongFalsely : Prop := fnTopBindRow.holds Tryz.pinned (OpenSpec.ofChange fnTopBindWrong)

/-- 'laws.FnAllowsAt': WHATEVER THE INPUT: true; the input reads as it did. -/
def fnAllowsAtSpec : ChangeSpec := { name := "fnAllowsAt", fn := fun _ => fun
  | [d] => { results := [.lit (.bool true)], args := [d] }
  | _ => none }
def fnAllowsAtRow : OpenClaim := { program := "ytekdhmddibfidaagreat", sum := "82752497e6b3234fb0ba97e330a319adb013dafe53d4e79a02184dd4750126d0", func := "loop.example/callbinding/laws.FnAllowsAt", spec := "fnAllowsAt", unfollowed := true, recurses := true, apart := false }
def FnAllowsAtSaid : Prop := fnAllowsAtRow.holds Tryz.pinned (OpenSpec.ofChange fnAllowsAtSpec)

/-- ITS FALSE NEIGHBOUR: 'it returns false'. Refute it at one input. -/
def fnAllowsAtWrong : ChangeSpec := { name := "fnAllowsAt", fn := fun _ => fun
  | [d] => { results := [.lit (.bool false)], args := [d] }
  | _ => none }
def FnAllowsAtWrongFalsely : Prop := fnAllowsAtRow.holds Tryz.pinned (OpenSpec.ofChange fnAllowsAtWrong)

/-- 'laws.FnAccepts': WHATEVER THE INPUT: true; the input reads as it did. -/
def fnAcceptsSpec : ChangeSpec := { name := "fnAccepts", fn := fun _ => fun
  | [d] => { results := [.lit (.bool true)], args := [d] }
  | _ => none }
def fnAcceptsRow : OpenClaim := { program := "ytekdhmddibfidaagreat", sum := "82752497e6b3234fb0ba97e330a319adb013dafe53d4e79a02184dd4750126d0", func := "loop.example/callbinding/laws.FnAccepts", spec := "fnAccepts", unfollowed := true, recurses := true, apart := false }
def FnAcceptsSaid : Prop := fnAcceptsRow.holds Tryz.pinned (OpenSpec.ofChange fnAcceptsSpec)

/-- ITS FALSE NEIGHBOUR: 'it returns false'. Refute it at one input. -/
def fnAcceptsWrong : ChangeSpec := { name := "fnAccepts", fn := fun _ => fun
  | [d] => { results := [.lit (.bool false)], args := [d] }
  | _ => none }
def FnAcceptsWrongFalsely : Prop := fnAcceptsRow.holds Tryz.pinned (OpenSpec.ofChange fnAcceptsWrong)

/- THE SECOND FORM. 'bulk': how many values and letters a reading holds, each counted each time it is reached (what is shared counts as often as it is met; a slice's spare places count too). A statement '..UptoSaid' is the law's where the arguments, and the package variables that the reading takes, are together of bulk at most 1048576: NARROWER than '..Said'. Prove '..Said' where nothing that the law and all that it calls make is longer than what came in: it says more and counts as full. Else prove '..UptoSaid'. A law counts once. -/
mutual
def uptoBulk {H : Type} : DataW H → Nat
  | .lit (.string bytes) => bytes.length + 1
  | .lit _ => 1
  | .nil => 1
  | .ptr d => uptoBulk d + 1
  | .slice elems spare => uptoBulkAll elems + uptoBulkAll spare + 1
  | .agg parts => uptoBulkAll parts + 1
  | .iface _ d => uptoBulk d + 1
  | .map entries => uptoBulkEntries entries + 1
  | .held _ => 1
def uptoBulkAll {H : Type} : List (DataW H) → Nat
  | [] => 0
  | d :: r => uptoBulk d + uptoBulkAll r
def uptoBulkEntries {H : Type} : List (Lit × DataW H) → Nat
  | [] => 0
  | x :: r => uptoBulkEntry x + uptoBulkEntries r
def uptoBulkEntry {H : Type} : Lit × DataW H → Nat
  | (.string bytes, d) => bytes.length + uptoBulk d + 1
  | (_, d) => uptoBulk d + 1
 end
def uptoSmall : (H : Type) → List (DataW H) → Bool := fun _ ds => decide (uptoBulkAll ds ≤ 1048576)
def OpenSpec.upto (s : _root_.Go.ChangeSpec) : _root_.Go.OpenSpec := { _root_.Go.OpenSpec.ofChange s with cond := some uptoSmall }

/-- 'laws.FnExtendPartial', WHERE WHAT IT READS IS OF BULK AT MOST 1048576: true; the input reads as it did. -/
def fnExtendPartialUptoRow : OpenClaim := { program := "ytekdhmddibfidaagreat", sum := "82752497e6b3234fb0ba97e330a319adb013dafe53d4e79a02184dd4750126d0", func := "loop.example/callbinding/laws.FnExtendPartial", spec := "fnExtendPartial", unfollowed := true, recurses := true, apart := false, narrowed := true }
def FnExtendPartialUptoSaid : Prop := fnExtendPartialUptoRow.holds Tryz.pinned (OpenSpec.upto fnExtendPartialSpec)

/-- 'laws.FnExactExtendPartial', WHERE WHAT IT READS IS OF BULK AT MOST 1048576: true; the input reads as it did. -/
def fnExactExtendPartialUptoRow : OpenClaim := { program := "ytekdhmddibfidaagreat", sum := "82752497e6b3234fb0ba97e330a319adb013dafe53d4e79a02184dd4750126d0", func := "loop.example/callbinding/laws.FnExactExtendPartial", spec := "fnExactExtendPartial", unfollowed := true, recurses := true, apart := false, narrowed := true }
def FnExactExtendPartialUptoSaid : Prop := fnExactExtendPartialUptoRow.holds Tryz.pinned (OpenSpec.upto fnExactExtendPartialSpec)

/-- 'laws.FnTopBind', WHERE WHAT IT READS IS OF BULK AT MOST 1048576: true; the input reads as it did. -/
def fnTopBindUptoRow : OpenClaim := { program := "ytekdhmddibfidaagreat", sum := "82752497e6b3234fb0ba97e330a319adb013dafe53d4e79a02184dd4750126d0", func := "loop.example/callbinding/laws.FnTopBind", spec := "fnTopBind", unfollowed := true, recurses := true, apart := false, narrowed := true }
def FnTopBindUptoSaid : Prop := fnTopBindUptoRow.holds Tryz.pinned (OpenSpec.upto fnTopBindSpec)

/-- 'laws.FnAllowsAt', WHERE WHAT IT READS IS OF BULK AT MOST 1048576: true; the input reads as it did. -/
def fnAllowsAtUptoRow : OpenClaim := { program := "ytekdhmddibfidaagreat", sum := "82752497e6b3234fb0ba97e330a319adb013dafe53d4e79a02184dd4750126d0", func := "loop.example/callbinding/laws.FnAllowsAt", spec := "fnAllowsAt", unfollowed := true, recurses := true, apart := false, narrowed := true }
def FnAllowsAtUptoSaid : Prop := fnAllowsAtUptoRow.holds Tryz.pinned (OpenSpec.upto fnAllowsAtSpec)

/-- 'laws.FnAccepts', WHERE WHAT IT READS IS OF BULK AT MOST 1048576: true; the input reads as it did. -/
def fnAcceptsUptoRow : OpenClaim := { program := "ytekdhmddibfidaagreat", sum := "82752497e6b3234fb0ba97e330a319adb013dafe53d4e79a02184dd4750126d0", func := "loop.example/callbinding/laws.FnAccepts", spec := "fnAccepts", unfollowed := true, recurses := true, apart := false, narrowed := true }
def FnAcceptsUptoSaid : Prop := fnAcceptsUptoRow.holds Tryz.pinned (OpenSpec.upto fnAcceptsSpec)

end Rows
end Go.Proofs.YtekdhmddibfidaaGreat
