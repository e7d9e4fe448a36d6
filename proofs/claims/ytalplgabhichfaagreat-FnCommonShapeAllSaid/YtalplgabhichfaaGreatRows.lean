/-
  No cell of these rows narrows 'for every input' (looked for: loops, veiled, ifaces, maps, wideKeys, modest, calm, conditions, laid).
  DERIVED. THE GIVEN ROWS OF THIS SEAT. 8 by the template 'for every input the law returns true; each argument reads behind the call as it read before'; 0 by the template 'total and deterministic' (their statements: YtalplgabhichfaaGreatTotals.lean).
  GIVEN WITH THE SEED: the statements are not yours to turn. If you find one false, say at which input.
  Laid BY PROGRAM, IN A SANDBOX (cutbox-rows.mjs): the forced cells as the released guide's own fill.sh prints them over the translation 4875dc87e591c04a… (all of the seat's roots in one cut). By AI agents, Wed Nov 11 2026. No macro, syntax, notation, axiom, sorry.
-/
import Derived.Test.YtalplgabhichfaaGreatChecked
import GoSem.Claim
import GoSem.ClaimJoined
import GoSem.ClaimMapViews
import Derived.JoinedTies
import Derived.KernelRfl
namespace Go.Proofs.YtalplgabhichfaaGreat
/- THE CELL 'sum', in the pinned program and in every row, IS THE sha256 OF THE DUMP (.gsa) THAT YtalplgabhichfaaGreatProg.lean LOADS. Nothing in Lean hashes anything: it is a label: what it is worth is what the hold of that sum in a sandbox is worth. -/
noncomputable def Tryz.pinned : Pinned := { name := "ytalplgabhichfaagreat", sum := "4875dc87e591c04adaceec1f0c773a3391eef74172fad2c942e0daad973a303a", checked := Tryz.checked }
namespace Rows
def none {H : Type} : Left H := { results := [], args := [] }

/-- 'laws.FnExactSamePartial': WHATEVER THE INPUT: true; the input reads as it did. -/
def fnExactSamePartialSpec : ChangeSpec := { name := "fnExactSamePartial", fn := fun _ => fun
  | [d1, d2] => { results := [.lit (.bool true)], args := [d1, d2] }
  | _ => none }
def fnExactSamePartialRow : OpenClaim := { program := "ytalplgabhichfaagreat", sum := "4875dc87e591c04adaceec1f0c773a3391eef74172fad2c942e0daad973a303a", func := "loop.example/callbinding/laws.FnExactSamePartial", spec := "fnExactSamePartial", unfollowed := true, recurses := true, apart := false }
def FnExactSamePartialSaid : Prop := fnExactSamePartialRow.holds Tryz.pinned (OpenSpec.ofChange fnExactSamePartialSpec)

/-- ITS FALSE NEIGHBOUR: 'it returns false'. Refute it at one input. -/
def fnExactSamePartialWrong : ChangeSpec := { name := "fnExactSamePartial", fn := fun _ => fun
  | [d1, d2] => { results := [.lit (.bool false)], args := [d1, d2] }
  | _ => none }
def FnExactSamePartialWrongFalsely : Prop := fnExactSamePartialRow.holds Tryz.pinned (OpenSpec.ofChange fnExactSamePartialWrong)

/-- 'laws.FnExactSameEffect': WHATEVER THE INPUT: true; the input reads as it did. -/
def fnExactSameEffectSpec : ChangeSpec := { name := "fnExactSameEffect", fn := fun _ => fun
  | [d1, d2, d3] => { results := [.lit (.bool true)], args := [d1, d2, d3] }
  | _ => none }
def fnExactSameEffectRow : OpenClaim := { program := "ytalplgabhichfaagreat", sum := "4875dc87e591c04adaceec1f0c773a3391eef74172fad2c942e0daad973a303a", func := "loop.example/callbinding/laws.FnExactSameEffect", spec := "fnExactSameEffect", unfollowed := true, recurses := true, apart := false }
def FnExactSameEffectSaid : Prop := fnExactSameEffectRow.holds Tryz.pinned (OpenSpec.ofChange fnExactSameEffectSpec)

/-- ITS FALSE NEIGHBOUR: 'it returns false'. Refute it at one input. -/
def fnExactSameEffectWrong : ChangeSpec := { name := "fnExactSameEffect", fn := fun _ => fun
  | [d1, d2, d3] => { results := [.lit (.bool false)], args := [d1, d2, d3] }
  | _ => none }
def FnExactSameEffectWrongFalsely : Prop := fnExactSameEffectRow.holds Tryz.pinned (OpenSpec.ofChange fnExactSameEffectWrong)

/-- 'laws.FnAcceptsShape': WHATEVER THE INPUT: true; the input reads as it did. -/
def fnAcceptsShapeSpec : ChangeSpec := { name := "fnAcceptsShape", fn := fun _ => fun
  | [d] => { results := [.lit (.bool true)], args := [d] }
  | _ => none }
def fnAcceptsShapeRow : OpenClaim := { program := "ytalplgabhichfaagreat", sum := "4875dc87e591c04adaceec1f0c773a3391eef74172fad2c942e0daad973a303a", func := "loop.example/callbinding/laws.FnAcceptsShape", spec := "fnAcceptsShape", unfollowed := true, recurses := true, apart := false }
def FnAcceptsShapeSaid : Prop := fnAcceptsShapeRow.holds Tryz.pinned (OpenSpec.ofChange fnAcceptsShapeSpec)

/-- ITS FALSE NEIGHBOUR: 'it returns false'. Refute it at one input. -/
def fnAcceptsShapeWrong : ChangeSpec := { name := "fnAcceptsShape", fn := fun _ => fun
  | [d] => { results := [.lit (.bool false)], args := [d] }
  | _ => none }
def FnAcceptsShapeWrongFalsely : Prop := fnAcceptsShapeRow.holds Tryz.pinned (OpenSpec.ofChange fnAcceptsShapeWrong)

/-- 'laws.FnBind': WHATEVER THE INPUT: true; the input reads as it did. -/
def fnBindSpec : ChangeSpec := { name := "fnBind", fn := fun _ => fun
  | [d] => { results := [.lit (.bool true)], args := [d] }
  | _ => none }
def fnBindRow : OpenClaim := { program := "ytalplgabhichfaagreat", sum := "4875dc87e591c04adaceec1f0c773a3391eef74172fad2c942e0daad973a303a", func := "loop.example/callbinding/laws.FnBind", spec := "fnBind", unfollowed := true, recurses := true, apart := false }
def FnBindSaid : Prop := fnBindRow.holds Tryz.pinned (OpenSpec.ofChange fnBindSpec)

/-- ITS FALSE NEIGHBOUR: 'it returns false'. Refute it at one input. -/
def fnBindWrong : ChangeSpec := { name := "fnBind", fn := fun _ => fun
  | [d] => { results := [.lit (.bool false)], args := [d] }
  | _ => none }
def FnBindWrongFalsely : Prop := fnBindRow.holds Tryz.pinned (OpenSpec.ofChange fnBindWrong)

/-- 'laws.FnCallPartial': WHATEVER THE INPUT: true; the input reads as it did. -/
def fnCallPartialSpec : ChangeSpec := { name := "fnCallPartial", fn := fun _ => fun
  | [d] => { results := [.lit (.bool true)], args := [d] }
  | _ => none }
def fnCallPartialRow : OpenClaim := { program := "ytalplgabhichfaagreat", sum := "4875dc87e591c04adaceec1f0c773a3391eef74172fad2c942e0daad973a303a", func := "loop.example/callbinding/laws.FnCallPartial", spec := "fnCallPartial", unfollowed := true, recurses := true, apart := false }
def FnCallPartialSaid : Prop := fnCallPartialRow.holds Tryz.pinned (OpenSpec.ofChange fnCallPartialSpec)

/-- ITS FALSE NEIGHBOUR: 'it returns false'. Refute it at one input. -/
def fnCallPartialWrong : ChangeSpec := { name := "fnCallPartial", fn := fun _ => fun
  | [d] => { results := [.lit (.bool false)], args := [d] }
  | _ => none }
def FnCallPartialWrongFalsely : Prop := fnCallPartialRow.holds Tryz.pinned (OpenSpec.ofChange fnCallPartialWrong)

/-- 'laws.FnCommonShapeAll': WHATEVER THE INPUT: true; the input reads as it did. -/
def fnCommonShapeAllSpec : ChangeSpec := { name := "fnCommonShapeAll", fn := fun _ => fun
  | [d] => { results := [.lit (.bool true)], args := [d] }
  | _ => none }
def fnCommonShapeAllRow : OpenClaim := { program := "ytalplgabhichfaagreat", sum := "4875dc87e591c04adaceec1f0c773a3391eef74172fad2c942e0daad973a303a", func := "loop.example/callbinding/laws.FnCommonShapeAll", spec := "fnCommonShapeAll", unfollowed := true, recurses := true, apart := false }
def FnCommonShapeAllSaid : Prop := fnCommonShapeAllRow.holds Tryz.pinned (OpenSpec.ofChange fnCommonShapeAllSpec)

/-- ITS FALSE NEIGHBOUR: 'it returns false'. Refute it at one input. -/
def fnCommonShapeAllWrong : ChangeSpec := { name := "fnCommonShapeAll", fn := fun _ => fun
  | [d] => { results := [.lit (.bool false)], args := [d] }
  | _ => none }
def FnCommonShapeAllWrongFalsely : Prop := fnCommonShapeAllRow.holds Tryz.pinned (OpenSpec.ofChange fnCommonShapeAllWrong)

/-- 'laws.FnExactCommonShape': WHATEVER THE INPUT: true; the input reads as it did. -/
def fnExactCommonShapeSpec : ChangeSpec := { name := "fnExactCommonShape", fn := fun _ => fun
  | [d1, d2] => { results := [.lit (.bool true)], args := [d1, d2] }
  | _ => none }
def fnExactCommonShapeRow : OpenClaim := { program := "ytalplgabhichfaagreat", sum := "4875dc87e591c04adaceec1f0c773a3391eef74172fad2c942e0daad973a303a", func := "loop.example/callbinding/laws.FnExactCommonShape", spec := "fnExactCommonShape", unfollowed := true, recurses := true, apart := false }
def FnExactCommonShapeSaid : Prop := fnExactCommonShapeRow.holds Tryz.pinned (OpenSpec.ofChange fnExactCommonShapeSpec)

/-- ITS FALSE NEIGHBOUR: 'it returns false'. Refute it at one input. -/
def fnExactCommonShapeWrong : ChangeSpec := { name := "fnExactCommonShape", fn := fun _ => fun
  | [d1, d2] => { results := [.lit (.bool false)], args := [d1, d2] }
  | _ => none }
def FnExactCommonShapeWrongFalsely : Prop := fnExactCommonShapeRow.holds Tryz.pinned (OpenSpec.ofChange fnExactCommonShapeWrong)

/-- 'laws.FnCanonFlat': WHATEVER THE INPUT: true; the input reads as it did. -/
def fnCanonFlatSpec : ChangeSpec := { name := "fnCanonFlat", fn := fun _ => fun
  | [d] => { results := [.lit (.bool true)], args := [d] }
  | _ => none }
def fnCanonFlatRow : OpenClaim := { program := "ytalplgabhichfaagreat", sum := "4875dc87e591c04adaceec1f0c773a3391eef74172fad2c942e0daad973a303a", func := "loop.example/callbinding/laws.FnCanonFlat", spec := "fnCanonFlat", unfollowed := true, recurses := true, apart := false }
def FnCanonFlatSaid : Prop := fnCanonFlatRow.holds Tryz.pinned (OpenSpec.ofChange fnCanonFlatSpec)

/-- ITS FALSE NEIGHBOUR: 'it returns false'. Refute it at one input. -/
def fnCanonFlatWrong : ChangeSpec := { name := "fnCanonFlat", fn := fun _ => fun
  | [d] => { results := [.lit (.bool false)], args := [d] }
  | _ => none }
def FnCanonFlatWrongFalsely : Prop := fnCanonFlatRow.holds Tryz.pinned (OpenSpec.ofChange fnCanonFlatWrong)

/- THE SECOND FORM. 'bulk': how many values and letters a reading holds, each counted each time it is reached (what is shared counts as often as it is met; a slice's spare places count too). A statement '..UptoSaid' is the law's where the arguments, and the package variables that the reading takes, are together of bulk at most 1048576: NARROWER than '..Said'. Prove '..Said' where nothing that the law and all that it calls make is longer than what came in: it says more and counts as full. Else prove '..UptoSaid'. A law counts once. -/
mutual
def uptoBulk {H : Type} : DataW H → Nat
  | .lit (.string bytes) => bytes.length + 1
  | .lit _ => 1
  | .nil => 1
  | .ptr d => uptoBulk d + 1
  | .slice elems spare => uptoBulkAll elems + uptoBulkAll spare + 1
  | .agg parts => uptoBulkAll parts + 1
  | .iface _ d => uptoBulk d + 1
  | .map entries => uptoBulkEntries entries + 1
  | .held _ => 1
def uptoBulkAll {H : Type} : List (DataW H) → Nat
  | [] => 0
  | d :: r => uptoBulk d + uptoBulkAll r
def uptoBulkEntries {H : Type} : List (Lit × DataW H) → Nat
  | [] => 0
  | x :: r => uptoBulkEntry x + uptoBulkEntries r
def uptoBulkEntry {H : Type} : Lit × DataW H → Nat
  | (.string bytes, d) => bytes.length + uptoBulk d + 1
  | (_, d) => uptoBulk d + 1
 end
def uptoSmall : (H : Type) → List (DataW H) → Bool := fun _ ds => decide (uptoBulkAll ds ≤ 1048576)
def OpenSpec.upto (s : _root_.Go.ChangeSpec) : _root_.Go.OpenSpec := { _root_.Go.OpenSpec.ofChange s with cond := some uptoSmall }

/-- 'laws.FnExactSamePartial', WHERE WHAT IT READS IS OF BULK AT MOST 1048576: true; the input reads as it did. -/
def fnExactSamePartialUptoRow : OpenClaim := { program := "ytalplgabhichfaagreat", sum := "4875dc87e591c04adaceec1f0c773a3391eef74172fad2c942e0daad973a303a", func := "loop.example/callbinding/laws.FnExactSamePartial", spec := "fnExactSamePartial", unfollowed := true, recurses := true, apart := false, narrowed := true }
def FnExactSamePartialUptoSaid : Prop := fnExactSamePartialUptoRow.holds Tryz.pinned (OpenSpec.upto fnExactSamePartialSpec)

/-- 'laws.FnExactSameEffect', WHERE WHAT IT READS IS OF BULK AT MOST 1048576: true; the input reads as it did. -/
def fnExactSameEffectUptoRow : OpenClaim := { program := "ytalplgabhichfaagreat", sum := "4875dc87e591c04adaceec1f0c773a3391eef74172fad2c942e0daad973a303a", func := "loop.example/callbinding/laws.FnExactSameEffect", spec := "fnExactSameEffect", unfollowed := true, recurses := true, apart := false, narrowed := true }
def FnExactSameEffectUptoSaid : Prop := fnExactSameEffectUptoRow.holds Tryz.pinned (OpenSpec.upto fnExactSameEffectSpec)

/-- 'laws.FnAcceptsShape', WHERE WHAT IT READS IS OF BULK AT MOST 1048576: true; the input reads as it did. -/
def fnAcceptsShapeUptoRow : OpenClaim := { program := "ytalplgabhichfaagreat", sum := "4875dc87e591c04adaceec1f0c773a3391eef74172fad2c942e0daad973a303a", func := "loop.example/callbinding/laws.FnAcceptsShape", spec := "fnAcceptsShape", unfollowed := true, recurses := true, apart := false, narrowed := true }
def FnAcceptsShapeUptoSaid : Prop := fnAcceptsShapeUptoRow.holds Tryz.pinned (OpenSpec.upto fnAcceptsShapeSpec)

/-- 'laws.FnBind', WHERE WHAT IT READS IS OF BULK AT MOST 1048576: true; the input reads as it did. -/
def fnBindUptoRow : OpenClaim := { program := "ytalplgabhichfaagreat", sum := "4875dc87e591c04adaceec1f0c773a3391eef74172fad2c942e0daad973a303a", func := "loop.example/callbinding/laws.FnBind", spec := "fnBind", unfollowed := true, recurses := true, apart := false, narrowed := true }
def FnBindUptoSaid : Prop := fnBindUptoRow.holds Tryz.pinned (OpenSpec.upto fnBindSpec)

/-- 'laws.FnCallPartial', WHERE WHAT IT READS IS OF BULK AT MOST 1048576: true; the input reads as it did. -/
def fnCallPartialUptoRow : OpenClaim := { program := "ytalplgabhichfaagreat", sum := "4875dc87e591c04adaceec1f0c773a3391eef74172fad2c942e0daad973a303a", func := "loop.example/callbinding/laws.FnCallPartial", spec := "fnCallPartial", unfollowed := true, recurses := true, apart := false, narrowed := true }
def FnCallPartialUptoSaid : Prop := fnCallPartialUptoRow.holds Tryz.pinned (OpenSpec.upto fnCallPartialSpec)

/-- 'laws.FnCommonShapeAll', WHERE WHAT IT READS IS OF BULK AT MOST 1048576: true; the input reads as it did. -/
def fnCommonShapeAllUptoRow : OpenClaim := { program := "ytalplgabhichfaagreat", sum := "4875dc87e591c04adaceec1f0c773a3391eef74172fad2c942e0daad973a303a", func := "loop.example/callbinding/laws.FnCommonShapeAll", spec := "fnCommonShapeAll", unfollowed := true, recurses := true, apart := false, narrowed := true }
def FnCommonShapeAllUptoSaid : Prop := fnCommonShapeAllUptoRow.holds Tryz.pinned (OpenSpec.upto fnCommonShapeAllSpec)

/-- 'laws.FnExactCommonShape', WHERE WHAT IT READS IS OF BULK AT MOST 1048576: true; the input reads as it did. -/
def fnExactCommonShapeUptoRow : OpenClaim := { program := "ytalplgabhichfaagreat", sum := "4875dc87e591c04adaceec1f0c773a3391eef74172fad2c942e0daad973a303a", func := "loop.example/callbinding/laws.FnExactCommonShape", spec := "fnExactCommonShape", unfollowed := true, recurses := true, apart := false, narrowed := true }
def FnExactCommonShapeUptoSaid : Prop := fnExactCommonShapeUptoRow.holds Tryz.pinned (OpenSpec.upto fnExactCommonShapeSpec)

/-- 'laws.FnCanonFlat', WHERE WHAT IT READS IS OF BULK AT MOST 1048576: true; the input reads as it did. -/
def fnCanonFlatUptoRow : OpenClaim := { program := "ytalplgabhichfaagreat", sum := "4875dc87e591c04adaceec1f0c773a3391eef74172fad2c942e0daad973a303a", func := "loop.example/callbinding/laws.FnCanonFlat", spec := "fnCanonFlat", unfollowed := true, recurses := true, apart := false, narrowed := true }
def FnCanonFlatUptoSaid : Prop := fnCanonFlatUptoRow.holds Tryz.pinned (OpenSpec.upto fnCanonFlatSpec)

end Rows
end Go.Proofs.YtalplgabhichfaaGreat
