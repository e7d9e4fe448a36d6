/-
  DERIVED. GIVEN WITH THE SEED: THE CARDS: each row of YtbenojnoepkgbaaDoorRows.lean that lists a variable, with what it lists TIED to the program's text (the seventh form; the later family's looks); each row that meets fmt, with fmt's text TOLD by the authors' own Lean function (tested against real Go, not proved from fmt's source: count such statements apart). THE CARD IS WHAT COUNTS. Prove the row's statement (the work); the ties are given (YtbenojnoepkgbaaDoorTie.lean); close each card by the builder's one call (the guide's Derived/Test/ToyasCard.lean, 'card_holds'). Laid BY PROGRAM, IN A SANDBOX (cutbox-door.mjs). By AI agents, Wed Nov 11 2026. No macro, syntax, notation, axiom, sorry.
-/
import Derived.Test.YtbenojnoepkgbaaDoorRows
import GoSem.ClaimSeven
namespace Go.Proofs.YtbenojnoepkgbaaDoor
namespace Rows

/-- THE TIED CARD OF 'laws.FnExactTableText'. -/
def fnExactTableTextCard : Claim7 := { stood := { row := fnExactTableTextRow, standIns := [], harness := (true, "4e67f0eda8e1e7113d5c6910d927e425d01177916d3c368803150c2c9be7a456"), looks := true }, kinds := [], alts := [], laidByText := true, laidKinds := [.data, .data, .data], laidTests := true, laidLooks := .later }
def FnExactTableTextCardSaid : Prop := Claim7.holds Tryd.pinned (.plain (OpenSpec.ofChange fnExactTableTextSpec)) fnExactTableTextCard

/-- THE TIED CARD OF 'laws.FnExactParseShape'. -/
def fnExactParseShapeCard : Claim7 := { stood := { row := fnExactParseShapeRow, standIns := [], harness := (true, "4e67f0eda8e1e7113d5c6910d927e425d01177916d3c368803150c2c9be7a456"), looks := true }, kinds := [], alts := [], laidByText := true, laidKinds := [.data, .data, .data, .data, .sentinel, .sentinel, .pinned], laidTests := true, laidLooks := .later }
def FnExactParseShapeCardSaid : Prop := Claim7.holds Tryd.pinned (.plain (OpenSpec.ofChange fnExactParseShapeSpec)) fnExactParseShapeCard

/-- THE TIED CARD OF 'laws.FnShapeText'. -/
def fnShapeTextCard : Claim7 := { stood := { row := fnShapeTextRow, standIns := [], harness := (true, "4e67f0eda8e1e7113d5c6910d927e425d01177916d3c368803150c2c9be7a456"), looks := true }, kinds := [], alts := [], laidByText := true, laidKinds := [.data, .data, .data, .data, .sentinel, .sentinel, .pinned], laidTests := true, laidLooks := .later }
def FnShapeTextCardSaid : Prop := Claim7.holds Tryd.pinned (.plain (OpenSpec.ofChange fnShapeTextSpec)) fnShapeTextCard

/-- THE TIED CARD OF 'laws.FnParseShape'. -/
def fnParseShapeCard : Claim7 := { stood := { row := fnParseShapeRow, standIns := [], harness := (true, "4e67f0eda8e1e7113d5c6910d927e425d01177916d3c368803150c2c9be7a456"), looks := true }, kinds := [], alts := [], laidByText := true, laidKinds := [.data, .data, .data, .data, .sentinel, .sentinel, .pinned], laidTests := true, laidLooks := .later }
def FnParseShapeCardSaid : Prop := Claim7.holds Tryd.pinned (.plain (OpenSpec.ofChange fnParseShapeSpec)) fnParseShapeCard

/-- THE SECOND FORM's CARD OF 'laws.FnExactTableText'. -/
def fnExactTableTextUptoCard : Claim7 := { stood := { row := fnExactTableTextUptoRow, standIns := [], harness := (true, "4e67f0eda8e1e7113d5c6910d927e425d01177916d3c368803150c2c9be7a456"), looks := true }, kinds := [], alts := [], laidByText := true, laidKinds := [.data, .data, .data], laidTests := true, laidLooks := .later }
def FnExactTableTextUptoCardSaid : Prop := Claim7.holds Tryd.pinned (.plain (OpenSpec.upto fnExactTableTextSpec)) fnExactTableTextUptoCard

/-- THE SECOND FORM's CARD OF 'laws.FnExactParseShape'. -/
def fnExactParseShapeUptoCard : Claim7 := { stood := { row := fnExactParseShapeUptoRow, standIns := [], harness := (true, "4e67f0eda8e1e7113d5c6910d927e425d01177916d3c368803150c2c9be7a456"), looks := true }, kinds := [], alts := [], laidByText := true, laidKinds := [.data, .data, .data, .data, .sentinel, .sentinel, .pinned], laidTests := true, laidLooks := .later }
def FnExactParseShapeUptoCardSaid : Prop := Claim7.holds Tryd.pinned (.plain (OpenSpec.upto fnExactParseShapeSpec)) fnExactParseShapeUptoCard

/-- THE SECOND FORM's CARD OF 'laws.FnShapeText'. -/
def fnShapeTextUptoCard : Claim7 := { stood := { row := fnShapeTextUptoRow, standIns := [], harness := (true, "4e67f0eda8e1e7113d5c6910d927e425d01177916d3c368803150c2c9be7a456"), looks := true }, kinds := [], alts := [], laidByText := true, laidKinds := [.data, .data, .data, .data, .sentinel, .sentinel, .pinned], laidTests := true, laidLooks := .later }
def FnShapeTextUptoCardSaid : Prop := Claim7.holds Tryd.pinned (.plain (OpenSpec.upto fnShapeTextSpec)) fnShapeTextUptoCard

/-- THE SECOND FORM's CARD OF 'laws.FnParseShape'. -/
def fnParseShapeUptoCard : Claim7 := { stood := { row := fnParseShapeUptoRow, standIns := [], harness := (true, "4e67f0eda8e1e7113d5c6910d927e425d01177916d3c368803150c2c9be7a456"), looks := true }, kinds := [], alts := [], laidByText := true, laidKinds := [.data, .data, .data, .data, .sentinel, .sentinel, .pinned], laidTests := true, laidLooks := .later }
def FnParseShapeUptoCardSaid : Prop := Claim7.holds Tryd.pinned (.plain (OpenSpec.upto fnParseShapeSpec)) fnParseShapeUptoCard
end Rows
end Go.Proofs.YtbenojnoepkgbaaDoor
