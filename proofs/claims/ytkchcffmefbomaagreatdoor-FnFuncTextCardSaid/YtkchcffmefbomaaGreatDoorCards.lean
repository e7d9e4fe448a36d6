/-
  DERIVED. GIVEN WITH THE SEED: THE CARDS: each row of YtkchcffmefbomaaGreatDoorRows.lean that lists a variable, with what it lists TIED to the program's text (the seventh form; the later family's looks); each row that meets fmt, with fmt's text TOLD by the authors' own Lean function (tested against real Go, not proved from fmt's source: count such statements apart). THE CARD IS WHAT COUNTS. Prove the row's statement (the work); the ties are given (YtkchcffmefbomaaGreatDoorTie.lean); close each card by the builder's one call (the guide's Derived/Test/ToyasCard.lean, 'card_holds'). Laid BY PROGRAM, IN A SANDBOX (cutbox-door.mjs). By AI agents, Wed Nov 11 2026. No macro, syntax, notation, axiom, sorry.
-/
import Derived.Test.YtkchcffmefbomaaGreatDoorRows
import GoSem.ClaimSeven
namespace Go.Proofs.YtkchcffmefbomaaGreatDoor
namespace Rows

/-- THE TIED CARD OF 'laws.FnFuncText'. -/
def fnFuncTextCard : Claim7 := { stood := { row := fnFuncTextRow, standIns := [], harness := (true, "a2fb89aa16cee4f504b1e9160b49539fc1df5317d48b36c213783c89dea7d636"), looks := true }, kinds := [], alts := [], laidByText := true, laidKinds := [.data, .data, .data, .data, .sentinel, .sentinel, .pinned], laidTests := true, laidLooks := .later }
def FnFuncTextCardSaid : Prop := Claim7.holds Tryz.pinned (.plain (OpenSpec.ofChange fnFuncTextSpec)) fnFuncTextCard

/-- THE TIED CARD OF 'laws.FnTopSignature'. -/
def fnTopSignatureCard : Claim7 := { stood := { row := fnTopSignatureRow, standIns := [], harness := (true, "a2fb89aa16cee4f504b1e9160b49539fc1df5317d48b36c213783c89dea7d636"), looks := true }, kinds := [], alts := [], laidByText := true, laidKinds := [.data, .data, .data, .data, .sentinel, .sentinel, .pinned], laidTests := true, laidLooks := .later }
def FnTopSignatureCardSaid : Prop := Claim7.holds Tryz.pinned (.plain (OpenSpec.ofChange fnTopSignatureSpec)) fnTopSignatureCard

/-- THE TIED CARD OF 'laws.FnSignatureText'. -/
def fnSignatureTextCard : Claim7 := { stood := { row := fnSignatureTextRow, standIns := [], harness := (true, "a2fb89aa16cee4f504b1e9160b49539fc1df5317d48b36c213783c89dea7d636"), looks := true }, kinds := [], alts := [], laidByText := true, laidKinds := [.data, .data, .data, .data, .sentinel, .sentinel, .pinned], laidTests := true, laidLooks := .later }
def FnSignatureTextCardSaid : Prop := Claim7.holds Tryz.pinned (.plain (OpenSpec.ofChange fnSignatureTextSpec)) fnSignatureTextCard

/-- THE SECOND FORM's CARD OF 'laws.FnFuncText'. -/
def fnFuncTextUptoCard : Claim7 := { stood := { row := fnFuncTextUptoRow, standIns := [], harness := (true, "a2fb89aa16cee4f504b1e9160b49539fc1df5317d48b36c213783c89dea7d636"), looks := true }, kinds := [], alts := [], laidByText := true, laidKinds := [.data, .data, .data, .data, .sentinel, .sentinel, .pinned], laidTests := true, laidLooks := .later }
def FnFuncTextUptoCardSaid : Prop := Claim7.holds Tryz.pinned (.plain (OpenSpec.upto fnFuncTextSpec)) fnFuncTextUptoCard

/-- THE SECOND FORM's CARD OF 'laws.FnTopSignature'. -/
def fnTopSignatureUptoCard : Claim7 := { stood := { row := fnTopSignatureUptoRow, standIns := [], harness := (true, "a2fb89aa16cee4f504b1e9160b49539fc1df5317d48b36c213783c89dea7d636"), looks := true }, kinds := [], alts := [], laidByText := true, laidKinds := [.data, .data, .data, .data, .sentinel, .sentinel, .pinned], laidTests := true, laidLooks := .later }
def FnTopSignatureUptoCardSaid : Prop := Claim7.holds Tryz.pinned (.plain (OpenSpec.upto fnTopSignatureSpec)) fnTopSignatureUptoCard

/-- THE SECOND FORM's CARD OF 'laws.FnSignatureText'. -/
def fnSignatureTextUptoCard : Claim7 := { stood := { row := fnSignatureTextUptoRow, standIns := [], harness := (true, "a2fb89aa16cee4f504b1e9160b49539fc1df5317d48b36c213783c89dea7d636"), looks := true }, kinds := [], alts := [], laidByText := true, laidKinds := [.data, .data, .data, .data, .sentinel, .sentinel, .pinned], laidTests := true, laidLooks := .later }
def FnSignatureTextUptoCardSaid : Prop := Claim7.holds Tryz.pinned (.plain (OpenSpec.upto fnSignatureTextSpec)) fnSignatureTextUptoCard
end Rows
end Go.Proofs.YtkchcffmefbomaaGreatDoor
