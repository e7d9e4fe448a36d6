/-
  DERIVED. GIVEN WITH THE SEED: THE CARDS: each row of YtbaglnfffgonlaaGreatDoorRows.lean that lists a variable, with what it lists TIED to the program's text (the seventh form; the later family's looks); each row that meets fmt, with fmt's text TOLD by the authors' own Lean function (tested against real Go, not proved from fmt's source: count such statements apart). THE CARD IS WHAT COUNTS. Prove the row's statement (the work); the ties are given (YtbaglnfffgonlaaGreatDoorTie.lean); close each card by the builder's one call (the guide's Derived/Test/ToyasCard.lean, 'card_holds'). Laid BY PROGRAM, IN A SANDBOX (cutbox-door.mjs). By AI agents, Wed Nov 11 2026. No macro, syntax, notation, axiom, sorry.
-/
import Derived.Test.YtbaglnfffgonlaaGreatDoorRows
import GoSem.ClaimSeven
namespace Go.Proofs.YtbaglnfffgonlaaGreatDoor
namespace Rows

/-- THE TIED CARD OF 'laws.FnDropParamFits'. -/
def fnDropParamFitsCard : Claim7 := { stood := { row := fnDropParamFitsRow, standIns := [], harness := (true, "2c721f5fb7d420877fc2d6e24cd14ae64d1978ab463589adeeeedf8ede71053c"), looks := false }, kinds := [], alts := [], laidByText := true, laidKinds := [.data, .pinned], laidTests := true, laidLooks := .later }
def FnDropParamFitsCardSaid : Prop := Claim7.holds Tryz.pinned (.plain (OpenSpec.ofChange fnDropParamFitsSpec)) fnDropParamFitsCard

/-- THE TIED CARD OF 'laws.FnAddParamFits'. -/
def fnAddParamFitsCard : Claim7 := { stood := { row := fnAddParamFitsRow, standIns := [], harness := (true, "2c721f5fb7d420877fc2d6e24cd14ae64d1978ab463589adeeeedf8ede71053c"), looks := false }, kinds := [], alts := [], laidByText := true, laidKinds := [.data, .pinned], laidTests := true, laidLooks := .later }
def FnAddParamFitsCardSaid : Prop := Claim7.holds Tryz.pinned (.plain (OpenSpec.ofChange fnAddParamFitsSpec)) fnAddParamFitsCard

/-- THE TIED CARD OF 'laws.FnPlacesOnly'. -/
def fnPlacesOnlyCard : Claim7 := { stood := { row := fnPlacesOnlyRow, standIns := [], harness := (true, "2c721f5fb7d420877fc2d6e24cd14ae64d1978ab463589adeeeedf8ede71053c"), looks := false }, kinds := [], alts := [], laidByText := true, laidKinds := [.data, .pinned], laidTests := true, laidLooks := .later }
def FnPlacesOnlyCardSaid : Prop := Claim7.holds Tryz.pinned (.plain (OpenSpec.ofChange fnPlacesOnlySpec)) fnPlacesOnlyCard

/-- THE TIED CARD OF 'laws.FnNamedOnly'. -/
def fnNamedOnlyCard : Claim7 := { stood := { row := fnNamedOnlyRow, standIns := [], harness := (true, "2c721f5fb7d420877fc2d6e24cd14ae64d1978ab463589adeeeedf8ede71053c"), looks := false }, kinds := [], alts := [], laidByText := true, laidKinds := [.data, .pinned], laidTests := true, laidLooks := .later }
def FnNamedOnlyCardSaid : Prop := Claim7.holds Tryz.pinned (.plain (OpenSpec.ofChange fnNamedOnlySpec)) fnNamedOnlyCard

/-- THE TIED CARD OF 'laws.FnClearDefault'. -/
def fnClearDefaultCard : Claim7 := { stood := { row := fnClearDefaultRow, standIns := [], harness := (true, "2c721f5fb7d420877fc2d6e24cd14ae64d1978ab463589adeeeedf8ede71053c"), looks := false }, kinds := [], alts := [], laidByText := true, laidKinds := [.data, .pinned], laidTests := true, laidLooks := .later }
def FnClearDefaultCardSaid : Prop := Claim7.holds Tryz.pinned (.plain (OpenSpec.ofChange fnClearDefaultSpec)) fnClearDefaultCard

/-- THE TIED CARD OF 'laws.FnSetDefault'. -/
def fnSetDefaultCard : Claim7 := { stood := { row := fnSetDefaultRow, standIns := [], harness := (true, "2c721f5fb7d420877fc2d6e24cd14ae64d1978ab463589adeeeedf8ede71053c"), looks := false }, kinds := [], alts := [], laidByText := true, laidKinds := [.data, .pinned], laidTests := true, laidLooks := .later }
def FnSetDefaultCardSaid : Prop := Claim7.holds Tryz.pinned (.plain (OpenSpec.ofChange fnSetDefaultSpec)) fnSetDefaultCard

/-- THE TIED CARD OF 'laws.FnTopFits'. -/
def fnTopFitsCard : Claim7 := { stood := { row := fnTopFitsRow, standIns := [], harness := (true, "2c721f5fb7d420877fc2d6e24cd14ae64d1978ab463589adeeeedf8ede71053c"), looks := false }, kinds := [], alts := [], laidByText := true, laidKinds := [.data, .pinned], laidTests := true, laidLooks := .later }
def FnTopFitsCardSaid : Prop := Claim7.holds Tryz.pinned (.plain (OpenSpec.ofChange fnTopFitsSpec)) fnTopFitsCard

/-- THE SECOND FORM's CARD OF 'laws.FnDropParamFits'. -/
def fnDropParamFitsUptoCard : Claim7 := { stood := { row := fnDropParamFitsUptoRow, standIns := [], harness := (true, "2c721f5fb7d420877fc2d6e24cd14ae64d1978ab463589adeeeedf8ede71053c"), looks := false }, kinds := [], alts := [], laidByText := true, laidKinds := [.data, .pinned], laidTests := true, laidLooks := .later }
def FnDropParamFitsUptoCardSaid : Prop := Claim7.holds Tryz.pinned (.plain (OpenSpec.upto fnDropParamFitsSpec)) fnDropParamFitsUptoCard

/-- THE SECOND FORM's CARD OF 'laws.FnAddParamFits'. -/
def fnAddParamFitsUptoCard : Claim7 := { stood := { row := fnAddParamFitsUptoRow, standIns := [], harness := (true, "2c721f5fb7d420877fc2d6e24cd14ae64d1978ab463589adeeeedf8ede71053c"), looks := false }, kinds := [], alts := [], laidByText := true, laidKinds := [.data, .pinned], laidTests := true, laidLooks := .later }
def FnAddParamFitsUptoCardSaid : Prop := Claim7.holds Tryz.pinned (.plain (OpenSpec.upto fnAddParamFitsSpec)) fnAddParamFitsUptoCard

/-- THE SECOND FORM's CARD OF 'laws.FnPlacesOnly'. -/
def fnPlacesOnlyUptoCard : Claim7 := { stood := { row := fnPlacesOnlyUptoRow, standIns := [], harness := (true, "2c721f5fb7d420877fc2d6e24cd14ae64d1978ab463589adeeeedf8ede71053c"), looks := false }, kinds := [], alts := [], laidByText := true, laidKinds := [.data, .pinned], laidTests := true, laidLooks := .later }
def FnPlacesOnlyUptoCardSaid : Prop := Claim7.holds Tryz.pinned (.plain (OpenSpec.upto fnPlacesOnlySpec)) fnPlacesOnlyUptoCard

/-- THE SECOND FORM's CARD OF 'laws.FnNamedOnly'. -/
def fnNamedOnlyUptoCard : Claim7 := { stood := { row := fnNamedOnlyUptoRow, standIns := [], harness := (true, "2c721f5fb7d420877fc2d6e24cd14ae64d1978ab463589adeeeedf8ede71053c"), looks := false }, kinds := [], alts := [], laidByText := true, laidKinds := [.data, .pinned], laidTests := true, laidLooks := .later }
def FnNamedOnlyUptoCardSaid : Prop := Claim7.holds Tryz.pinned (.plain (OpenSpec.upto fnNamedOnlySpec)) fnNamedOnlyUptoCard

/-- THE SECOND FORM's CARD OF 'laws.FnClearDefault'. -/
def fnClearDefaultUptoCard : Claim7 := { stood := { row := fnClearDefaultUptoRow, standIns := [], harness := (true, "2c721f5fb7d420877fc2d6e24cd14ae64d1978ab463589adeeeedf8ede71053c"), looks := false }, kinds := [], alts := [], laidByText := true, laidKinds := [.data, .pinned], laidTests := true, laidLooks := .later }
def FnClearDefaultUptoCardSaid : Prop := Claim7.holds Tryz.pinned (.plain (OpenSpec.upto fnClearDefaultSpec)) fnClearDefaultUptoCard

/-- THE SECOND FORM's CARD OF 'laws.FnSetDefault'. -/
def fnSetDefaultUptoCard : Claim7 := { stood := { row := fnSetDefaultUptoRow, standIns := [], harness := (true, "2c721f5fb7d420877fc2d6e24cd14ae64d1978ab463589adeeeedf8ede71053c"), looks := false }, kinds := [], alts := [], laidByText := true, laidKinds := [.data, .pinned], laidTests := true, laidLooks := .later }
def FnSetDefaultUptoCardSaid : Prop := Claim7.holds Tryz.pinned (.plain (OpenSpec.upto fnSetDefaultSpec)) fnSetDefaultUptoCard

/-- THE SECOND FORM's CARD OF 'laws.FnTopFits'. -/
def fnTopFitsUptoCard : Claim7 := { stood := { row := fnTopFitsUptoRow, standIns := [], harness := (true, "2c721f5fb7d420877fc2d6e24cd14ae64d1978ab463589adeeeedf8ede71053c"), looks := false }, kinds := [], alts := [], laidByText := true, laidKinds := [.data, .pinned], laidTests := true, laidLooks := .later }
def FnTopFitsUptoCardSaid : Prop := Claim7.holds Tryz.pinned (.plain (OpenSpec.upto fnTopFitsSpec)) fnTopFitsUptoCard
end Rows
end Go.Proofs.YtbaglnfffgonlaaGreatDoor
