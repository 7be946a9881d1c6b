/-
  DERIVED. GIVEN WITH THE SEED: THE CARDS: each row of YtkfpomkfgdkjdaaDoorRows.lean that lists a variable, with what it lists TIED to the program's text (the seventh form; the later family's looks); each row that meets fmt, with fmt's text TOLD by the authors' own Lean function (tested against real Go, not proved from fmt's source: count such statements apart). THE CARD IS WHAT COUNTS. Prove the row's statement (the work); the ties are given (YtkfpomkfgdkjdaaDoorTie.lean); close each card by the builder's one call (the guide's Derived/Test/ToyasCard.lean, 'card_holds'). Laid BY PROGRAM, IN A SANDBOX (cutbox-door.mjs). By AI agents, Wed Nov 11 2026. No macro, syntax, notation, axiom, sorry.
-/
import Derived.Test.YtkfpomkfgdkjdaaDoorRows
import GoSem.ClaimSeven
namespace Go.Proofs.YtkfpomkfgdkjdaaDoor
namespace Rows

/-- THE TIED CARD OF 'shucklaw14.ValueUnary'. -/
def valueUnaryCard : Claim7 := { stood := { row := valueUnaryRow, standIns := [], harness := (true, "ea86c8803816414c42614e74fff56d99d4eac26f48c3fc126546a3b05c54edee"), looks := false }, kinds := [], alts := [], laidByText := true, laidKinds := [.data, .data, .data], laidTests := true, laidLooks := .later }
def ValueUnaryCardSaid : Prop := Claim7.holds Tryd.pinned (.plain (OpenSpec.ofChange valueUnarySpec)) valueUnaryCard

/-- THE TIED CARD OF 'shucklaw14.ValueBinary'. -/
def valueBinaryCard : Claim7 := { stood := { row := valueBinaryRow, standIns := [], harness := (true, "ea86c8803816414c42614e74fff56d99d4eac26f48c3fc126546a3b05c54edee"), looks := false }, kinds := [], alts := [], laidByText := true, laidKinds := [.data, .data, .data], laidTests := true, laidLooks := .later }
def ValueBinaryCardSaid : Prop := Claim7.holds Tryd.pinned (.plain (OpenSpec.ofChange valueBinarySpec)) valueBinaryCard

/-- THE TIED CARD OF 'shucklaw14.ValueOps'. -/
def valueOpsCard : Claim7 := { stood := { row := valueOpsRow, standIns := [], harness := (true, "ea86c8803816414c42614e74fff56d99d4eac26f48c3fc126546a3b05c54edee"), looks := false }, kinds := [], alts := [], laidByText := true, laidKinds := [.data, .data, .data], laidTests := true, laidLooks := .later }
def ValueOpsCardSaid : Prop := Claim7.holds Tryd.pinned (.plain (OpenSpec.ofChange valueOpsSpec)) valueOpsCard

/-- THE TIED CARD OF 'shucklaw14.ValueTexts'. -/
def valueTextsCard : Claim7 := { stood := { row := valueTextsRow, standIns := [], harness := (true, "ea86c8803816414c42614e74fff56d99d4eac26f48c3fc126546a3b05c54edee"), looks := false }, kinds := [], alts := [], laidByText := true, laidKinds := [.data, .data, .data], laidTests := true, laidLooks := .later }
def ValueTextsCardSaid : Prop := Claim7.holds Tryd.pinned (.plain (OpenSpec.ofChange valueTextsSpec)) valueTextsCard

/-- THE TIED CARD OF 'shucklaw14.ValueOrder'. -/
def valueOrderCard : Claim7 := { stood := { row := valueOrderRow, standIns := [], harness := (true, "ea86c8803816414c42614e74fff56d99d4eac26f48c3fc126546a3b05c54edee"), looks := false }, kinds := [], alts := [], laidByText := true, laidKinds := [.data, .data, .data], laidTests := true, laidLooks := .later }
def ValueOrderCardSaid : Prop := Claim7.holds Tryd.pinned (.plain (OpenSpec.ofChange valueOrderSpec)) valueOrderCard

/-- THE TIED CARD OF 'shucklaw14.ValueTurns'. -/
def valueTurnsCard : Claim7 := { stood := { row := valueTurnsRow, standIns := [], harness := (true, "ea86c8803816414c42614e74fff56d99d4eac26f48c3fc126546a3b05c54edee"), looks := false }, kinds := [], alts := [], laidByText := true, laidKinds := [.data, .data, .data], laidTests := true, laidLooks := .later }
def ValueTurnsCardSaid : Prop := Claim7.holds Tryd.pinned (.plain (OpenSpec.ofChange valueTurnsSpec)) valueTurnsCard

/-- THE TIED CARD OF 'shucklaw14.ValueBits'. -/
def valueBitsCard : Claim7 := { stood := { row := valueBitsRow, standIns := [], harness := (true, "ea86c8803816414c42614e74fff56d99d4eac26f48c3fc126546a3b05c54edee"), looks := false }, kinds := [], alts := [], laidByText := true, laidKinds := [.data, .data, .data], laidTests := true, laidLooks := .later }
def ValueBitsCardSaid : Prop := Claim7.holds Tryd.pinned (.plain (OpenSpec.ofChange valueBitsSpec)) valueBitsCard

/-- THE TIED CARD OF 'shucklaw14.ValueShifts'. -/
def valueShiftsCard : Claim7 := { stood := { row := valueShiftsRow, standIns := [], harness := (true, "ea86c8803816414c42614e74fff56d99d4eac26f48c3fc126546a3b05c54edee"), looks := false }, kinds := [], alts := [], laidByText := true, laidKinds := [.data, .data, .data], laidTests := true, laidLooks := .later }
def ValueShiftsCardSaid : Prop := Claim7.holds Tryd.pinned (.plain (OpenSpec.ofChange valueShiftsSpec)) valueShiftsCard

/-- THE TIED CARD OF 'shucklaw14.ValueDivides'. -/
def valueDividesCard : Claim7 := { stood := { row := valueDividesRow, standIns := [], harness := (true, "ea86c8803816414c42614e74fff56d99d4eac26f48c3fc126546a3b05c54edee"), looks := false }, kinds := [], alts := [], laidByText := true, laidKinds := [.data, .data, .data], laidTests := true, laidLooks := .later }
def ValueDividesCardSaid : Prop := Claim7.holds Tryd.pinned (.plain (OpenSpec.ofChange valueDividesSpec)) valueDividesCard

/-- THE TIED CARD OF 'shucklaw14.ValueJoins'. -/
def valueJoinsCard : Claim7 := { stood := { row := valueJoinsRow, standIns := [], harness := (true, "ea86c8803816414c42614e74fff56d99d4eac26f48c3fc126546a3b05c54edee"), looks := false }, kinds := [], alts := [], laidByText := true, laidKinds := [.data, .data, .data], laidTests := true, laidLooks := .later }
def ValueJoinsCardSaid : Prop := Claim7.holds Tryd.pinned (.plain (OpenSpec.ofChange valueJoinsSpec)) valueJoinsCard

/-- THE SECOND FORM's CARD OF 'shucklaw14.ValueUnary'. -/
def valueUnaryUptoCard : Claim7 := { stood := { row := valueUnaryUptoRow, standIns := [], harness := (true, "ea86c8803816414c42614e74fff56d99d4eac26f48c3fc126546a3b05c54edee"), looks := false }, kinds := [], alts := [], laidByText := true, laidKinds := [.data, .data, .data], laidTests := true, laidLooks := .later }
def ValueUnaryUptoCardSaid : Prop := Claim7.holds Tryd.pinned (.plain (OpenSpec.upto valueUnarySpec)) valueUnaryUptoCard

/-- THE SECOND FORM's CARD OF 'shucklaw14.ValueBinary'. -/
def valueBinaryUptoCard : Claim7 := { stood := { row := valueBinaryUptoRow, standIns := [], harness := (true, "ea86c8803816414c42614e74fff56d99d4eac26f48c3fc126546a3b05c54edee"), looks := false }, kinds := [], alts := [], laidByText := true, laidKinds := [.data, .data, .data], laidTests := true, laidLooks := .later }
def ValueBinaryUptoCardSaid : Prop := Claim7.holds Tryd.pinned (.plain (OpenSpec.upto valueBinarySpec)) valueBinaryUptoCard

/-- THE SECOND FORM's CARD OF 'shucklaw14.ValueOps'. -/
def valueOpsUptoCard : Claim7 := { stood := { row := valueOpsUptoRow, standIns := [], harness := (true, "ea86c8803816414c42614e74fff56d99d4eac26f48c3fc126546a3b05c54edee"), looks := false }, kinds := [], alts := [], laidByText := true, laidKinds := [.data, .data, .data], laidTests := true, laidLooks := .later }
def ValueOpsUptoCardSaid : Prop := Claim7.holds Tryd.pinned (.plain (OpenSpec.upto valueOpsSpec)) valueOpsUptoCard

/-- THE SECOND FORM's CARD OF 'shucklaw14.ValueTexts'. -/
def valueTextsUptoCard : Claim7 := { stood := { row := valueTextsUptoRow, standIns := [], harness := (true, "ea86c8803816414c42614e74fff56d99d4eac26f48c3fc126546a3b05c54edee"), looks := false }, kinds := [], alts := [], laidByText := true, laidKinds := [.data, .data, .data], laidTests := true, laidLooks := .later }
def ValueTextsUptoCardSaid : Prop := Claim7.holds Tryd.pinned (.plain (OpenSpec.upto valueTextsSpec)) valueTextsUptoCard

/-- THE SECOND FORM's CARD OF 'shucklaw14.ValueOrder'. -/
def valueOrderUptoCard : Claim7 := { stood := { row := valueOrderUptoRow, standIns := [], harness := (true, "ea86c8803816414c42614e74fff56d99d4eac26f48c3fc126546a3b05c54edee"), looks := false }, kinds := [], alts := [], laidByText := true, laidKinds := [.data, .data, .data], laidTests := true, laidLooks := .later }
def ValueOrderUptoCardSaid : Prop := Claim7.holds Tryd.pinned (.plain (OpenSpec.upto valueOrderSpec)) valueOrderUptoCard

/-- THE SECOND FORM's CARD OF 'shucklaw14.ValueTurns'. -/
def valueTurnsUptoCard : Claim7 := { stood := { row := valueTurnsUptoRow, standIns := [], harness := (true, "ea86c8803816414c42614e74fff56d99d4eac26f48c3fc126546a3b05c54edee"), looks := false }, kinds := [], alts := [], laidByText := true, laidKinds := [.data, .data, .data], laidTests := true, laidLooks := .later }
def ValueTurnsUptoCardSaid : Prop := Claim7.holds Tryd.pinned (.plain (OpenSpec.upto valueTurnsSpec)) valueTurnsUptoCard

/-- THE SECOND FORM's CARD OF 'shucklaw14.ValueBits'. -/
def valueBitsUptoCard : Claim7 := { stood := { row := valueBitsUptoRow, standIns := [], harness := (true, "ea86c8803816414c42614e74fff56d99d4eac26f48c3fc126546a3b05c54edee"), looks := false }, kinds := [], alts := [], laidByText := true, laidKinds := [.data, .data, .data], laidTests := true, laidLooks := .later }
def ValueBitsUptoCardSaid : Prop := Claim7.holds Tryd.pinned (.plain (OpenSpec.upto valueBitsSpec)) valueBitsUptoCard

/-- THE SECOND FORM's CARD OF 'shucklaw14.ValueShifts'. -/
def valueShiftsUptoCard : Claim7 := { stood := { row := valueShiftsUptoRow, standIns := [], harness := (true, "ea86c8803816414c42614e74fff56d99d4eac26f48c3fc126546a3b05c54edee"), looks := false }, kinds := [], alts := [], laidByText := true, laidKinds := [.data, .data, .data], laidTests := true, laidLooks := .later }
def ValueShiftsUptoCardSaid : Prop := Claim7.holds Tryd.pinned (.plain (OpenSpec.upto valueShiftsSpec)) valueShiftsUptoCard

/-- THE SECOND FORM's CARD OF 'shucklaw14.ValueDivides'. -/
def valueDividesUptoCard : Claim7 := { stood := { row := valueDividesUptoRow, standIns := [], harness := (true, "ea86c8803816414c42614e74fff56d99d4eac26f48c3fc126546a3b05c54edee"), looks := false }, kinds := [], alts := [], laidByText := true, laidKinds := [.data, .data, .data], laidTests := true, laidLooks := .later }
def ValueDividesUptoCardSaid : Prop := Claim7.holds Tryd.pinned (.plain (OpenSpec.upto valueDividesSpec)) valueDividesUptoCard

/-- THE SECOND FORM's CARD OF 'shucklaw14.ValueJoins'. -/
def valueJoinsUptoCard : Claim7 := { stood := { row := valueJoinsUptoRow, standIns := [], harness := (true, "ea86c8803816414c42614e74fff56d99d4eac26f48c3fc126546a3b05c54edee"), looks := false }, kinds := [], alts := [], laidByText := true, laidKinds := [.data, .data, .data], laidTests := true, laidLooks := .later }
def ValueJoinsUptoCardSaid : Prop := Claim7.holds Tryd.pinned (.plain (OpenSpec.upto valueJoinsSpec)) valueJoinsUptoCard
end Rows
end Go.Proofs.YtkfpomkfgdkjdaaDoor
