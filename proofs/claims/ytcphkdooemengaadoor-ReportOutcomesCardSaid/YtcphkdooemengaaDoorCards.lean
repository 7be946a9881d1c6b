/-
  DERIVED. GIVEN WITH THE SEED: THE CARDS: each row of YtcphkdooemengaaDoorRows.lean that lists a variable, with what it lists TIED to the program's text (the seventh form; the later family's looks); each row that meets fmt, with fmt's text TOLD by the authors' own Lean function (tested against real Go, not proved from fmt's source: count such statements apart). THE CARD IS WHAT COUNTS. Prove the row's statement (the work); the ties are given (YtcphkdooemengaaDoorTie.lean); close each card by the builder's one call (the guide's Derived/Test/ToyasCard.lean, 'card_holds'). Laid BY PROGRAM, IN A SANDBOX (cutbox-door.mjs). By AI agents, Wed Nov 11 2026. No macro, syntax, notation, axiom, sorry.
-/
import Derived.Test.YtcphkdooemengaaDoorRows
import GoSem.ClaimSeven
namespace Go.Proofs.YtcphkdooemengaaDoor
namespace Rows

/-- THE TIED CARD OF 'shucklaw19.ReportOutputs'. -/
def reportOutputsCard : Claim7 := { stood := { row := reportOutputsRow, standIns := [], harness := (true, "57b5909c125495f1b3dfc63e1756a7bd6bc1fdc7917e8ae4337d46bc4812fbcf"), looks := false }, kinds := [], alts := [], laidByText := true, laidKinds := [.data, .data, .data], laidTests := true, laidLooks := .later }
def ReportOutputsCardSaid : Prop := Claim7.holds Tryd.pinned (.plain (OpenSpec.ofChange reportOutputsSpec)) reportOutputsCard

/-- THE TIED CARD OF 'shucklaw19.ReportMarks'. -/
def reportMarksCard : Claim7 := { stood := { row := reportMarksRow, standIns := [], harness := (true, "57b5909c125495f1b3dfc63e1756a7bd6bc1fdc7917e8ae4337d46bc4812fbcf"), looks := false }, kinds := [], alts := [], laidByText := true, laidKinds := [.data, .data, .data], laidTests := true, laidLooks := .later }
def ReportMarksCardSaid : Prop := Claim7.holds Tryd.pinned (.plain (OpenSpec.ofChange reportMarksSpec)) reportMarksCard

/-- THE TIED CARD OF 'shucklaw19.ReportOutcomes'. -/
def reportOutcomesCard : Claim7 := { stood := { row := reportOutcomesRow, standIns := [], harness := (true, "57b5909c125495f1b3dfc63e1756a7bd6bc1fdc7917e8ae4337d46bc4812fbcf"), looks := false }, kinds := [], alts := [], laidByText := true, laidKinds := [.data, .data, .data], laidTests := true, laidLooks := .later }
def ReportOutcomesCardSaid : Prop := Claim7.holds Tryd.pinned (.plain (OpenSpec.ofChange reportOutcomesSpec)) reportOutcomesCard

/-- THE SECOND FORM's CARD OF 'shucklaw19.ReportOutputs'. -/
def reportOutputsUptoCard : Claim7 := { stood := { row := reportOutputsUptoRow, standIns := [], harness := (true, "57b5909c125495f1b3dfc63e1756a7bd6bc1fdc7917e8ae4337d46bc4812fbcf"), looks := false }, kinds := [], alts := [], laidByText := true, laidKinds := [.data, .data, .data], laidTests := true, laidLooks := .later }
def ReportOutputsUptoCardSaid : Prop := Claim7.holds Tryd.pinned (.plain (OpenSpec.upto reportOutputsSpec)) reportOutputsUptoCard

/-- THE SECOND FORM's CARD OF 'shucklaw19.ReportMarks'. -/
def reportMarksUptoCard : Claim7 := { stood := { row := reportMarksUptoRow, standIns := [], harness := (true, "57b5909c125495f1b3dfc63e1756a7bd6bc1fdc7917e8ae4337d46bc4812fbcf"), looks := false }, kinds := [], alts := [], laidByText := true, laidKinds := [.data, .data, .data], laidTests := true, laidLooks := .later }
def ReportMarksUptoCardSaid : Prop := Claim7.holds Tryd.pinned (.plain (OpenSpec.upto reportMarksSpec)) reportMarksUptoCard

/-- THE SECOND FORM's CARD OF 'shucklaw19.ReportOutcomes'. -/
def reportOutcomesUptoCard : Claim7 := { stood := { row := reportOutcomesUptoRow, standIns := [], harness := (true, "57b5909c125495f1b3dfc63e1756a7bd6bc1fdc7917e8ae4337d46bc4812fbcf"), looks := false }, kinds := [], alts := [], laidByText := true, laidKinds := [.data, .data, .data], laidTests := true, laidLooks := .later }
def ReportOutcomesUptoCardSaid : Prop := Claim7.holds Tryd.pinned (.plain (OpenSpec.upto reportOutcomesSpec)) reportOutcomesUptoCard
end Rows
end Go.Proofs.YtcphkdooemengaaDoor
