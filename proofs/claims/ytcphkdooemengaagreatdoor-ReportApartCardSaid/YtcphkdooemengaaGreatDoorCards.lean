/-
  DERIVED. GIVEN WITH THE SEED: THE CARDS: each row of YtcphkdooemengaaGreatDoorRows.lean that lists a variable, with what it lists TIED to the program's text (the seventh form; the later family's looks); each row that meets fmt, with fmt's text TOLD by the authors' own Lean function (tested against real Go, not proved from fmt's source: count such statements apart). THE CARD IS WHAT COUNTS. Prove the row's statement (the work); the ties are given (YtcphkdooemengaaGreatDoorTie.lean); close each card by the builder's one call (the guide's Derived/Test/ToyasCard.lean, 'card_holds'). Laid BY PROGRAM, IN A SANDBOX (cutbox-door.mjs). By AI agents, Wed Nov 11 2026. No macro, syntax, notation, axiom, sorry.
-/
import Derived.Test.YtcphkdooemengaaGreatDoorRows
import GoSem.ClaimSeven
namespace Go.Proofs.YtcphkdooemengaaGreatDoor
namespace Rows

/-- THE TIED CARD OF 'shucklaw19.ReportTrees'. -/
def reportTreesCard : Claim7 := { stood := { row := reportTreesRow, standIns := [], harness := (true, "68b6d26bf371b321ebe8cd5d67d13196b570756ae61929490f2fb078215aa203"), looks := false }, kinds := [], alts := [], laidByText := true, laidKinds := [.data, .data, .data, .data, .pinned], laidTests := true, laidLooks := .later }
def ReportTreesCardSaid : Prop := Claim7.holds Tryz.pinned (.plain (OpenSpec.ofChange reportTreesSpec)) reportTreesCard

/-- THE TIED CARD OF 'shucklaw19.ReportApart'. -/
def reportApartCard : Claim7 := { stood := { row := reportApartRow, standIns := [], harness := (true, "68b6d26bf371b321ebe8cd5d67d13196b570756ae61929490f2fb078215aa203"), looks := false }, kinds := [], alts := [], laidByText := true, laidKinds := [.data, .data, .data, .data, .pinned], laidTests := true, laidLooks := .later }
def ReportApartCardSaid : Prop := Claim7.holds Tryz.pinned (.plain (OpenSpec.ofChange reportApartSpec)) reportApartCard

/-- THE SECOND FORM's CARD OF 'shucklaw19.ReportTrees'. -/
def reportTreesUptoCard : Claim7 := { stood := { row := reportTreesUptoRow, standIns := [], harness := (true, "68b6d26bf371b321ebe8cd5d67d13196b570756ae61929490f2fb078215aa203"), looks := false }, kinds := [], alts := [], laidByText := true, laidKinds := [.data, .data, .data, .data, .pinned], laidTests := true, laidLooks := .later }
def ReportTreesUptoCardSaid : Prop := Claim7.holds Tryz.pinned (.plain (OpenSpec.upto reportTreesSpec)) reportTreesUptoCard

/-- THE SECOND FORM's CARD OF 'shucklaw19.ReportApart'. -/
def reportApartUptoCard : Claim7 := { stood := { row := reportApartUptoRow, standIns := [], harness := (true, "68b6d26bf371b321ebe8cd5d67d13196b570756ae61929490f2fb078215aa203"), looks := false }, kinds := [], alts := [], laidByText := true, laidKinds := [.data, .data, .data, .data, .pinned], laidTests := true, laidLooks := .later }
def ReportApartUptoCardSaid : Prop := Claim7.holds Tryz.pinned (.plain (OpenSpec.upto reportApartSpec)) reportApartUptoCard
end Rows
end Go.Proofs.YtcphkdooemengaaGreatDoor
