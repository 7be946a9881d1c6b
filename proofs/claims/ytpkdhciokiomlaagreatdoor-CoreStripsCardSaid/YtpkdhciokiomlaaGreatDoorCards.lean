/-
  DERIVED. GIVEN WITH THE SEED: THE CARDS: each row of YtpkdhciokiomlaaGreatDoorRows.lean that lists a variable, with what it lists TIED to the program's text (the seventh form; the later family's looks); each row that meets fmt, with fmt's text TOLD by the authors' own Lean function (tested against real Go, not proved from fmt's source: count such statements apart). THE CARD IS WHAT COUNTS. Prove the row's statement (the work); the ties are given (YtpkdhciokiomlaaGreatDoorTie.lean); close each card by the builder's one call (the guide's Derived/Test/ToyasCard.lean, 'card_holds'). Laid BY PROGRAM, IN A SANDBOX (cutbox-door.mjs). By AI agents, Wed Nov 11 2026. No macro, syntax, notation, axiom, sorry.
-/
import Derived.Test.YtpkdhciokiomlaaGreatDoorRows
import GoSem.ClaimSeven
namespace Go.Proofs.YtpkdhciokiomlaaGreatDoor
namespace Rows

/-- THE TIED CARD OF 'shucklaw5.CoreStrips'. -/
def coreStripsCard : Claim7 := { stood := { row := coreStripsRow, standIns := [], harness := (true, "679fb46c29ae0a3be02aa4a448156715bd238a7b92135f76ad29ada79e0a0110"), looks := false }, kinds := [], alts := [], laidByText := true, laidKinds := [.data, .pinned], laidTests := true, laidLooks := .later }
def CoreStripsCardSaid : Prop := Claim7.holds Tryz.pinned (.plain (OpenSpec.ofChange coreStripsSpec)) coreStripsCard

/-- THE SECOND FORM's CARD OF 'shucklaw5.CoreStrips'. -/
def coreStripsUptoCard : Claim7 := { stood := { row := coreStripsUptoRow, standIns := [], harness := (true, "679fb46c29ae0a3be02aa4a448156715bd238a7b92135f76ad29ada79e0a0110"), looks := false }, kinds := [], alts := [], laidByText := true, laidKinds := [.data, .pinned], laidTests := true, laidLooks := .later }
def CoreStripsUptoCardSaid : Prop := Claim7.holds Tryz.pinned (.plain (OpenSpec.upto coreStripsSpec)) coreStripsUptoCard
end Rows
end Go.Proofs.YtpkdhciokiomlaaGreatDoor
