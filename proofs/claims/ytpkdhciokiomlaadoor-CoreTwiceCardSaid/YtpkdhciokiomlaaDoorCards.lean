/-
  DERIVED. GIVEN WITH THE SEED: THE CARDS: each row of YtpkdhciokiomlaaDoorRows.lean that lists a variable, with what it lists TIED to the program's text (the seventh form; the later family's looks); each row that meets fmt, with fmt's text TOLD by the authors' own Lean function (tested against real Go, not proved from fmt's source: count such statements apart). THE CARD IS WHAT COUNTS. Prove the row's statement (the work); the ties are given (YtpkdhciokiomlaaDoorTie.lean); close each card by the builder's one call (the guide's Derived/Test/ToyasCard.lean, 'card_holds'). Laid BY PROGRAM, IN A SANDBOX (cutbox-door.mjs). By AI agents, Wed Nov 11 2026. No macro, syntax, notation, axiom, sorry.
-/
import Derived.Test.YtpkdhciokiomlaaDoorRows
import GoSem.ClaimSeven
namespace Go.Proofs.YtpkdhciokiomlaaDoor
namespace Rows

/-- THE TIED CARD OF 'shucklaw5.CoreTwice'. -/
def coreTwiceCard : Claim7 := { stood := { row := coreTwiceRow, standIns := [], harness := (true, "31278729bc6256d59ec760a27172dc34283e74d217dc0aabd1b83602ac868b30"), looks := false }, kinds := [], alts := [], laidByText := true, laidKinds := [.data, .pinned], laidTests := true, laidLooks := .later }
def CoreTwiceCardSaid : Prop := Claim7.holds Tryd.pinned (.plain (OpenSpec.ofChange coreTwiceSpec)) coreTwiceCard

/-- THE SECOND FORM's CARD OF 'shucklaw5.CoreTwice'. -/
def coreTwiceUptoCard : Claim7 := { stood := { row := coreTwiceUptoRow, standIns := [], harness := (true, "31278729bc6256d59ec760a27172dc34283e74d217dc0aabd1b83602ac868b30"), looks := false }, kinds := [], alts := [], laidByText := true, laidKinds := [.data, .pinned], laidTests := true, laidLooks := .later }
def CoreTwiceUptoCardSaid : Prop := Claim7.holds Tryd.pinned (.plain (OpenSpec.upto coreTwiceSpec)) coreTwiceUptoCard
end Rows
end Go.Proofs.YtpkdhciokiomlaaDoor
