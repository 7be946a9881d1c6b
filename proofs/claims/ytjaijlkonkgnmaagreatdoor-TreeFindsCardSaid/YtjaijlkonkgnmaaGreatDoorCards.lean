/-
  DERIVED. GIVEN WITH THE SEED: THE CARDS: each row of YtjaijlkonkgnmaaGreatDoorRows.lean that lists a variable, with what it lists TIED to the program's text (the seventh form; the later family's looks); each row that meets fmt, with fmt's text TOLD by the authors' own Lean function (tested against real Go, not proved from fmt's source: count such statements apart). THE CARD IS WHAT COUNTS. Prove the row's statement (the work); the ties are given (YtjaijlkonkgnmaaGreatDoorTie.lean); close each card by the builder's one call (the guide's Derived/Test/ToyasCard.lean, 'card_holds'). Laid BY PROGRAM, IN A SANDBOX (cutbox-door.mjs). By AI agents, Wed Nov 11 2026. No macro, syntax, notation, axiom, sorry.
-/
import Derived.Test.YtjaijlkonkgnmaaGreatDoorRows
import GoSem.ClaimSeven
namespace Go.Proofs.YtjaijlkonkgnmaaGreatDoor
namespace Rows

/-- THE TIED CARD OF 'shucklaw3.TreeWalks'. -/
def treeWalksCard : Claim7 := { stood := { row := treeWalksRow, standIns := [], harness := (true, "de5ea2c663ab96efba2ef16c67336da95eccfa7ae1194afcb2c6f828138e5384"), looks := false }, kinds := [], alts := [], laidByText := true, laidKinds := [.data, .pinned], laidTests := true, laidLooks := .later }
def TreeWalksCardSaid : Prop := Claim7.holds Tryz.pinned (.plain (OpenSpec.ofChange treeWalksSpec)) treeWalksCard

/-- THE TIED CARD OF 'shucklaw3.TreeSubs'. -/
def treeSubsCard : Claim7 := { stood := { row := treeSubsRow, standIns := [], harness := (true, "de5ea2c663ab96efba2ef16c67336da95eccfa7ae1194afcb2c6f828138e5384"), looks := false }, kinds := [], alts := [], laidByText := true, laidKinds := [.data, .pinned], laidTests := true, laidLooks := .later }
def TreeSubsCardSaid : Prop := Claim7.holds Tryz.pinned (.plain (OpenSpec.ofChange treeSubsSpec)) treeSubsCard

/-- THE TIED CARD OF 'shucklaw3.TreeFinds'. -/
def treeFindsCard : Claim7 := { stood := { row := treeFindsRow, standIns := [], harness := (true, "de5ea2c663ab96efba2ef16c67336da95eccfa7ae1194afcb2c6f828138e5384"), looks := false }, kinds := [], alts := [], laidByText := true, laidKinds := [.data, .pinned], laidTests := true, laidLooks := .later }
def TreeFindsCardSaid : Prop := Claim7.holds Tryz.pinned (.plain (OpenSpec.ofChange treeFindsSpec)) treeFindsCard

/-- THE SECOND FORM's CARD OF 'shucklaw3.TreeWalks'. -/
def treeWalksUptoCard : Claim7 := { stood := { row := treeWalksUptoRow, standIns := [], harness := (true, "de5ea2c663ab96efba2ef16c67336da95eccfa7ae1194afcb2c6f828138e5384"), looks := false }, kinds := [], alts := [], laidByText := true, laidKinds := [.data, .pinned], laidTests := true, laidLooks := .later }
def TreeWalksUptoCardSaid : Prop := Claim7.holds Tryz.pinned (.plain (OpenSpec.upto treeWalksSpec)) treeWalksUptoCard

/-- THE SECOND FORM's CARD OF 'shucklaw3.TreeSubs'. -/
def treeSubsUptoCard : Claim7 := { stood := { row := treeSubsUptoRow, standIns := [], harness := (true, "de5ea2c663ab96efba2ef16c67336da95eccfa7ae1194afcb2c6f828138e5384"), looks := false }, kinds := [], alts := [], laidByText := true, laidKinds := [.data, .pinned], laidTests := true, laidLooks := .later }
def TreeSubsUptoCardSaid : Prop := Claim7.holds Tryz.pinned (.plain (OpenSpec.upto treeSubsSpec)) treeSubsUptoCard

/-- THE SECOND FORM's CARD OF 'shucklaw3.TreeFinds'. -/
def treeFindsUptoCard : Claim7 := { stood := { row := treeFindsUptoRow, standIns := [], harness := (true, "de5ea2c663ab96efba2ef16c67336da95eccfa7ae1194afcb2c6f828138e5384"), looks := false }, kinds := [], alts := [], laidByText := true, laidKinds := [.data, .pinned], laidTests := true, laidLooks := .later }
def TreeFindsUptoCardSaid : Prop := Claim7.holds Tryz.pinned (.plain (OpenSpec.upto treeFindsSpec)) treeFindsUptoCard
end Rows
end Go.Proofs.YtjaijlkonkgnmaaGreatDoor
