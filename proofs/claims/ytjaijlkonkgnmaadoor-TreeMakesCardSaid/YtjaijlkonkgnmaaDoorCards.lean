/-
  DERIVED. GIVEN WITH THE SEED: THE CARDS: each row of YtjaijlkonkgnmaaDoorRows.lean that lists a variable, with what it lists TIED to the program's text (the seventh form; the later family's looks); each row that meets fmt, with fmt's text TOLD by the authors' own Lean function (tested against real Go, not proved from fmt's source: count such statements apart). THE CARD IS WHAT COUNTS. Prove the row's statement (the work); the ties are given (YtjaijlkonkgnmaaDoorTie.lean); close each card by the builder's one call (the guide's Derived/Test/ToyasCard.lean, 'card_holds'). Laid BY PROGRAM, IN A SANDBOX (cutbox-door.mjs). By AI agents, Wed Nov 11 2026. No macro, syntax, notation, axiom, sorry.
-/
import Derived.Test.YtjaijlkonkgnmaaDoorRows
import GoSem.ClaimSeven
namespace Go.Proofs.YtjaijlkonkgnmaaDoor
namespace Rows

/-- THE TIED CARD OF 'shucklaw3.TreeMakes'. -/
def treeMakesCard : Claim7 := { stood := { row := treeMakesRow, standIns := [], harness := (true, "20bcbd223c37717003ca165027d3f0a806c39be97f8a2ede8d4c017c1721eb59"), looks := false }, kinds := [], alts := [], laidByText := true, laidKinds := [.data, .pinned], laidTests := true, laidLooks := .later }
def TreeMakesCardSaid : Prop := Claim7.holds Tryd.pinned (.plain (OpenSpec.ofChange treeMakesSpec)) treeMakesCard

/-- THE TIED CARD OF 'shucklaw3.TreeRoots'. -/
def treeRootsCard : Claim7 := { stood := { row := treeRootsRow, standIns := [], harness := (true, "20bcbd223c37717003ca165027d3f0a806c39be97f8a2ede8d4c017c1721eb59"), looks := false }, kinds := [], alts := [], laidByText := true, laidKinds := [.data, .pinned], laidTests := true, laidLooks := .later }
def TreeRootsCardSaid : Prop := Claim7.holds Tryd.pinned (.plain (OpenSpec.ofChange treeRootsSpec)) treeRootsCard

/-- THE TIED CARD OF 'shucklaw3.TreeDeeper'. -/
def treeDeeperCard : Claim7 := { stood := { row := treeDeeperRow, standIns := [], harness := (true, "20bcbd223c37717003ca165027d3f0a806c39be97f8a2ede8d4c017c1721eb59"), looks := false }, kinds := [], alts := [], laidByText := true, laidKinds := [.data, .pinned], laidTests := true, laidLooks := .later }
def TreeDeeperCardSaid : Prop := Claim7.holds Tryd.pinned (.plain (OpenSpec.ofChange treeDeeperSpec)) treeDeeperCard

/-- THE TIED CARD OF 'shucklaw3.TreeSames'. -/
def treeSamesCard : Claim7 := { stood := { row := treeSamesRow, standIns := [], harness := (true, "20bcbd223c37717003ca165027d3f0a806c39be97f8a2ede8d4c017c1721eb59"), looks := false }, kinds := [], alts := [], laidByText := true, laidKinds := [.data, .pinned], laidTests := true, laidLooks := .later }
def TreeSamesCardSaid : Prop := Claim7.holds Tryd.pinned (.plain (OpenSpec.ofChange treeSamesSpec)) treeSamesCard

/-- THE TIED CARD OF 'shucklaw3.TreeRounds'. -/
def treeRoundsCard : Claim7 := { stood := { row := treeRoundsRow, standIns := [], harness := (true, "20bcbd223c37717003ca165027d3f0a806c39be97f8a2ede8d4c017c1721eb59"), looks := false }, kinds := [], alts := [], laidByText := true, laidKinds := [.data, .pinned], laidTests := true, laidLooks := .later }
def TreeRoundsCardSaid : Prop := Claim7.holds Tryd.pinned (.plain (OpenSpec.ofChange treeRoundsSpec)) treeRoundsCard

/-- THE SECOND FORM's CARD OF 'shucklaw3.TreeMakes'. -/
def treeMakesUptoCard : Claim7 := { stood := { row := treeMakesUptoRow, standIns := [], harness := (true, "20bcbd223c37717003ca165027d3f0a806c39be97f8a2ede8d4c017c1721eb59"), looks := false }, kinds := [], alts := [], laidByText := true, laidKinds := [.data, .pinned], laidTests := true, laidLooks := .later }
def TreeMakesUptoCardSaid : Prop := Claim7.holds Tryd.pinned (.plain (OpenSpec.upto treeMakesSpec)) treeMakesUptoCard

/-- THE SECOND FORM's CARD OF 'shucklaw3.TreeRoots'. -/
def treeRootsUptoCard : Claim7 := { stood := { row := treeRootsUptoRow, standIns := [], harness := (true, "20bcbd223c37717003ca165027d3f0a806c39be97f8a2ede8d4c017c1721eb59"), looks := false }, kinds := [], alts := [], laidByText := true, laidKinds := [.data, .pinned], laidTests := true, laidLooks := .later }
def TreeRootsUptoCardSaid : Prop := Claim7.holds Tryd.pinned (.plain (OpenSpec.upto treeRootsSpec)) treeRootsUptoCard

/-- THE SECOND FORM's CARD OF 'shucklaw3.TreeDeeper'. -/
def treeDeeperUptoCard : Claim7 := { stood := { row := treeDeeperUptoRow, standIns := [], harness := (true, "20bcbd223c37717003ca165027d3f0a806c39be97f8a2ede8d4c017c1721eb59"), looks := false }, kinds := [], alts := [], laidByText := true, laidKinds := [.data, .pinned], laidTests := true, laidLooks := .later }
def TreeDeeperUptoCardSaid : Prop := Claim7.holds Tryd.pinned (.plain (OpenSpec.upto treeDeeperSpec)) treeDeeperUptoCard

/-- THE SECOND FORM's CARD OF 'shucklaw3.TreeSames'. -/
def treeSamesUptoCard : Claim7 := { stood := { row := treeSamesUptoRow, standIns := [], harness := (true, "20bcbd223c37717003ca165027d3f0a806c39be97f8a2ede8d4c017c1721eb59"), looks := false }, kinds := [], alts := [], laidByText := true, laidKinds := [.data, .pinned], laidTests := true, laidLooks := .later }
def TreeSamesUptoCardSaid : Prop := Claim7.holds Tryd.pinned (.plain (OpenSpec.upto treeSamesSpec)) treeSamesUptoCard

/-- THE SECOND FORM's CARD OF 'shucklaw3.TreeRounds'. -/
def treeRoundsUptoCard : Claim7 := { stood := { row := treeRoundsUptoRow, standIns := [], harness := (true, "20bcbd223c37717003ca165027d3f0a806c39be97f8a2ede8d4c017c1721eb59"), looks := false }, kinds := [], alts := [], laidByText := true, laidKinds := [.data, .pinned], laidTests := true, laidLooks := .later }
def TreeRoundsUptoCardSaid : Prop := Claim7.holds Tryd.pinned (.plain (OpenSpec.upto treeRoundsSpec)) treeRoundsUptoCard
end Rows
end Go.Proofs.YtjaijlkonkgnmaaDoor
