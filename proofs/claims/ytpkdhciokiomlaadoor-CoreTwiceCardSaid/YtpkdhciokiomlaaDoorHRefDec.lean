/- The walks of chapter 1's reference: cont, Decode (for other chapters). -/
import Derived.Test.YtpkdhciokiomlaaDoorHBZ2
import Derived.Test.YtpkdhciokiomlaaDoorProg
import Derived.WalkKit
import Derived.WalkSpells
import Derived.WalkLawsBesides
import Derived.Outline
import Derived.LoopTactic
namespace Go.Proofs.YtpkdhciokiomlaaDoor
set_option linter.unusedVariables false
set_option linter.unusedSimpArgs false
set_option linter.unnecessarySimpa false
open Go.RowKit
attribute [local go_sem] cell_alloc_add cell_set_add lt_more

theorem cell_off {w : World} {ad : Addr} {j : Nat} {u : Option Value} (h : w.cell? (ad.add j) = u) (hj : j ≠ 0) : w.cell? ⟨ad.block, ad.off + j, none⟩ = u := by
  rw [← h]; unfold Addr.add; rw [if_neg hj]
def contB (s : ByteArray) (i : Nat) : Bool := decide (i < s.size) && decide (128 ≤ bt s i) && decide (bt s i ≤ 191)
end Go.Proofs.YtpkdhciokiomlaaDoor
