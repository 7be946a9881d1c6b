/- Plain: the worlds that stand on a given one. A region that draws its order, whose own operations only read and whose calls only make memory, walked once, in the order of the text. -/
import Derived.Test.YtjaijlkonkgnmaaDoorHBA
import Derived.Deep.QuietTactic
import Derived.BigQuiet
namespace Go.Proofs.YtjaijlkonkgnmaaDoor
set_option linter.unusedVariables false
set_option linter.unusedSimpArgs false
set_option linter.unnecessarySimpa false
open Go.RowKit
/-- A world that stands on wc: all that wc held is as it was. -/
structure Later (wc : World) where
  w : World
  h : Below wc.heap.size wc w
instance (wc : World) : Nonempty (Later wc) := ⟨⟨wc, Below.refl _ _⟩⟩
section
variable {wc : World}
theorem Later.cell (x : Later wc) {b o : Nat} (hb : b < wc.heap.size) : x.w.cell? ⟨b, o, none⟩ = wc.cell? ⟨b, o, none⟩ := x.h.cell (p := ⟨b, o, none⟩) hb
theorem Later.frozen (x : Later wc) {b o : Nat} (hb : b < wc.heap.size) : x.w.frozen? ⟨b, o, none⟩ = wc.frozen? ⟨b, o, none⟩ := x.h.frozen (p := ⟨b, o, none⟩) hb
theorem Later.cellAt (x : Later wc) {a : Addr} (hb : a.block < wc.heap.size) : x.w.cell? a = wc.cell? a := x.h.cell hb
theorem Later.call {P : Program} {f : FuncId} {args : Array Value} {x : Later wc} {v : Value} (h : Calls P f args x.w fun e w' => e = .returned v ∧ Below x.w.heap.size x.w w') :
    Calls P f args x.w fun e w'' => e = .returned v ∧ ∃ y : Later wc, w'' = y.w :=
  h.mono fun _ w' ⟨he, hb⟩ => ⟨he, ⟨w', x.h.trans (hb.mono x.h.size)⟩, rfl⟩
theorem Later.call_same {P : Program} {f : FuncId} {args : Array Value} {x : Later wc} {v : Value} (h : Calls P f args x.w fun e w' => e = .returned v ∧ w' = x.w) :
    Calls P f args x.w fun e w'' => e = .returned v ∧ ∃ y : Later wc, w'' = y.w :=
  h.mono fun _ w' ⟨he, hb⟩ => ⟨he, x, hb⟩
theorem wp_region_later {P : Program} {id : Nat} {Q : Exit → Act → World → Prop} {a : Act} {w : World} {l : List Oper} (wc : World) (hw : Below wc.heap.size wc w) (hm : P.follows .mixedOrders = true) (hB : Region.lexB .any l.toArray = true)
    (h : wpQuiet P l.toArray (fun w' => ∃ x : Later wc, w' = x.w) (fun a' => ∀ w', (∃ x : Later wc, w' = x.w) → Q .normal a' w') l a) : (Code.region id l.toArray true).wp P Q a w :=
  wp_region_quiet (C := fun w' => ∃ x : Later wc, w' = x.w) hm hB ⟨⟨_, hw.drew⟩, rfl⟩ (by simpa using h)
end
end Go.Proofs.YtjaijlkonkgnmaaDoor
