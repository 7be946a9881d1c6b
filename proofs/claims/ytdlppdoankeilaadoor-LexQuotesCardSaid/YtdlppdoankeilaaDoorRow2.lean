/- Plain: blocks known whole, at a number; rows under a turn of a block that is no cells; a slice cut from a place on. No program in sight. -/
import Derived.Test.YtdlppdoankeilaaDoorRd
import Derived.RangeFuncFrom
namespace Go.Proofs.YtdlppdoankeilaaDoor
set_option linter.unusedVariables false
set_option linter.unusedSimpArgs false
set_option linter.unnecessarySimpa false
open Go.RowKit

theorem below_drewN {B : Nat} {a w : World} (h : Below B a w) (n : Nat) : Below B a (w.drewN n) := ⟨h.os, h.tape, h.output, h.size, h.block⟩
theorem row_new {w : World} {g : Nat} {t : TypeId} {cs : Array Value} (hg : g = w.heap.size) : Row (w.alloc (.cells cs t)) g t cs := by subst hg; exact Row.new w t cs
theorem row_own {g : Nat} {t : TypeId} {cs : Array Value} {W W' : World} {row : Option Nat} (h : Row W g t cs) (hg : W.grownBy W' row) (hr : ∀ r, row = some r → ∃ o : Obj, W.heap[r]? = some o ∧ o.isCells = false) : Row W' g t cs :=
  (hg.block g h.lt (fun e => by
    obtain ⟨o, ho, hc⟩ := hr g e.symm
    unfold Row at h; rw [h] at ho; injection ho with ho; subst ho; cases hc)).trans h
theorem row_put1 {w : World} {g : Nat} {t : TypeId} {x : Value} (h : Row w g t #[x]) (u : Value) : Row (w.setCell ⟨g, 0, none⟩ u) g t #[u] := by
  have := h.put 0 u; simpa using this
theorem run_cut_from {P : Program} {t e : TypeId} (A : Option Addr) {n c f : Nat} (W : World) (ht : P.underlying t = some (.slice e)) (hs : ∀ W, (sizeOf e).run P W = .ok 1 W) (hf : f ≤ n) :
    (Instr.slice t (.slice A n c) (some (.int .i64 (f : Int))) none none).run P W = .ok (.slice (if c = f then A else A.map (·.add f)) (n - f) (c - f)) W := by
  have he : P.elem t = e := by simp [Program.elem, ht]
  have h := run_slice_l (P := P) (w := W) t A n c (by rw [he]; exact ht) .i64 (f : Int) (by omega) (by omega)
  rw [h, he, hs]
  simp [sliced, Result.andThen]
end Go.Proofs.YtdlppdoankeilaaDoor
