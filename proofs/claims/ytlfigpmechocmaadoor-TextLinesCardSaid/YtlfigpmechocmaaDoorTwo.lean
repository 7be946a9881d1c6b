/- Plain: two rows that a call owns, of two element types. No program in sight. -/
import Derived.Test.YtlfigpmechocmaaDoorOwn
import Derived.Test.YtlfigpmechocmaaDoorUtf
import Derived.Lib.OthersKept
import Derived.OneCell
import Derived.WalkSmall
namespace Go.Proofs.YtlfigpmechocmaaDoor
set_option linter.unusedVariables false
set_option linter.unusedSimpArgs false
set_option linter.unnecessarySimpa false
open Go.RowKit
theorem own_grown {w w' : World} {base : Nat} {e : TypeId} {size n : Nat} {v : Value} {xs : List Value} {row : Option Nat} (h : w.ownsRow base e size v n xs) (hg : w.grownBy w' row) (hne : ∀ g, v.ownBlock = some g → row ≠ some g) : w'.ownsRow base e size v n xs := by
  refine ⟨h.1, ?_⟩
  rcases h.2 with h0 | ⟨g, cap, cur, rfl, hb, hh, hr⟩
  · exact .inl h0
  · have hlt : g < w.heap.size := (Array.getElem?_eq_some_iff.1 hh).1
    exact .inr ⟨g, cap, cur, rfl, hb, (hg.block g hlt (fun e => hne g rfl e.symm)).trans hh, hr⟩
theorem own_type {w : World} {base : Nat} {e : TypeId} {size n : Nat} {v : Value} {xs : List Value} (h : w.ownsRow base e size v n xs) {g : Nat} (hv : v.ownBlock = some g) : ∃ cur fr, w.heap[g]? = some (.cells cur e fr) := by
  rcases h.2 with ⟨rfl, _⟩ | ⟨g', cap, cur, rfl, hb, hh, hr⟩
  · simp [Value.ownBlock] at hv
  · simp [Value.ownBlock] at hv; subst hv; exact ⟨_, _, hh⟩
theorem own_two {w : World} {b b' : Nat} {e e' : TypeId} {size size' n n' : Nat} {v v' : Value} {xs xs' : List Value} (h : w.ownsRow b e size v n xs) (h' : w.ownsRow b' e' size' v' n' xs') (hne : e ≠ e') : ∀ g, v'.ownBlock = some g → v.ownBlock ≠ some g := fun g hv' hv => by
  obtain ⟨_, _, h1⟩ := own_type h hv
  obtain ⟨_, _, h2⟩ := own_type h' hv'
  rw [h1] at h2; injection h2 with h2; injection h2 with _ h2 _; exact hne h2
theorem iter_grown {w w' : World} {row : Option Nat} {k : Nat} {o : Obj} (h : w.heap[k]? = some o) (hg : w.grownBy w' row) (hne : row ≠ some k) : w'.heap[k]? = some o :=
  (hg.block k (Array.getElem?_eq_some_iff.1 h).1 (fun e => hne e.symm)).trans h
theorem cell_grown {w w' : World} {row : Option Nat} {g : Nat} {v : Value} (h : w.cell? ⟨g, 0, none⟩ = some v) (hg : w.grownBy w' row) (hne : row ≠ some g) : w'.cell? ⟨g, 0, none⟩ = some v := by
  have hlt : g < w.heap.size := by
    rcases Nat.lt_or_ge g w.heap.size with h1 | h1
    · exact h1
    · simp [World.cell?, Array.getElem?_eq_none h1] at h
  exact (World.cell?_of_block (hg.block g hlt (fun e => hne e.symm))).trans h
/-- The rows of what is told of the runes at these places. -/
def atC (l : List Nat) : List Value := l.map fun (p : Nat) => .int .i64 (p : Int)
def runeC (s : ByteArray) (l : List Nat) : List Value := l.map fun (p : Nat) => .int .i32 (rn s p : Int)
theorem atC_snoc (l : List Nat) (p : Nat) : atC (l ++ [p]) = atC l ++ [.int .i64 (p : Int)] := by simp [atC]
theorem runeC_snoc (s : ByteArray) (l : List Nat) (p : Nat) : runeC s (l ++ [p]) = runeC s l ++ [.int .i32 (rn s p : Int)] := by simp [runeC]
end Go.Proofs.YtlfigpmechocmaaDoor
