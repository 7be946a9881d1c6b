/- Plain: a slice that reads as a row of values, nil let in; what keeps it. No program in sight. -/
import Derived.Test.YtdlppdoankeilaaDoorMem
import Derived.Below
import Derived.Laws.OwnMore
import Derived.Deep.AppendLies
import Derived.Deep.Draws
namespace Go.Proofs.YtdlppdoankeilaaDoor
set_option linter.unusedVariables false
set_option linter.unusedSimpArgs false
set_option linter.unnecessarySimpa false
open Go.RowKit

theorem block_add (a : Addr) (n : Nat) : (a.add n).block = a.block := by unfold Addr.add; split <;> rfl
theorem add_add (a : Addr) (i j : Nat) : (a.add i).add j = a.add (i + j) := by
  unfold Addr.add
  by_cases hi : i = 0 <;> by_cases hj : j = 0 <;> simp [hi, hj, Nat.add_assoc]
theorem add_zero (a : Addr) : a.add 0 = a := by unfold Addr.add; simp
theorem add_row (g i j : Nat) : (⟨g, i, none⟩ : Addr).add j = ⟨g, i + j, none⟩ := by unfold Addr.add; split <;> simp_all

/-- The slice of n elements of one cell each, at A, reads as f 0, f 1 ..; its block lies below B. -/
def Rd (w : World) (B : Nat) (A : Option Addr) (n : Nat) (f : Nat → Value) : Prop := ∀ j, j < n → ∃ ad, A = some ad ∧ ad.block < B ∧ w.cell? (ad.add j) = some (f j)

section
variable {w w' : World} {B B' n : Nat} {A : Option Addr} {f : Nat → Value}
theorem Rd.keep (h : Rd w B A n f) (hk : ∀ p : Addr, p.block < B → w'.cell? p = w.cell? p) : Rd w' B A n f := fun j hj => by
  obtain ⟨ad, e, hb, hc⟩ := h j hj
  exact ⟨ad, e, hb, (hk _ (by rw [block_add]; exact hb)).trans hc⟩
theorem Rd.more (h : Rd w B A n f) (hB : B ≤ B') : Rd w B' A n f := fun j hj => by
  obtain ⟨ad, e, hb, hc⟩ := h j hj
  exact ⟨ad, e, by omega, hc⟩
theorem Rd.below (h : Rd w B A n f) (hb : Below B w w') : Rd w' B A n f := h.keep fun _ hp => hb.cell hp
theorem Rd.drew (h : Rd w B A n f) : Rd w.drew B A n f := h
theorem Rd.drewN (h : Rd w B A n f) (k : Nat) : Rd (w.drewN k) B A n f := h
theorem Rd.alloc (h : Rd w B A n f) (hB : B ≤ w.heap.size) (o : Obj) : Rd (w.alloc o) B A n f := h.keep fun p hp => World.cell?_alloc_lt w o p (by omega)
theorem Rd.setCell (h : Rd w B A n f) {p : Addr} (hB : B ≤ p.block) (u : Value) : Rd (w.setCell p u) B A n f :=
  h.keep fun q hq => World.cell?_setCell_other w p q u (fun e => by subst e; omega)
theorem Rd.grown (h : Rd w B A n f) {row : Option Nat} (hg : w.grownBy w' row) (hB : B ≤ w.heap.size) (hr : ∀ g, row = some g → B ≤ g) : Rd w' B A n f :=
  h.keep fun p hp => World.cell?_of_block (hg.block p.block (by omega) (fun e => by have := hr _ e.symm; omega))
theorem Rd.part {m : Nat} (h : Rd w B A n f) (hm : m ≤ n) : Rd w B A m f := fun j hj => h j (by omega)
theorem Rd.cut (h : Rd w B A n f) {k m cap : Nat} (hk : k + m ≤ n) (hc : n ≤ cap) : Rd w B (if cap = k then A else A.map (·.add k)) m (fun j => f (k + j)) := fun j hj => by
  obtain ⟨ad, e, hb, hcell⟩ := h (k + j) (by omega)
  subst e
  rw [if_neg (by omega)]
  exact ⟨ad.add k, rfl, by rw [block_add]; exact hb, by rw [add_add]; exact hcell⟩
theorem Rd.congr (h : Rd w B A n f) {g : Nat → Value} (hg : ∀ j, j < n → f j = g j) : Rd w B A n g := fun j hj => by
  obtain ⟨ad, e, hb, hc⟩ := h j hj
  exact ⟨ad, e, hb, by rw [hc, hg j hj]⟩
theorem Rd.none_ : Rd w B A 0 f := fun j hj => absurd hj (by omega)
/-- The cells, once the address is known. -/
theorem Rd.at_ (h : Rd w B A n f) {ad : Addr} (e : A = some ad) {j : Nat} (hj : j < n) : w.cell? (ad.add j) = some (f j) := by
  obtain ⟨ad', e', _, hc⟩ := h j hj
  rw [e] at e'; injection e' with e'; subst e'; exact hc
theorem Rd.addr (h : Rd w B A n f) (hn : 0 < n) : ∃ ad, A = some ad ∧ ad.block < B := by
  obtain ⟨ad, e, hb, _⟩ := h 0 hn
  exact ⟨ad, e, hb⟩
theorem Rd.of_own {base : Nat} {e : TypeId} {c : Nat} {xs : List Value} (h : w.ownsRow base e 1 (.slice A n c) n xs) (hf : ∀ j, j < n → xs[j]? = some (f j)) : Rd w w.heap.size A n f := fun j hj => by
  obtain ⟨g, cap, hv, _, hlt⟩ := h.form (by omega)
  have hA : A = some ⟨g, 0, none⟩ := by injection hv
  subst hA
  exact ⟨_, rfl, hlt, h.cells (g := g) rfl j _ (hf j hj)⟩
end

/-! ### rules for the walk: an old slice's cells, behind new blocks and stores into them -/
theorem cell_alloc_add (w : World) (o : Obj) (a : Addr) (i : Nat) (h : a.block < w.heap.size) : (w.alloc o).cell? (a.add i) = w.cell? (a.add i) := World.cell?_alloc_lt w o _ (by rw [block_add]; exact h)
theorem cell_set_add (w : World) (a : Addr) (i n k : Nat) (v : Value) (h : a.block < n) : (w.setCell ⟨n, k, none⟩ v).cell? (a.add i) = w.cell? (a.add i) :=
  World.cell?_setCell_other w _ _ v (fun e => by have := congrArg Addr.block e; rw [block_add] at this; simp at this; omega)
theorem lt_more {a b : Nat} (k : Nat) (h : a < b) : (a < b + k) = True := by simp; omega
end Go.Proofs.YtdlppdoankeilaaDoor
