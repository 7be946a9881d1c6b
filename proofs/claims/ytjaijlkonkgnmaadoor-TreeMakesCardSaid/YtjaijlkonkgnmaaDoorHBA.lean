/- Some texts of this claim, put together. -/
import Derived.WalkKit
import Derived.WalkSmall
import Derived.Lib.Hide
import Derived.Below
import Derived.Laws.OwnMore
import Derived.Deep.AppendLies
import Derived.Deep.Draws
import Derived.RangeFuncFrom
import Derived.Maps.AppendAt
import Derived.RegionTactic
import Derived.OwnWalk
import Derived.Lib.DecodeN
import Derived.Lib.RuneBytes
import Derived.Laws.BitsAllLaws
import Derived.Laws.IdiomStrings
import Derived.Laws.BytesArg
import Derived.Laws.AppendOwn
import Derived.Lib.IndexMore
import Derived.Lib.OthersKept
import Derived.OneCell
namespace Go.Proofs.YtjaijlkonkgnmaaDoor
section
set_option linter.unusedVariables false
set_option linter.unusedSimpArgs false
set_option linter.unnecessarySimpa false
open Go.RowKit

theorem bcell {B : Nat} {W w1 : World} (hb : Below B W w1) : (∀ b o, b < B → w1.cell? ⟨b, o, none⟩ = W.cell? ⟨b, o, none⟩) ∧ (∀ b o, b < B → w1.frozen? ⟨b, o, none⟩ = W.frozen? ⟨b, o, none⟩) :=
  ⟨fun b o h => hb.cell (p := ⟨b, o, none⟩) h, fun b o h => hb.frozen (p := ⟨b, o, none⟩) h⟩

/-- Block g is just these cells, of type t, and may be written. -/
def Row (w : World) (g : Nat) (t : TypeId) (cs : Array Value) : Prop := w.heap[g]? = some (.cells cs t (0, 0))

section
variable {w w' : World} {g : Nat} {t : TypeId} {cs : Array Value}
theorem Row.lt (h : Row w g t cs) : g < w.heap.size := by
  rcases Nat.lt_or_ge g w.heap.size with hl | hg
  · exact hl
  · unfold Row at h; rw [Array.getElem?_eq_none hg] at h; cases h
theorem Row.cell (h : Row w g t cs) (i : Nat) : w.cell? ⟨g, i, none⟩ = cs[i]? := cell_of_row w g i cs t (0, 0) h
theorem Row.free (h : Row w g t cs) (i : Nat) : w.frozen? ⟨g, i, none⟩ = false := by unfold Row at h; simp [World.frozen?, h]
theorem Row.new (w : World) (t : TypeId) (cs : Array Value) : Row (w.alloc (.cells cs t)) w.heap.size t cs := by
  unfold Row; show (w.heap.push _)[w.heap.size]? = _; rw [Array.getElem?_push_size]
theorem Row.drew (h : Row w g t cs) : Row w.drew g t cs := h
theorem Row.drewN (h : Row w g t cs) (n : Nat) : Row (w.drewN n) g t cs := h
theorem Row.alloc (h : Row w g t cs) (o : Obj) : Row (w.alloc o) g t cs := (Below.heap_alloc w o g h.lt).trans h
theorem Row.put (h : Row w g t cs) (i : Nat) (u : Value) : Row (w.setCell ⟨g, i, none⟩ u) g t (cs.setIfInBounds i u) := by
  unfold Row at h ⊢; simp [World.setCell, Array.getElem?_modify, h]
theorem Row.far (h : Row w g t cs) {p : Addr} (hp : g ≠ p.block) (u : Value) : Row (w.setCell p u) g t cs := (Below.heap_setCell w p u g hp).trans h
theorem Row.below {B : Nat} (h : Row w g t cs) (hb : Below B w w') (hg : g < B) : Row w' g t cs := (hb.block g hg).trans h
/-- Three cells written, one behind the other. -/
theorem Row.put3 {x y z a b c : Value} (h : Row w g t #[x, y, z]) : Row (((w.setCell ⟨g, 0, none⟩ a).setCell ⟨g, 1, none⟩ b).setCell ⟨g, 2, none⟩ c) g t #[a, b, c] := by
  have := ((h.put 0 a).put 1 b).put 2 c; simpa using this
end
theorem ret_bool {a b : Bool} (h : a = b) : Ending.returned (.bool a) = .returned (.bool b) := by rw [h]
theorem ret_int {k : IntKind} {a b : Int} (h : a = b) : Ending.returned (.int k a) = .returned (.int k b) := by rw [h]
theorem ret_str {a b : ByteArray} (h : a = b) : Ending.returned (.string a) = .returned (.string b) := by rw [h]
theorem ret_ints {k j : IntKind} {a b c d : Int} (h : a = b) (h' : c = d) : Ending.returned (.tuple #[.int k a, .int j c]) = .returned (.tuple #[.int k b, .int j d]) := by rw [h, h']
theorem ret_iib {k j : IntKind} {a b c d : Int} {x y : Bool} (h : a = b) (h' : c = d) (h'' : x = y) : Ending.returned (.tuple #[.int k a, .int j c, .bool x]) = .returned (.tuple #[.int k b, .int j d, .bool y]) := by rw [h, h', h'']
theorem ret_row {k j m : IntKind} {a b c d u v : Int} {x y : Bool} (h0 : u = v) (h : a = b) (h' : c = d) (h'' : x = y) : Ending.returned (.agg #[.int m u, .int k a, .int j c, .bool x]) = .returned (.agg #[.int m v, .int k b, .int j d, .bool y]) := by rw [h0, h, h', h'']
end
section
set_option linter.unusedVariables false
set_option linter.unusedSimpArgs false
set_option linter.unnecessarySimpa false
open Go.RowKit

theorem block_add (a : Addr) (n : Nat) : (a.add n).block = a.block := by unfold Addr.add; split <;> rfl
theorem add_add (a : Addr) (i j : Nat) : (a.add i).add j = a.add (i + j) := by
  unfold Addr.add
  by_cases hi : i = 0 <;> by_cases hj : j = 0 <;> simp [hi, hj, Nat.add_assoc]
theorem add_zero (a : Addr) : a.add 0 = a := by unfold Addr.add; simp
theorem add_row (g i j : Nat) : (⟨g, i, none⟩ : Addr).add j = ⟨g, i + j, none⟩ := by unfold Addr.add; split <;> simp_all

/-- The slice of n elements of one cell each, at A, reads as f 0, f 1 ..; its block lies below B. -/
def Rd (w : World) (B : Nat) (A : Option Addr) (n : Nat) (f : Nat → Value) : Prop := ∀ j, j < n → ∃ ad, A = some ad ∧ ad.block < B ∧ w.cell? (ad.add j) = some (f j)

section
variable {w w' : World} {B B' n : Nat} {A : Option Addr} {f : Nat → Value}
theorem Rd.keep (h : Rd w B A n f) (hk : ∀ p : Addr, p.block < B → w'.cell? p = w.cell? p) : Rd w' B A n f := fun j hj => by
  obtain ⟨ad, e, hb, hc⟩ := h j hj
  exact ⟨ad, e, hb, (hk _ (by rw [block_add]; exact hb)).trans hc⟩
theorem Rd.more (h : Rd w B A n f) (hB : B ≤ B') : Rd w B' A n f := fun j hj => by
  obtain ⟨ad, e, hb, hc⟩ := h j hj
  exact ⟨ad, e, by omega, hc⟩
theorem Rd.below (h : Rd w B A n f) (hb : Below B w w') : Rd w' B A n f := h.keep fun _ hp => hb.cell hp
theorem Rd.drew (h : Rd w B A n f) : Rd w.drew B A n f := h
theorem Rd.drewN (h : Rd w B A n f) (k : Nat) : Rd (w.drewN k) B A n f := h
theorem Rd.alloc (h : Rd w B A n f) (hB : B ≤ w.heap.size) (o : Obj) : Rd (w.alloc o) B A n f := h.keep fun p hp => World.cell?_alloc_lt w o p (by omega)
theorem Rd.setCell (h : Rd w B A n f) {p : Addr} (hB : B ≤ p.block) (u : Value) : Rd (w.setCell p u) B A n f :=
  h.keep fun q hq => World.cell?_setCell_other w p q u (fun e => by subst e; omega)
theorem Rd.grown (h : Rd w B A n f) {row : Option Nat} (hg : w.grownBy w' row) (hB : B ≤ w.heap.size) (hr : ∀ g, row = some g → B ≤ g) : Rd w' B A n f :=
  h.keep fun p hp => World.cell?_of_block (hg.block p.block (by omega) (fun e => by have := hr _ e.symm; omega))
theorem Rd.part {m : Nat} (h : Rd w B A n f) (hm : m ≤ n) : Rd w B A m f := fun j hj => h j (by omega)
theorem Rd.cut (h : Rd w B A n f) {k m cap : Nat} (hk : k + m ≤ n) (hc : n ≤ cap) : Rd w B (if cap = k then A else A.map (·.add k)) m (fun j => f (k + j)) := fun j hj => by
  obtain ⟨ad, e, hb, hcell⟩ := h (k + j) (by omega)
  subst e
  rw [if_neg (by omega)]
  exact ⟨ad.add k, rfl, by rw [block_add]; exact hb, by rw [add_add]; exact hcell⟩
theorem Rd.congr (h : Rd w B A n f) {g : Nat → Value} (hg : ∀ j, j < n → f j = g j) : Rd w B A n g := fun j hj => by
  obtain ⟨ad, e, hb, hc⟩ := h j hj
  exact ⟨ad, e, hb, by rw [hc, hg j hj]⟩
theorem Rd.none_ : Rd w B A 0 f := fun j hj => absurd hj (by omega)
/-- The cells, once the address is known. -/
theorem Rd.at_ (h : Rd w B A n f) {ad : Addr} (e : A = some ad) {j : Nat} (hj : j < n) : w.cell? (ad.add j) = some (f j) := by
  obtain ⟨ad', e', _, hc⟩ := h j hj
  rw [e] at e'; injection e' with e'; subst e'; exact hc
theorem Rd.addr (h : Rd w B A n f) (hn : 0 < n) : ∃ ad, A = some ad ∧ ad.block < B := by
  obtain ⟨ad, e, hb, _⟩ := h 0 hn
  exact ⟨ad, e, hb⟩
theorem Rd.of_own {base : Nat} {e : TypeId} {c : Nat} {xs : List Value} (h : w.ownsRow base e 1 (.slice A n c) n xs) (hf : ∀ j, j < n → xs[j]? = some (f j)) : Rd w w.heap.size A n f := fun j hj => by
  obtain ⟨g, cap, hv, _, hlt⟩ := h.form (by omega)
  have hA : A = some ⟨g, 0, none⟩ := by injection hv
  subst hA
  exact ⟨_, rfl, hlt, h.cells (g := g) rfl j _ (hf j hj)⟩
end

/-! ### rules for the walk: an old slice's cells, behind new blocks and stores into them -/
theorem cell_alloc_add (w : World) (o : Obj) (a : Addr) (i : Nat) (h : a.block < w.heap.size) : (w.alloc o).cell? (a.add i) = w.cell? (a.add i) := World.cell?_alloc_lt w o _ (by rw [block_add]; exact h)
theorem cell_set_add (w : World) (a : Addr) (i n k : Nat) (v : Value) (h : a.block < n) : (w.setCell ⟨n, k, none⟩ v).cell? (a.add i) = w.cell? (a.add i) :=
  World.cell?_setCell_other w _ _ v (fun e => by have := congrArg Addr.block e; rw [block_add] at this; simp at this; omega)
theorem lt_more {a b : Nat} (k : Nat) (h : a < b) : (a < b + k) = True := by simp; omega
end
section
set_option linter.unusedVariables false
set_option linter.unusedSimpArgs false
set_option linter.unnecessarySimpa false
open Go.RowKit

theorem below_drewN {B : Nat} {a w : World} (h : Below B a w) (n : Nat) : Below B a (w.drewN n) := ⟨h.os, h.tape, h.output, h.size, h.block⟩
theorem row_new {w : World} {g : Nat} {t : TypeId} {cs : Array Value} (hg : g = w.heap.size) : Row (w.alloc (.cells cs t)) g t cs := by subst hg; exact Row.new w t cs
theorem row_own {g : Nat} {t : TypeId} {cs : Array Value} {W W' : World} {row : Option Nat} (h : Row W g t cs) (hg : W.grownBy W' row) (hr : ∀ r, row = some r → ∃ o : Obj, W.heap[r]? = some o ∧ o.isCells = false) : Row W' g t cs :=
  (hg.block g h.lt (fun e => by
    obtain ⟨o, ho, hc⟩ := hr g e.symm
    unfold Row at h; rw [h] at ho; injection ho with ho; subst ho; cases hc)).trans h
theorem row_put1 {w : World} {g : Nat} {t : TypeId} {x : Value} (h : Row w g t #[x]) (u : Value) : Row (w.setCell ⟨g, 0, none⟩ u) g t #[u] := by
  have := h.put 0 u; simpa using this
theorem run_cut_from {P : Program} {t e : TypeId} (A : Option Addr) {n c f : Nat} (W : World) (ht : P.underlying t = some (.slice e)) (hs : ∀ W, (sizeOf e).run P W = .ok 1 W) (hf : f ≤ n) :
    (Instr.slice t (.slice A n c) (some (.int .i64 (f : Int))) none none).run P W = .ok (.slice (if c = f then A else A.map (·.add f)) (n - f) (c - f)) W := by
  have he : P.elem t = e := by simp [Program.elem, ht]
  have h := run_slice_l (P := P) (w := W) t A n c (by rw [he]; exact ht) .i64 (f : Int) (by omega) (by omega)
  rw [h, he, hs]
  simp [sliced, Result.andThen]
end
section
set_option linter.unusedVariables false
set_option linter.unusedSimpArgs false
set_option linter.unnecessarySimpa false
open Go.RowKit

/-- The first m values of a reading. -/
def firsts (f : Nat → Value) (m : Nat) : List Value := (List.range m).map f
theorem firsts_len (f : Nat → Value) (m : Nat) : (firsts f m).length = m := by simp [firsts]
theorem firsts_at {f : Nat → Value} {m j : Nat} (h : j < m) : (firsts f m)[j]? = some (f j) := by simp [firsts, h]
section
variable {P : Program} (w : World)
theorem run_append_nil (base : Nat) (t ty e : TypeId) (i : TypeInfo) (size : Nat) (ht : P.underlying t = some (.slice e)) (hi : P.info? e = some i)
    (v : Value) (n : Nat) (xs : List Value) (hown : w.ownsRow base e size v n xs) (c : Nat) : (Builtin.append_ #[t, t] ty #[v, .slice none 0 c]).run P w = .ok v w := by
  rcases hown.2 with ⟨rfl, rfl⟩ | ⟨g, cap, cur, rfl, _, _, hnc, _⟩
  · simp [Builtin.append_, run_underlying ht, sizeOf, typeInfo, hi, Builtin.lenOf, Builtin.firstCells]
  · simp [Builtin.append_, run_underlying ht, sizeOf, typeInfo, hi, Builtin.lenOf, Builtin.firstCells, hnc, storeCells]
theorem run_append_rd (base : Nat) (t ty e : TypeId) (i : TypeInfo) (z : Value) (bytes : Nat) (ht : P.underlying t = some (.slice e)) (hi : P.info? e = some i) (hz : i.zero = some z)
    (hsize : i.size = 1) (hby : i.bytes = bytes) (hzs : z.cells.size = 1)
    (v : Value) (n : Nat) (xs : List Value) (hown : w.ownsRow base e 1 v n xs)
    (B : Nat) (A : Option Addr) (m c : Nat) (f : Nat → Value) (hr : Rd w B A m f) (h1 : ∀ j, (f j).oneCell' = true)
    (h63 : n + m ≤ maxLen) (hbytes : (n + m) * bytes ≤ 140737488355328) (hbase : base ≤ w.heap.size) :
    ∃ v' w', (Builtin.append_ #[t, t] ty #[v, .slice A m c]).run P w = .ok v' w' ∧ w'.ownsRow base e 1 v' (n + m) (xs ++ firsts f m) ∧ w.grownBy w' v.ownBlock ∧
      (v'.ownBlock = v.ownBlock ∨ v'.ownBlock = some w.heap.size) := by
  rcases A with _ | ad
  · have hm : m = 0 := by
      rcases Nat.eq_zero_or_pos m with h0 | h0
      · exact h0
      · obtain ⟨ad, h, _⟩ := hr.addr h0
        cases h
    subst hm
    exact ⟨v, w, run_append_nil w base t ty e i 1 ht hi v n xs hown c, by simpa [firsts] using hown, World.grownBy.refl w _, .inl rfl⟩
  · have hcells : ∀ j u, (firsts f m)[j]? = some u → w.cell? (ad.add j) = some u := by
      intro j u hu
      have hj : j < m := by have := (List.getElem?_eq_some_iff.1 hu).1; rw [firsts_len] at this; exact this
      rw [firsts_at hj] at hu
      injection hu with hu
      subst hu
      exact hr.at_ rfl hj
    obtain ⟨v', w', hrun, h2, h3, _, h5⟩ := run_append_own_at (P := P) w base t ty e i z 1 bytes ht hi hz hsize hby hzs (by decide) v n xs hown ad m c (firsts f m) (by simp [firsts]) hcells
      (fun u hu => by simp [firsts] at hu; obtain ⟨j, _, rfl⟩ := hu; exact h1 j) h63 hbytes hbase
    exact ⟨v', w', hrun, h2, h3, h5⟩
theorem wp_append_rd {o : Oper} {a : Act} {K : Act → World → Prop} {Q : Exit → Act → World → Prop} (s x : Operand) (t : TypeId)
    (ho : o.op = .call { callee := .builtin .append, args := #[s, x], argTypes := #[t, t] })
    (base : Nat) (e : TypeId) (i : TypeInfo) (z : Value) (bytes : Nat) (ht : P.underlying t = some (.slice e)) (hi : P.info? e = some i) (hz : i.zero = some z)
    (hsize : i.size = 1) (hby : i.bytes = bytes) (hzs : z.cells.size = 1)
    (v : Value) (n : Nat) (xs : List Value) (hs : a.eval s = v) (hown : w.ownsRow base e 1 v n xs)
    (B : Nat) (A : Option Addr) (m c : Nat) (f : Nat → Value) (hx : a.eval x = .slice A m c) (hr : Rd w B A m f) (h1 : ∀ j, (f j).oneCell' = true)
    (h63 : n + m ≤ maxLen) (hbytes : (n + m) * bytes ≤ 140737488355328) (hbase : base ≤ w.heap.size)
    (h : ∀ v' w', w'.ownsRow base e 1 v' (n + m) (xs ++ firsts f m) → w.grownBy w' v.ownBlock → (v'.ownBlock = v.ownBlock ∨ v'.ownBlock = some w.heap.size) → K (a.put o.dst v') w') : o.wp P a w K Q := by
  obtain ⟨v', w', hrun, h2, h3, h4⟩ := run_append_rd (P := P) w base t o.type e i z bytes ht hi hz hsize hby hzs v n xs hown B A m c f hr h1 h63 hbytes hbase
  unfold Oper.wp execOp
  simp only [ho, resolve, invoke, builtin, Sem.run_bind, Sem.run_pure, Result.andThen_ok, List.map_toArray, List.map_cons, List.map_nil, hs, hx, hrun]
  exact h v' w' h2 h3 h4
theorem wpList_append_rd {ops : Array Oper} {rest : List Oper} {o : Oper} {a : Act} {Q : Exit → Act → World → Prop} (hgd : o.guard = none) (s x : Operand) (t : TypeId)
    (ho : o.op = .call { callee := .builtin .append, args := #[s, x], argTypes := #[t, t] })
    (base : Nat) (e : TypeId) (i : TypeInfo) (z : Value) (bytes : Nat) (ht : P.underlying t = some (.slice e)) (hi : P.info? e = some i) (hz : i.zero = some z)
    (hsize : i.size = 1) (hby : i.bytes = bytes) (hzs : z.cells.size = 1)
    (v : Value) (n : Nat) (xs : List Value) (hs : a.eval s = v) (hown : w.ownsRow base e 1 v n xs)
    (B : Nat) (A : Option Addr) (m c : Nat) (f : Nat → Value) (hx : a.eval x = .slice A m c) (hr : Rd w B A m f) (h1 : ∀ j, (f j).oneCell' = true)
    (h63 : n + m ≤ maxLen) (hbytes : (n + m) * bytes ≤ 140737488355328) (hbase : base ≤ w.heap.size)
    (h : ∀ v' w', w'.ownsRow base e 1 v' (n + m) (xs ++ firsts f m) → w.grownBy w' v.ownBlock → (v'.ownBlock = v.ownBlock ∨ v'.ownBlock = some w.heap.size) → wpList P ops Q rest (a.put o.dst v') w') : wpList P ops Q (o :: rest) a w :=
  wpList_plain hgd fun _ hK => wp_append_rd w s x t ho base e i z bytes ht hi hz hsize hby hzs v n xs hs hown B A m c f hx hr h1 h63 hbytes hbase fun v' w' h2 h3 h4 => hK _ _ (h v' w' h2 h3 h4)
end
/-- A new row of cells is the call's own. -/
theorem own_new {w : World} {base : Nat} {e : TypeId} {n : Nat} {cs : Array Value} (hn : cs.size = n) (hb : base ≤ w.heap.size) (hm : n ≤ maxLen) :
    (w.alloc (.cells cs e)).ownsRow base e 1 (.slice (some ⟨w.heap.size, 0, none⟩) n n) n cs.toList := by
  refine ⟨by simpa using hn, .inr ⟨w.heap.size, n, cs, rfl, hb, heap_alloc_new w _, Nat.le_refl _, hm, by omega, ?_⟩⟩
  rw [List.take_of_length_le (by simp; omega)]
theorem rd_one (w : World) (t : TypeId) (u : Value) : Rd (w.alloc (.cells #[u] t)) (w.heap.size + 1) (some ⟨w.heap.size, 0, none⟩) 1 (fun _ => u) := fun j hj => by
  obtain rfl : j = 0 := by omega
  exact ⟨_, rfl, by simp, by rw [add_row, (row_new rfl).cell]; rfl⟩
/-- The slice that owns a row, read. -/
theorem rd_own {w : World} {base : Nat} {e : TypeId} {v : Value} {n : Nat} {xs : List Value} (h : w.ownsRow base e 1 v n xs) : ∃ A c, v = .slice A n c ∧ n ≤ c ∧ ∀ f : Nat → Value, (∀ j, j < n → xs[j]? = some (f j)) → Rd w w.heap.size A n f := by
  rcases h.2 with ⟨rfl, h0⟩ | ⟨g, cap, cur, rfl, _, _, hc, _⟩
  · subst h0; exact ⟨none, 0, rfl, Nat.le_refl _, fun f _ => Rd.none_⟩
  · exact ⟨_, _, rfl, hc, fun f hf => Rd.of_own h hf⟩
theorem ob_ge {g n c b : Nat} (hb : b ≤ g) : ∀ k, (Value.slice (some ⟨g, 0, none⟩) n c).ownBlock = some k → b ≤ k := fun k h => by
  have : g = k := by simpa [Value.ownBlock] using h
  omega
theorem ob_none {b n c : Nat} : ∀ k, (Value.slice none n c).ownBlock = some k → b ≤ k := fun k h => by simp [Value.ownBlock] at h
theorem ob_or {v v' : Value} {b g : Nat} (h : v'.ownBlock = v.ownBlock ∨ v'.ownBlock = some g) (hv : ∀ k, v.ownBlock = some k → b ≤ k) (hg : b ≤ g) : ∀ k, v'.ownBlock = some k → b ≤ k := fun k e => by
  rcases h with q | q
  · rw [q] at e; exact hv k e
  · rw [q] at e; injection e with e; omega
end
section
set_option linter.unusedVariables false
set_option linter.unusedSimpArgs false
set_option linter.unnecessarySimpa false
open Go.RowKit

/-- The rune that begins at a place. -/
def rn (s : ByteArray) (i : Nat) : Nat := (Utf8.decode s i).1
/-- How many bytes it has. -/
def wd (s : ByteArray) (i : Nat) : Nat := (Utf8.decode s i).2
/-- The byte at a place, as a number. -/
def bt (s : ByteArray) (i : Nat) : Nat := (s.get! i).toNat
/-- Is it a rune (or a byte that begins none)? -/
def gd (s : ByteArray) (i : Nat) : Bool := decide (bt s i < 128) || decide (1 < wd s i)
theorem bt_lt (s : ByteArray) (i : Nat) : bt s i < 256 := (s.get! i).toNat_lt

theorem dec_eq (s : ByteArray) (i : Nat) : Utf8.decode s i = Lib.decodeN (s.size - i) (bt s i) (bt s (i + 1)) (bt s (i + 2)) (bt s (i + 3)) := Lib.decode_at s i
theorem decodeN_wd (n b0 b1 b2 b3 : Nat) (h : 0 < n) : 1 ≤ (Lib.decodeN n b0 b1 b2 b3).2 ∧ (Lib.decodeN n b0 b1 b2 b3).2 ≤ n ∧ (Lib.decodeN n b0 b1 b2 b3).2 ≤ 4 := by
  unfold Lib.decodeN
  repeat' split
  all_goals (simp only []; omega)
theorem decodeN_rn (n b0 b1 b2 b3 : Nat) (h0 : b0 < 256) : (Lib.decodeN n b0 b1 b2 b3).1 ≤ 1114111 ∧ ((Lib.decodeN n b0 b1 b2 b3).1 < 55296 ∨ 57344 ≤ (Lib.decodeN n b0 b1 b2 b3).1) := by
  unfold Lib.decodeN
  repeat' split
  all_goals (simp only []; omega)
theorem wd_bd {s : ByteArray} {i : Nat} (h : i < s.size) : 1 ≤ wd s i ∧ i + wd s i ≤ s.size ∧ wd s i ≤ 4 := by
  unfold wd; rw [dec_eq]
  have := decodeN_wd (s.size - i) (bt s i) (bt s (i + 1)) (bt s (i + 2)) (bt s (i + 3)) (by omega)
  omega
theorem rn_bd (s : ByteArray) (i : Nat) : rn s i ≤ 1114111 ∧ (rn s i < 55296 ∨ 57344 ≤ rn s i) := by
  unfold rn; rw [dec_eq]; exact decodeN_rn _ _ _ _ _ (bt_lt s i)

/-- The runes from a place on: their places. -/
def placesF (s : ByteArray) : Nat → Nat → List Nat
  | 0, _ => []
  | f + 1, i => if i < s.size then i :: placesF s f (i + wd s i) else []
/-- The places of all runes from a place on. -/
def placesAt (s : ByteArray) (i : Nat) : List Nat := placesF s (s.size - i) i
def places (s : ByteArray) : List Nat := placesAt s 0
theorem placesF_fuel (s : ByteArray) : ∀ (f g i : Nat), s.size - i ≤ f → s.size - i ≤ g → placesF s f i = placesF s g i
  | 0, 0, _, _, _ => rfl
  | 0, g + 1, i, h, _ => by simp only [placesF]; rw [if_neg (by omega)]
  | f + 1, 0, i, _, h => by simp only [placesF]; rw [if_neg (by omega)]
  | f + 1, g + 1, i, h, h' => by
    simp only [placesF]
    by_cases hi : i < s.size
    · have := wd_bd hi
      rw [if_pos hi, if_pos hi, placesF_fuel s f g (i + wd s i) (by omega) (by omega)]
    · rw [if_neg hi, if_neg hi]
theorem placesAt_end {s : ByteArray} {i : Nat} (h : ¬ i < s.size) : placesAt s i = [] := by
  unfold placesAt; rw [show s.size - i = 0 by omega]; rfl
theorem placesAt_step {s : ByteArray} {i : Nat} (h : i < s.size) : placesAt s i = i :: placesAt s (i + wd s i) := by
  have hw := wd_bd h
  unfold placesAt
  obtain ⟨f, hf⟩ : ∃ f, s.size - i = f + 1 := ⟨s.size - i - 1, by omega⟩
  rw [hf]
  simp only [placesF]
  rw [if_pos h, placesF_fuel s f (s.size - (i + wd s i)) (i + wd s i) (by omega) (by omega)]
theorem placesF_len (s : ByteArray) : ∀ (f i : Nat), (placesF s f i).length ≤ f
  | 0, _ => by simp [placesF]
  | f + 1, i => by
    simp only [placesF]
    split
    · have := placesF_len s f (i + wd s i); simp; omega
    · simp
theorem places_len (s : ByteArray) : (places s).length ≤ s.size := by
  have := placesF_len s (s.size - 0) 0; unfold places placesAt; omega

/-- Where a loop over the runes stands: what is behind, and what is to come. -/
def AtPlace (s : ByteArray) (pre : List Nat) (i : Nat) : Prop := places s = pre ++ placesAt s i ∧ i ≤ s.size
theorem AtPlace.start (s : ByteArray) : AtPlace s [] 0 := ⟨rfl, Nat.zero_le _⟩
theorem AtPlace.step {s : ByteArray} {pre : List Nat} {i : Nat} (h : AtPlace s pre i) (hi : i < s.size) : AtPlace s (pre ++ [i]) (i + wd s i) :=
  ⟨by rw [h.1, placesAt_step hi]; simp, (wd_bd hi).2.1⟩
theorem AtPlace.fin {s : ByteArray} {pre : List Nat} {i : Nat} (h : AtPlace s pre i) (hi : ¬ i < s.size) : pre = places s := by
  rw [h.1, placesAt_end hi]; simp
theorem AtPlace.len {s : ByteArray} {pre : List Nat} {i : Nat} (h : AtPlace s pre i) : pre.length ≤ s.size := by
  have := places_len s; rw [h.1] at this; simp at this; omega

/-- The model's own conversion to runes. -/
theorem runesFrom_eq (s : ByteArray) : ∀ (f i : Nat) (acc : Array Value), Conv.runesFrom s f i acc = acc ++ ((placesF s f i).map fun j => Value.int .i32 (rn s j : Int)).toArray
  | 0, _, acc => by simp [Conv.runesFrom, placesF]
  | f + 1, i, acc => by
    unfold Conv.runesFrom
    simp only [placesF]
    by_cases hi : i < s.size
    · rw [if_pos hi, if_pos hi]
      show Conv.runesFrom s f (i + wd s i) (acc.push (.int .i32 (Int.ofNat (rn s i)))) = _
      rw [runesFrom_eq s f (i + wd s i)]
      simp
    · rw [if_neg hi, if_neg hi]; simp
theorem runes_eq (s : ByteArray) : Conv.runesFrom s s.size 0 #[] = ((places s).map fun j => Value.int .i32 (rn s j : Int)).toArray := by
  rw [runesFrom_eq]; simp [places, placesAt]
/-- The runes of a text. -/
def runesOf (s : ByteArray) : List Int := (places s).map fun j => (rn s j : Int)
end
section
set_option linter.unusedVariables false
set_option linter.unusedSimpArgs false
set_option linter.unnecessarySimpa false
open Go.RowKit

/-- What a program's Decode answers at a place. -/
def decR (s : ByteArray) (at_ : Int) : Int := if 0 ≤ at_ ∧ at_ < s.size then (rn s at_.toNat : Int) else 0
def decN (s : ByteArray) (at_ : Int) : Int := if 0 ≤ at_ ∧ at_ < s.size then (wd s at_.toNat : Int) else 0
def decG (s : ByteArray) (at_ : Int) : Bool := if 0 ≤ at_ ∧ at_ < s.size then gd s at_.toNat else false
theorem decR_in {s : ByteArray} {i : Nat} (h : i < s.size) : decR s i = (rn s i : Int) := by unfold decR; rw [if_pos (by omega)]; simp
theorem decN_in {s : ByteArray} {i : Nat} (h : i < s.size) : decN s i = (wd s i : Int) := by unfold decN; rw [if_pos (by omega)]; simp
theorem decG_in {s : ByteArray} {i : Nat} (h : i < s.size) : decG s i = gd s i := by unfold decG; rw [if_pos (by omega)]; simp
theorem decR_out {s : ByteArray} {i : Int} (h : i < 0 ∨ (s.size : Int) ≤ i) : decR s i = 0 := by unfold decR; rw [if_neg (by omega)]
theorem decN_out {s : ByteArray} {i : Int} (h : i < 0 ∨ (s.size : Int) ≤ i) : decN s i = 0 := by unfold decN; rw [if_neg (by omega)]
theorem decG_out {s : ByteArray} {i : Int} (h : i < 0 ∨ (s.size : Int) ≤ i) : decG s i = false := by unfold decG; rw [if_neg (by omega)]

/-- The rune, its size, and whether it is one, of four bytes of which n are there. -/
def dec3 (n b0 b1 b2 b3 : Nat) : Nat × Nat × Bool := ((Lib.decodeN n b0 b1 b2 b3).1, (Lib.decodeN n b0 b1 b2 b3).2, decide (b0 < 128) || decide (1 < (Lib.decodeN n b0 b1 b2 b3).2))
theorem dec3_at (s : ByteArray) (i : Nat) : (rn s i, wd s i, gd s i) = dec3 (s.size - i) (bt s i) (bt s (i + 1)) (bt s (i + 2)) (bt s (i + 3)) := by
  unfold rn gd wd dec3; rw [dec_eq]
theorem dec3_bad {n b0 b1 b2 b3 : Nat} (h : 128 ≤ b0) (h2 : b0 / 32 = 6 → ¬ (1 < n ∧ b1 / 64 = 2 ∧ 128 ≤ b0 % 32 * 64 + b1 % 64))
    (h3 : b0 / 16 = 14 → ¬ (2 < n ∧ b1 / 64 = 2 ∧ b2 / 64 = 2 ∧ 2048 ≤ b0 % 16 * 4096 + b1 % 64 * 64 + b2 % 64 ∧ (b0 % 16 * 4096 + b1 % 64 * 64 + b2 % 64 < 55296 ∨ 57343 < b0 % 16 * 4096 + b1 % 64 * 64 + b2 % 64)))
    (h4 : b0 / 8 = 30 → ¬ (3 < n ∧ b1 / 64 = 2 ∧ b2 / 64 = 2 ∧ b3 / 64 = 2 ∧ 65536 ≤ b0 % 8 * 262144 + b1 % 64 * 4096 + b2 % 64 * 64 + b3 % 64 ∧ b0 % 8 * 262144 + b1 % 64 * 4096 + b2 % 64 * 64 + b3 % 64 ≤ 1114111)) :
    dec3 n b0 b1 b2 b3 = (65533, 1, false) := by
  have hd : Lib.decodeN n b0 b1 b2 b3 = (65533, 1) := by
    unfold Lib.decodeN
    rw [if_neg (by omega)]
    repeat' split
    all_goals first | rfl | (exfalso; omega)
  unfold dec3; rw [hd]; simp; omega
theorem dec3_one {n b0 b1 b2 b3 : Nat} (h : b0 < 128) : dec3 n b0 b1 b2 b3 = (b0, 1, true) := by
  unfold dec3 Lib.decodeN; rw [if_pos h]; simp [h]
theorem dec3_two {n b0 b1 b2 b3 : Nat} (h0 : b0 / 32 = 6) (hn : 1 < n) (h1 : b1 / 64 = 2) (h : 128 ≤ b0 % 32 * 64 + b1 % 64) : dec3 n b0 b1 b2 b3 = (b0 % 32 * 64 + b1 % 64, 2, true) := by
  have hd : Lib.decodeN n b0 b1 b2 b3 = (b0 % 32 * 64 + b1 % 64, 2) := by
    unfold Lib.decodeN
    rw [if_neg (by omega), if_pos ⟨h0, hn, h1⟩, if_pos h]
  unfold dec3; rw [hd]; simp
theorem dec3_three {n b0 b1 b2 b3 : Nat} (h0 : b0 / 16 = 14) (hn : 2 < n) (h1 : b1 / 64 = 2) (h2 : b2 / 64 = 2) (h : 2048 ≤ b0 % 16 * 4096 + b1 % 64 * 64 + b2 % 64)
    (hs : b0 % 16 * 4096 + b1 % 64 * 64 + b2 % 64 < 55296 ∨ 57343 < b0 % 16 * 4096 + b1 % 64 * 64 + b2 % 64) : dec3 n b0 b1 b2 b3 = (b0 % 16 * 4096 + b1 % 64 * 64 + b2 % 64, 3, true) := by
  have hd : Lib.decodeN n b0 b1 b2 b3 = (b0 % 16 * 4096 + b1 % 64 * 64 + b2 % 64, 3) := by
    unfold Lib.decodeN
    rw [if_neg (by omega), if_neg (by omega), if_pos (by omega), if_pos (by omega)]
  unfold dec3; rw [hd]; simp
theorem dec3_four {n b0 b1 b2 b3 : Nat} (h0 : b0 / 8 = 30) (hn : 3 < n) (h1 : b1 / 64 = 2) (h2 : b2 / 64 = 2) (h3 : b3 / 64 = 2) (h : 65536 ≤ b0 % 8 * 262144 + b1 % 64 * 4096 + b2 % 64 * 64 + b3 % 64)
    (hs : b0 % 8 * 262144 + b1 % 64 * 4096 + b2 % 64 * 64 + b3 % 64 ≤ 1114111) : dec3 n b0 b1 b2 b3 = (b0 % 8 * 262144 + b1 % 64 * 4096 + b2 % 64 * 64 + b3 % 64, 4, true) := by
  have hd : Lib.decodeN n b0 b1 b2 b3 = (b0 % 8 * 262144 + b1 % 64 * 4096 + b2 % 64 * 64 + b3 % 64, 4) := by
    unfold Lib.decodeN
    rw [if_neg (by omega), if_neg (by omega), if_neg (by omega), if_pos (by omega), if_pos (by omega)]
  unfold dec3; rw [hd]; simp
set_option maxRecDepth 100000 in
set_option maxHeartbeats 2000000 in
/-- A window of four bytes says the same. -/
theorem dec3_window {n m b0 b1 b2 b3 c1 c2 c3 : Nat} (hm : m = min n 4) (h1 : 1 < n → b1 = c1) (h2 : 2 < n → b2 = c2) (h3 : 3 < n → b3 = c3) : dec3 n b0 b1 b2 b3 = dec3 m b0 c1 c2 c3 := by
  have hd : Lib.decodeN n b0 b1 b2 b3 = Lib.decodeN m b0 c1 c2 c3 := by
    rcases (by omega : n ≤ 1 ∨ n = 2 ∨ n = 3 ∨ 4 ≤ n) with h | h | h | h
    · have a1 : ¬ 1 < n := by omega
      have a2 : ¬ 1 < m := by omega
      simp only [Lib.decodeN, a1, a2, false_and, and_false, if_false]
    · obtain rfl := h1 (by omega)
      have : m = 2 := by omega
      subst this h
      simp only [Lib.decodeN, Nat.lt_irrefl, show ¬ 3 < 2 by omega, false_and, and_false, if_false]
    · obtain rfl := h1 (by omega)
      obtain rfl := h2 (by omega)
      have : m = 3 := by omega
      subst this h
      simp only [Lib.decodeN, Nat.lt_irrefl, false_and, and_false, if_false]
    · obtain rfl := h1 (by omega)
      obtain rfl := h2 (by omega)
      obtain rfl := h3 (by omega)
      have : m = 4 := by omega
      subst this
      simp only [Lib.decodeN, show 1 < n by omega, show 2 < n by omega, show 3 < n by omega, show 1 < 4 by omega, show 2 < 4 by omega, show 3 < 4 by omega]
  unfold dec3; rw [hd]

theorem dec_is {s : ByteArray} {i : Nat} (hi : i < s.size) {R N : Nat} {G : Bool} (h : dec3 (s.size - i) (bt s i) (bt s (i + 1)) (bt s (i + 2)) (bt s (i + 3)) = (R, N, G)) : (R : Int) = decR s i ∧ (N : Int) = decN s i ∧ G = decG s i := by
  rw [← dec3_at] at h
  injection h with h1 h2
  injection h2 with h2 h3
  rw [decR_in hi, decN_in hi, decG_in hi, h1, h2, h3]
  exact ⟨rfl, rfl, rfl⟩

theorem dec_ret {s : ByteArray} {i : Nat} (hi : i < s.size) {R N : Nat} {G : Bool} (h : dec3 (s.size - i) (bt s i) (bt s (i + 1)) (bt s (i + 2)) (bt s (i + 3)) = (R, N, G)) {k j : IntKind} {a b : Int} {g : Bool} (h1 : a = (R : Int)) (h2 : b = (N : Int)) (h3 : g = G) :
    Ending.returned (.tuple #[.int k a, .int j b, .bool g]) = .returned (.tuple #[.int k (decR s i), .int j (decN s i), .bool (decG s i)]) := by
  obtain ⟨e1, e2, e3⟩ := dec_is hi h
  exact ret_iib (h1.trans e1) (h2.trans e2) (h3.trans e3)
theorem dec_row {s : ByteArray} {i : Nat} (hi : i < s.size) {R N : Nat} {G : Bool} (h : dec3 (s.size - i) (bt s i) (bt s (i + 1)) (bt s (i + 2)) (bt s (i + 3)) = (R, N, G)) {k j m : IntKind} {a b u v : Int} {g : Bool} (h0 : u = v) (h1 : a = (R : Int)) (h2 : b = (N : Int)) (h3 : g = G) :
    Ending.returned (.agg #[.int m u, .int k a, .int j b, .bool g]) = .returned (.agg #[.int m v, .int k (decR s i), .int j (decN s i), .bool (decG s i)]) := by
  obtain ⟨e1, e2, e3⟩ := dec_is hi h
  exact ret_row h0 (h1.trans e1) (h2.trans e2) (h3.trans e3)

/-- The bytes of a text, as cells. -/
def bcs (s : ByteArray) : List Value := s.data.toList.map fun b => Value.int .u8 (b.toNat : Int)
theorem bcs_len (s : ByteArray) : (bcs s).length = s.size := by simp [bcs]
theorem bcs_at {s : ByteArray} {i : Nat} (h : i < s.size) : (bcs s)[i]? = some (.int .u8 (bt s i : Int)) := by
  unfold bcs bt
  have h' : i < s.data.toList.length := by simpa using h
  rw [List.getElem?_map, List.getElem?_eq_getElem h']
  simp
  unfold ByteArray.get!
  simp [Array.getElem!_eq_getD, Array.getD, show i < s.data.size from h]
  rw [dif_pos h]

/-! ### bits -/
theorem u8_low6 {c : Int} (h0 : 0 ≤ c) (h1 : c < 256) : bits .and .u8 c 63 = c % 64 := by
  obtain ⟨n, rfl⟩ := Int.eq_ofNat_of_zero_le h0
  have := u8_and_nat n 63 (by omega) (by omega)
  rw [nat_mask6] at this; exact_mod_cast this
theorem u8_low5 {c : Int} (h0 : 0 ≤ c) (h1 : c < 256) : bits .and .u8 c 31 = c % 32 := by
  obtain ⟨n, rfl⟩ := Int.eq_ofNat_of_zero_le h0
  have := u8_and_nat n 31 (by omega) (by omega)
  rw [nat_mask5] at this; exact_mod_cast this
theorem u8_low4 {c : Int} (h0 : 0 ≤ c) (h1 : c < 256) : bits .and .u8 c 15 = c % 16 := by
  obtain ⟨n, rfl⟩ := Int.eq_ofNat_of_zero_le h0
  have := u8_and_nat n 15 (by omega) (by omega)
  rw [nat_mask4] at this; exact_mod_cast this
theorem u8_low3 {c : Int} (h0 : 0 ≤ c) (h1 : c < 256) : bits .and .u8 c 7 = c % 8 := by
  obtain ⟨n, rfl⟩ := Int.eq_ofNat_of_zero_le h0
  have := u8_and_nat n 7 (by omega) (by omega)
  rw [nat_mask3] at this; exact_mod_cast this
theorem i32_join6 {r c : Int} (h0 : 0 ≤ r) (h1 : r ≤ 2097151) (c0 : 0 ≤ c) (c1 : c < 64) : bits .or .i32 (r * 64) c = r * 64 + c := by
  obtain ⟨n, rfl⟩ := Int.eq_ofNat_of_zero_le h0
  obtain ⟨m, rfl⟩ := Int.eq_ofNat_of_zero_le c0
  have hj := nat_join 6 (n * 64) m (by omega) (by omega)
  show IntKind.i32.wrap ((BitVec.ofInt 32 ((n : Int) * 64) ||| BitVec.ofInt 32 (m : Int)).toNat : Int) = _
  have e1 : BitVec.ofInt 32 ((n : Int) * 64) = BitVec.ofNat 32 (n * 64) := by
    rw [show (n : Int) * 64 = ((n * 64 : Nat) : Int) by omega, BitVec.ofInt_natCast]
  rw [e1, BitVec.ofInt_natCast, BitVec.toNat_or, BitVec.toNat_ofNat, BitVec.toNat_ofNat, Nat.mod_eq_of_lt (by omega), Nat.mod_eq_of_lt (by omega), hj, IntKind.wrap_i32]
  omega
end
section
set_option linter.unusedVariables false
set_option linter.unusedSimpArgs false
set_option linter.unnecessarySimpa false
open Go.RowKit

/-- The cells of a text's bytes. -/
def byteC (s : ByteArray) (j : Nat) : Value := .int .u8 (bt s j : Int)
theorem data_at {s : ByteArray} {j : Nat} (h : j < s.size) : bt s j = (s.data.toList[j]'(by simpa using h)).toNat := by
  have := bcs_at h
  unfold bcs at this
  have h' : j < s.data.toList.length := by simpa using h
  rw [List.getElem?_map, List.getElem?_eq_getElem h'] at this
  simp at this
  simp
  omega
theorem bt_extract {s : ByteArray} {lo hi j : Nat} (h : j < hi - lo) (hh : hi ≤ s.size) : bt (s.extract lo hi) j = bt s (lo + j) := by
  have h1 : j < (s.extract lo hi).size := by simp [ByteArray.size_extract]; omega
  rw [data_at h1, data_at (show lo + j < s.size by omega)]
  congr 1
  simp
theorem bytesRow_at (s : ByteArray) (cap : Nat) {j : Nat} (h : j < s.size) : (bytesRow s cap)[j]? = some (byteC s j) := by
  unfold bytesRow byteC
  rw [Array.getElem?_append_left (by simpa using h), data_at h]
  simp
  exact ⟨_, Array.getElem?_eq_getElem (show j < s.data.size from h), rfl⟩
/-- The new row of a conversion, read as a slice. -/
theorem rd_row (w : World) (s : ByteArray) (cap : Nat) (t : TypeId) (fr : Nat × Nat) : Rd (w.alloc (.cells (bytesRow s cap) t fr)) (w.heap.size + 1) (some ⟨w.heap.size, 0, none⟩) s.size (byteC s) := fun j hj =>
  ⟨_, rfl, by simp, by rw [add_row, Nat.zero_add, World.cell?_alloc_mark]; exact bytesRow_at s cap hj⟩
theorem of_bytes (s : ByteArray) (l : List UInt8) (h : l = s.data.toList) : (⟨l.toArray⟩ : ByteArray) = s := by subst h; simp
theorem run_string_of {P : Program} {w : World} {B : Nat} {A : Option Addr} {s : ByteArray} (src dst e : TypeId) (c : Nat) (hs : P.underlying src = some (.slice e)) (he : P.underlying e = some (.int .u8)) (hd : P.underlying dst = some .string)
    (h : Rd w B A s.size (byteC s)) : (convert src dst (.slice A s.size c)).run P w = .ok (.string s) w := by
  have hlen : s.data.toList.length = s.size := by simp
  rcases A with _ | ad
  · have h0 : s.size = 0 := by
      rcases Nat.eq_zero_or_pos s.size with h0 | h0
      · exact h0
      · obtain ⟨ad, e', _⟩ := h.addr h0; cases e'
    rw [run_convert_bytes_nil _ src e hs he _ _ dst hd]
    have hl : s.data.toList = [] := List.eq_nil_of_length_eq_zero (by omega)
    have := of_bytes s [] hl.symm
    rw [← this]; rfl
  · have := run_convert_bytes_back (P := P) w src dst e ad c s.data.toList hs he hd (fun j hj => by
      have hj' : j < s.size := by omega
      rw [h.at_ rfl hj']
      show some (Value.int .u8 (bt s j : Int)) = _
      rw [data_at hj'])
    rw [hlen] at this
    rw [this, of_bytes s _ rfl]
/-- A window of a text says the same of the rune at its head. -/
theorem dec_window {s : ByteArray} {i : Nat} (h : i < s.size) : rn (s.extract i (min s.size (i + 4))) 0 = rn s i ∧ wd (s.extract i (min s.size (i + 4))) 0 = wd s i ∧ gd (s.extract i (min s.size (i + 4))) 0 = gd s i := by
  have hsz : (s.extract i (min s.size (i + 4))).size = min (s.size - i) 4 := by simp [ByteArray.size_extract]; omega
  have e1 := dec3_at (s.extract i (min s.size (i + 4))) 0
  have e2 := dec3_at s i
  have ew := dec3_window (n := s.size - i) (m := (s.extract i (min s.size (i + 4))).size - 0) (b0 := bt s i) (b1 := bt s (i + 1)) (b2 := bt s (i + 2)) (b3 := bt s (i + 3))
    (c1 := bt (s.extract i (min s.size (i + 4))) (0 + 1)) (c2 := bt (s.extract i (min s.size (i + 4))) (0 + 2)) (c3 := bt (s.extract i (min s.size (i + 4))) (0 + 3)) (by omega)
    (fun hh => by rw [bt_extract (by omega) (by omega)]) (fun hh => by rw [bt_extract (by omega) (by omega)]) (fun hh => by rw [bt_extract (by omega) (by omega)])
  have hb : bt (s.extract i (min s.size (i + 4))) 0 = bt s i := by rw [bt_extract (by omega) (by omega)]; rfl
  rw [hb, ← ew, ← e2] at e1
  injection e1 with a b
  injection b with b c
  exact ⟨a, b, c⟩
/-- A text from a place on: its runes are the text's own from there on. -/
theorem dec_suffix {s : ByteArray} {k i : Nat} (h : k + i < s.size) : rn (s.extract k s.size) i = rn s (k + i) ∧ wd (s.extract k s.size) i = wd s (k + i) := by
  have hsz : (s.extract k s.size).size = s.size - k := by simp [ByteArray.size_extract]
  have e1 := dec_eq (s.extract k s.size) i
  have e2 := dec_eq s (k + i)
  have n : ∀ j, k + i + j < s.size → bt (s.extract k s.size) (i + j) = bt s (k + i + j) := fun j hj => by rw [bt_extract (by omega) (by omega), Nat.add_assoc]
  have hd : Utf8.decode (s.extract k s.size) i = Utf8.decode s (k + i) := by
    rw [e1, e2, hsz, show s.size - k - i = s.size - (k + i) by omega, show bt (s.extract k s.size) i = bt s (k + i) from n 0 h]
    have hN : ∀ (m b0 b1 b2 b3 c1 c2 c3 : Nat), (1 < m → b1 = c1) → (2 < m → b2 = c2) → (3 < m → b3 = c3) → Lib.decodeN m b0 b1 b2 b3 = Lib.decodeN m b0 c1 c2 c3 := by
      intro m b0 b1 b2 b3 c1 c2 c3 h1 h2 h3
      unfold Lib.decodeN
      by_cases m1 : 1 < m
      · rw [h1 m1]
        by_cases m2 : 2 < m
        · rw [h2 m2]
          by_cases m3 : 3 < m
          · rw [h3 m3]
          · simp only [m3, false_and, and_false, if_false]
        · simp only [m2, show ¬ 3 < m by omega, false_and, and_false, if_false]
      · simp only [m1, show ¬ 2 < m by omega, show ¬ 3 < m by omega, false_and, and_false, if_false]
    exact hN _ _ _ _ _ _ _ _ (fun hh => n 1 (by omega)) (fun hh => n 2 (by omega)) (fun hh => n 3 (by omega))
  unfold rn wd; rw [hd]; exact ⟨rfl, rfl⟩
end
section
set_option linter.unusedVariables false
set_option linter.unusedSimpArgs false
set_option linter.unnecessarySimpa false
open Go.RowKit
def letterB (c : Nat) : Bool := (decide (97 ≤ c) && decide (c ≤ 122)) || (decide (65 ≤ c) && decide (c ≤ 90)) || c == 95 || c == 36
def digitB (c : Nat) : Bool := decide (48 ≤ c) && decide (c ≤ 57)
def nameB (c : Nat) : Bool := letterB c || digitB c
def blankB (c : Nat) : Bool := c == 9 || c == 10 || c == 13 || c == 32
/-- The end of a line: the first byte 10 from here on, or the text's end. -/
def lineEnd (s : ByteArray) (i : Nat) : Nat := if _h : i < s.size ∧ bt s i ≠ 10 then lineEnd s (i + 1) else i
termination_by s.size - i
/-- The first place from here on where a remark ends ('*', '/'), or where there is no room for its end. -/
def remEnd (s : ByteArray) (i : Nat) : Nat := if _h : i + 1 < s.size ∧ ¬ (bt s i = 42 ∧ bt s (i + 1) = 47) then remEnd s (i + 1) else i
termination_by s.size - i
theorem lineEnd_go {s : ByteArray} {i : Nat} (h : i < s.size) (h2 : bt s i ≠ 10) : lineEnd s i = lineEnd s (i + 1) := by rw [lineEnd, dif_pos ⟨h, h2⟩]
theorem lineEnd_stop {s : ByteArray} {i : Nat} (h : ¬ (i < s.size ∧ bt s i ≠ 10)) : lineEnd s i = i := by rw [lineEnd, dif_neg h]
theorem remEnd_go {s : ByteArray} {i : Nat} (h : i + 1 < s.size) (h2 : ¬ (bt s i = 42 ∧ bt s (i + 1) = 47)) : remEnd s i = remEnd s (i + 1) := by rw [remEnd, dif_pos ⟨h, h2⟩]
theorem remEnd_stop {s : ByteArray} {i : Nat} (h : ¬ (i + 1 < s.size ∧ ¬ (bt s i = 42 ∧ bt s (i + 1) = 47))) : remEnd s i = i := by rw [remEnd, dif_neg h]
theorem lineEnd_bd (s : ByteArray) : ∀ (n i : Nat), s.size - i ≤ n → i ≤ s.size → i ≤ lineEnd s i ∧ lineEnd s i ≤ s.size
  | 0, i, h, hi => by rw [lineEnd_stop (by omega)]; omega
  | n + 1, i, h, hi => by
    by_cases c : i < s.size ∧ bt s i ≠ 10
    · rw [lineEnd_go c.1 c.2]; have := lineEnd_bd s n (i + 1) (by omega) (by omega); omega
    · rw [lineEnd_stop c]; omega
theorem lineEnd_gt {s : ByteArray} {i : Nat} (h : i < s.size) (h2 : bt s i ≠ 10) : i < lineEnd s i ∧ lineEnd s i ≤ s.size := by
  rw [lineEnd_go h h2]; have := lineEnd_bd s _ (i + 1) (Nat.le_refl _) (by omega); omega
theorem remEnd_ge (s : ByteArray) : ∀ (n i : Nat), s.size - i ≤ n → i ≤ remEnd s i
  | 0, i, h => by rw [remEnd_stop (by omega)]; omega
  | n + 1, i, h => by
    by_cases c : i + 1 < s.size ∧ ¬ (bt s i = 42 ∧ bt s (i + 1) = 47)
    · rw [remEnd_go c.1 c.2]; have := remEnd_ge s n (i + 1) (by omega); omega
    · rw [remEnd_stop c]; omega
/-- Behind blanks and remarks; false: a remark that does not end (its byte). -/
def skip (s : ByteArray) (i : Nat) : Nat × Bool :=
  if _h : i < s.size then
    if blankB (bt s i) then skip s (i + 1)
    else if _h2 : bt s i = 47 ∧ i + 1 < s.size ∧ bt s (i + 1) = 47 then skip s (lineEnd s i)
    else if bt s i = 47 ∧ i + 1 < s.size ∧ bt s (i + 1) = 42 then
      if _h3 : remEnd s (i + 2) + 1 < s.size then skip s (remEnd s (i + 2) + 2) else (i, false)
    else (i, true)
  else (i, true)
termination_by s.size - i
decreasing_by
  · omega
  · have := lineEnd_gt _h (by omega); omega
  · have := remEnd_ge s _ (i + 2) (Nat.le_refl _); omega
theorem skip_end {s : ByteArray} {i : Nat} (h : ¬ i < s.size) : skip s i = (i, true) := by rw [skip, dif_neg h]
theorem skip_blank {s : ByteArray} {i : Nat} (h : i < s.size) (hb : blankB (bt s i) = true) : skip s i = skip s (i + 1) := by rw [skip, dif_pos h, if_pos hb]
theorem skip_line {s : ByteArray} {i : Nat} (h : i + 1 < s.size) (h1 : bt s i = 47) (h2 : bt s (i + 1) = 47) : skip s i = skip s (lineEnd s i) := by
  rw [skip, dif_pos (by omega), if_neg (by rw [h1]; decide), dif_pos ⟨h1, h, h2⟩]
theorem skip_rem {s : ByteArray} {i : Nat} (h : i + 1 < s.size) (h1 : bt s i = 47) (h2 : bt s (i + 1) = 42) (h3 : remEnd s (i + 2) + 1 < s.size) : skip s i = skip s (remEnd s (i + 2) + 2) := by
  rw [skip, dif_pos (by omega), if_neg (by rw [h1]; decide), dif_neg (by omega), if_pos ⟨h1, h, h2⟩, dif_pos h3]
theorem skip_bad {s : ByteArray} {i : Nat} (h : i + 1 < s.size) (h1 : bt s i = 47) (h2 : bt s (i + 1) = 42) (h3 : ¬ remEnd s (i + 2) + 1 < s.size) : skip s i = (i, false) := by
  rw [skip, dif_pos (by omega), if_neg (by rw [h1]; decide), dif_neg (by omega), if_pos ⟨h1, h, h2⟩, dif_neg h3]
theorem skip_stop {s : ByteArray} {i : Nat} (h : i < s.size) (hb : blankB (bt s i) = false) (h1 : ¬ (bt s i = 47 ∧ i + 1 < s.size ∧ bt s (i + 1) = 47)) (h2 : ¬ (bt s i = 47 ∧ i + 1 < s.size ∧ bt s (i + 1) = 42)) : skip s i = (i, true) := by
  rw [skip, dif_pos h, if_neg (by rw [hb]; decide), dif_neg h1, if_neg h2]
theorem skip_bd (s : ByteArray) : ∀ (n i : Nat), s.size - i ≤ n → i ≤ s.size → i ≤ (skip s i).1 ∧ (skip s i).1 ≤ s.size := by
  intro n
  induction n with
  | zero => intro i h hi; rw [skip_end (by omega)]; exact ⟨Nat.le_refl _, hi⟩
  | succ n ih =>
    intro i h hi
    by_cases c : i < s.size
    · by_cases hb : blankB (bt s i) = true
      · rw [skip_blank c hb]; have := ih (i + 1) (by omega) (by omega); omega
      · by_cases h1 : bt s i = 47 ∧ i + 1 < s.size ∧ bt s (i + 1) = 47
        · rw [skip_line h1.2.1 h1.1 h1.2.2]
          have := lineEnd_gt c (by omega)
          have := ih (lineEnd s i) (by omega) (by omega); omega
        · by_cases h2 : bt s i = 47 ∧ i + 1 < s.size ∧ bt s (i + 1) = 42
          · have hr := remEnd_ge s _ (i + 2) (Nat.le_refl _)
            by_cases h3 : remEnd s (i + 2) + 1 < s.size
            · rw [skip_rem h2.2.1 h2.1 h2.2.2 h3]; have := ih (remEnd s (i + 2) + 2) (by omega) (by omega); omega
            · rw [skip_bad h2.2.1 h2.1 h2.2.2 h3]; exact ⟨Nat.le_refl _, hi⟩
          · rw [skip_stop c (by simpa using hb) h1 h2]; exact ⟨Nat.le_refl _, hi⟩
    · rw [skip_end c]; exact ⟨Nat.le_refl _, hi⟩
/-- A token. -/
structure Tok where
  kind : Int
  text : ByteArray
  lo : Nat
  hi : Nat
def wordEnd (s : ByteArray) (i : Nat) : Nat := if _h : i < s.size ∧ nameB (bt s i) = true then wordEnd s (i + 1) else i
termination_by s.size - i
theorem wordEnd_go {s : ByteArray} {i : Nat} (h : i < s.size) (h2 : nameB (bt s i) = true) : wordEnd s i = wordEnd s (i + 1) := by rw [wordEnd, dif_pos ⟨h, h2⟩]
theorem wordEnd_stop {s : ByteArray} {i : Nat} (h : ¬ (i < s.size ∧ nameB (bt s i) = true)) : wordEnd s i = i := by rw [wordEnd, dif_neg h]
theorem wordEnd_bd (s : ByteArray) : ∀ (n i : Nat), s.size - i ≤ n → i ≤ s.size → i ≤ wordEnd s i ∧ wordEnd s i ≤ s.size
  | 0, i, h, hi => by rw [wordEnd_stop (by omega)]; omega
  | n + 1, i, h, hi => by
    by_cases c : i < s.size ∧ nameB (bt s i) = true
    · rw [wordEnd_go c.1 c.2]; have := wordEnd_bd s n (i + 1) (by omega) (by omega); omega
    · rw [wordEnd_stop c]; omega
def maxNum : Nat := 9007199254740991
/-- Digits from here on: where they end, and what they say (held at one more than the greatest number). -/
def digEnd (s : ByteArray) (i : Nat) : Nat := if _h : i < s.size ∧ digitB (bt s i) = true then digEnd s (i + 1) else i
termination_by s.size - i
theorem digEnd_go {s : ByteArray} {i : Nat} (h : i < s.size) (h2 : digitB (bt s i) = true) : digEnd s i = digEnd s (i + 1) := by rw [digEnd, dif_pos ⟨h, h2⟩]
theorem digEnd_stop {s : ByteArray} {i : Nat} (h : ¬ (i < s.size ∧ digitB (bt s i) = true)) : digEnd s i = i := by rw [digEnd, dif_neg h]
theorem digEnd_bd (s : ByteArray) : ∀ (n i : Nat), s.size - i ≤ n → i ≤ s.size → i ≤ digEnd s i ∧ digEnd s i ≤ s.size
  | 0, i, h, hi => by rw [digEnd_stop (by omega)]; omega
  | n + 1, i, h, hi => by
    by_cases c : i < s.size ∧ digitB (bt s i) = true
    · rw [digEnd_go c.1 c.2]; have := digEnd_bd s n (i + 1) (by omega) (by omega); omega
    · rw [digEnd_stop c]; omega
def digVal (s : ByteArray) (i v : Nat) : Nat := if _h : i < s.size ∧ digitB (bt s i) = true then digVal s (i + 1) (min (v * 10 + (bt s i - 48)) 9007199254740992) else v
termination_by s.size - i
theorem digVal_go {s : ByteArray} {i v : Nat} (h : i < s.size) (h2 : digitB (bt s i) = true) : digVal s i v = digVal s (i + 1) (min (v * 10 + (bt s i - 48)) 9007199254740992) := by rw [digVal, dif_pos ⟨h, h2⟩]
theorem digVal_stop {s : ByteArray} {i v : Nat} (h : ¬ (i < s.size ∧ digitB (bt s i) = true)) : digVal s i v = v := by rw [digVal, dif_neg h]
theorem digVal_full (s : ByteArray) : ∀ (n i : Nat), s.size - i ≤ n → digVal s i 9007199254740992 = 9007199254740992
  | 0, i, h => digVal_stop (by omega)
  | n + 1, i, h => by
    by_cases c : i < s.size ∧ digitB (bt s i) = true
    · rw [digVal_go c.1 c.2, show min (9007199254740992 * 10 + (bt s i - 48)) 9007199254740992 = 9007199254740992 by omega]
      exact digVal_full s n (i + 1) (by omega)
    · exact digVal_stop c
/-- Is what begins here, with digits, a number? -/
def numOk (s : ByteArray) (i : Nat) : Bool :=
  decide (digVal s i 0 ≤ 9007199254740991) && !(decide (bt s i = 48) && decide (i + 1 < digEnd s i)) && !(decide (digEnd s i < s.size) && letterB (bt s (digEnd s i)))
/-- A hexadecimal digit; -1: none. -/
def hexD (c : Nat) : Int := if 48 ≤ c ∧ c ≤ 57 then (c : Int) - 48 else if 97 ≤ c ∧ c ≤ 102 then (c : Int) - 87 else if 65 ≤ c ∧ c ≤ 70 then (c : Int) - 55 else -1
def hexEnd (s : ByteArray) (i lim : Nat) : Nat := if _h : i < s.size ∧ i < lim ∧ 0 ≤ hexD (bt s i) then hexEnd s (i + 1) lim else i
termination_by s.size - i
theorem hexEnd_go {s : ByteArray} {i lim : Nat} (h : i < s.size) (h1 : i < lim) (h2 : 0 ≤ hexD (bt s i)) : hexEnd s i lim = hexEnd s (i + 1) lim := by rw [hexEnd, dif_pos ⟨h, h1, h2⟩]
theorem hexEnd_stop {s : ByteArray} {i lim : Nat} (h : ¬ (i < s.size ∧ i < lim ∧ 0 ≤ hexD (bt s i))) : hexEnd s i lim = i := by rw [hexEnd, dif_neg h]
theorem hexEnd_bd (s : ByteArray) (lim : Nat) : ∀ (n i : Nat), s.size - i ≤ n → i ≤ hexEnd s i lim ∧ (i ≤ lim → hexEnd s i lim ≤ lim) ∧ (i ≤ s.size → hexEnd s i lim ≤ s.size)
  | 0, i, h => by rw [hexEnd_stop (by omega)]; omega
  | n + 1, i, h => by
    by_cases c : i < s.size ∧ i < lim ∧ 0 ≤ hexD (bt s i)
    · rw [hexEnd_go c.1 c.2.1 c.2.2]; have := hexEnd_bd s lim n (i + 1) (by omega); omega
    · rw [hexEnd_stop c]; omega
def hexVal (s : ByteArray) (i lim : Nat) (v : Int) : Int := if _h : i < s.size ∧ i < lim ∧ 0 ≤ hexD (bt s i) then hexVal s (i + 1) lim (v * 16 + hexD (bt s i)) else v
termination_by s.size - i
theorem hexVal_go {s : ByteArray} {i lim : Nat} {v : Int} (h : i < s.size) (h1 : i < lim) (h2 : 0 ≤ hexD (bt s i)) : hexVal s i lim v = hexVal s (i + 1) lim (v * 16 + hexD (bt s i)) := by rw [hexVal, dif_pos ⟨h, h1, h2⟩]
theorem hexVal_stop {s : ByteArray} {i lim : Nat} {v : Int} (h : ¬ (i < s.size ∧ i < lim ∧ 0 ≤ hexD (bt s i))) : hexVal s i lim v = v := by rw [hexVal, dif_neg h]
theorem hexD_bd (c : Nat) : -1 ≤ hexD c ∧ hexD c ≤ 15 := by
  unfold hexD
  repeat' split
  all_goals omega
/-- Is what begins here, at '\u', an escape? -/
def hexOk (s : ByteArray) (i : Nat) : Bool :=
  decide (i + 2 < s.size) && bt s (i + 2) == 123 && decide (hexEnd s (i + 3) (i + 9) ≠ i + 3) && decide (hexEnd s (i + 3) (i + 9) < s.size) && bt s (hexEnd s (i + 3) (i + 9)) == 125 &&
    decide (hexVal s (i + 3) (i + 9) 0 ≤ 1114111) && !(decide (55296 ≤ hexVal s (i + 3) (i + 9) 0) && decide (hexVal s (i + 3) (i + 9) 0 ≤ 57343))
def one1 (c : Nat) : ByteArray := ⟨#[UInt8.ofNat c]⟩
/-- The escape that begins here, at a backslash: what it says, and the byte behind it. -/
def esc (s : ByteArray) (i : Nat) : Option (ByteArray × Nat) :=
  if i + 1 < s.size then
    if bt s (i + 1) = 110 then some (one1 10, i + 2)
    else if bt s (i + 1) = 114 then some (one1 13, i + 2)
    else if bt s (i + 1) = 116 then some (one1 9, i + 2)
    else if bt s (i + 1) = 48 then some (one1 0, i + 2)
    else if bt s (i + 1) = 92 ∨ bt s (i + 1) = 34 ∨ bt s (i + 1) = 39 ∨ bt s (i + 1) = 36 ∨ bt s (i + 1) = 96 then some (one1 (bt s (i + 1)), i + 2)
    else if bt s (i + 1) = 117 then (if hexOk s i = true then some (Utf8.encode (hexVal s (i + 3) (i + 9) 0), hexEnd s (i + 3) (i + 9) + 1) else none)
    else none
  else none
/-- A rune or an escape. -/
def one (s : ByteArray) (i : Nat) : Option (ByteArray × Nat) := if bt s i = 92 then esc s i else some (Utf8.encode (rn s i : Int), i + wd s i)
theorem one_bd {s : ByteArray} {i : Nat} (hi : i < s.size) {t : ByteArray} {j : Nat} (h : one s i = some (t, j)) : i < j ∧ j ≤ s.size := by
  unfold one at h
  by_cases c : bt s i = 92
  · rw [if_pos c] at h
    unfold esc at h
    by_cases c1 : i + 1 < s.size
    · rw [if_pos c1] at h
      have hb := hexEnd_bd s (i + 9) _ (i + 3) (Nat.le_refl _)
      repeat' split at h
      all_goals first
        | (cases h; done)
        | (injection h with h; injection h with _ h; subst h; first | omega | (have hx : hexOk s i = true := (by assumption); simp [hexOk] at hx; omega))
    · rw [if_neg c1] at h; cases h
  · rw [if_neg c] at h
    injection h with h
    injection h with _ h
    subst h
    have := wd_bd hi
    omega
/-- A string's rest, to its quote. -/
def quotedGo (s : ByteArray) (q j : Nat) (acc : ByteArray) : Option (ByteArray × Nat) :=
  if _h : j < s.size then
    if bt s j = q then some (acc, j + 1)
    else if bt s j = 10 ∨ bt s j = 13 then none
    else match one s j with
      | none => none
      | some p => if _h2 : j < p.2 then quotedGo s q p.2 (acc ++ p.1) else none
  else none
termination_by s.size - j
theorem quotedGo_end {s : ByteArray} {q j : Nat} {acc : ByteArray} (h : ¬ j < s.size) : quotedGo s q j acc = none := by rw [quotedGo, dif_neg h]
theorem quotedGo_close {s : ByteArray} {q j : Nat} {acc : ByteArray} (h : j < s.size) (h1 : bt s j = q) : quotedGo s q j acc = some (acc, j + 1) := by rw [quotedGo, dif_pos h, if_pos h1]
theorem quotedGo_line {s : ByteArray} {q j : Nat} {acc : ByteArray} (h : j < s.size) (h1 : bt s j ≠ q) (h2 : bt s j = 10 ∨ bt s j = 13) : quotedGo s q j acc = none := by rw [quotedGo, dif_pos h, if_neg h1, if_pos h2]
theorem quotedGo_bad {s : ByteArray} {q j : Nat} {acc : ByteArray} (h : j < s.size) (h1 : bt s j ≠ q) (h3 : one s j = none) : quotedGo s q j acc = none := by
  rw [quotedGo, dif_pos h, if_neg h1]; split
  · rfl
  · rw [h3]
theorem quotedGo_step {s : ByteArray} {q j : Nat} {acc t : ByteArray} {k : Nat} (h : j < s.size) (h1 : bt s j ≠ q) (h2 : ¬ (bt s j = 10 ∨ bt s j = 13)) (h3 : one s j = some (t, k)) : quotedGo s q j acc = quotedGo s q k (acc ++ t) := by
  rw [quotedGo, dif_pos h, if_neg h1, if_neg h2, h3]
  exact dif_pos (one_bd h h3).1
/-- A template's piece: what it says, the byte behind it, whether a hole follows. -/
def pieceGo (s : ByteArray) (j : Nat) (acc : ByteArray) : Option (ByteArray × Nat × Bool) :=
  if _h : j < s.size then
    if bt s j = 96 then some (acc, j + 1, false)
    else if bt s j = 36 ∧ j + 1 < s.size ∧ bt s (j + 1) = 123 then some (acc, j + 2, true)
    else match one s j with
      | none => none
      | some p => if _h2 : j < p.2 then pieceGo s p.2 (acc ++ p.1) else none
  else none
termination_by s.size - j
theorem pieceGo_end {s : ByteArray} {j : Nat} {acc : ByteArray} (h : ¬ j < s.size) : pieceGo s j acc = none := by rw [pieceGo, dif_neg h]
theorem pieceGo_close {s : ByteArray} {j : Nat} {acc : ByteArray} (h : j < s.size) (h1 : bt s j = 96) : pieceGo s j acc = some (acc, j + 1, false) := by rw [pieceGo, dif_pos h, if_pos h1]
theorem pieceGo_hole {s : ByteArray} {j : Nat} {acc : ByteArray} (h : j + 1 < s.size) (h1 : bt s j = 36) (h2 : bt s (j + 1) = 123) : pieceGo s j acc = some (acc, j + 2, true) := by rw [pieceGo, dif_pos (by omega), if_neg (by omega), if_pos ⟨h1, h, h2⟩]
theorem pieceGo_bad {s : ByteArray} {j : Nat} {acc : ByteArray} (h : j < s.size) (h1 : bt s j ≠ 96) (h2 : ¬ (bt s j = 36 ∧ j + 1 < s.size ∧ bt s (j + 1) = 123)) (h3 : one s j = none) : pieceGo s j acc = none := by
  rw [pieceGo, dif_pos h, if_neg h1, if_neg h2, h3]
theorem pieceGo_step {s : ByteArray} {j : Nat} {acc t : ByteArray} {k : Nat} (h : j < s.size) (h1 : bt s j ≠ 96) (h2 : ¬ (bt s j = 36 ∧ j + 1 < s.size ∧ bt s (j + 1) = 123)) (h3 : one s j = some (t, k)) : pieceGo s j acc = pieceGo s k (acc ++ t) := by
  rw [pieceGo, dif_pos h, if_neg h1, if_neg h2, h3]
  exact dif_pos (one_bd h h3).1
def quotedOf (s : ByteArray) (i : Nat) : Option (ByteArray × Nat) := quotedGo s (bt s i) (i + 1) ⟨#[]⟩
def pieceOf (s : ByteArray) (i : Nat) : Option (ByteArray × Nat × Bool) := pieceGo s (i + 1) ⟨#[]⟩
theorem quotedGo_bd (s : ByteArray) (q : Nat) : ∀ (n j : Nat) (acc t : ByteArray) (k : Nat), s.size - j ≤ n → quotedGo s q j acc = some (t, k) → j < k ∧ k ≤ s.size := by
  intro n
  induction n with
  | zero => intro j acc t k h hq; rw [quotedGo_end (by omega)] at hq; cases hq
  | succ n ih =>
    intro j acc t k h hq
    by_cases c : j < s.size
    · by_cases h1 : bt s j = q
      · rw [quotedGo_close c h1] at hq; injection hq with hq; injection hq with _ hq; omega
      · by_cases h2 : bt s j = 10 ∨ bt s j = 13
        · rw [quotedGo_line c h1 h2] at hq; cases hq
        · cases h3 : one s j with
          | none => rw [quotedGo_bad c h1 h3] at hq; cases hq
          | some p =>
            rw [quotedGo_step (t := p.1) (k := p.2) c h1 h2 h3] at hq
            have := one_bd c h3
            have := ih p.2 _ _ _ (by omega) hq
            omega
    · rw [quotedGo_end c] at hq; cases hq
theorem pieceGo_bd (s : ByteArray) : ∀ (n j : Nat) (acc t : ByteArray) (k : Nat) (m : Bool), s.size - j ≤ n → pieceGo s j acc = some (t, k, m) → j < k ∧ k ≤ s.size := by
  intro n
  induction n with
  | zero => intro j acc t k m h hq; rw [pieceGo_end (by omega)] at hq; cases hq
  | succ n ih =>
    intro j acc t k m h hq
    by_cases c : j < s.size
    · by_cases h1 : bt s j = 96
      · rw [pieceGo_close c h1] at hq; injection hq with hq; injection hq with _ hq; injection hq with hq _; omega
      · by_cases h2 : bt s j = 36 ∧ j + 1 < s.size ∧ bt s (j + 1) = 123
        · rw [pieceGo_hole h2.2.1 h2.1 h2.2.2] at hq; injection hq with hq; injection hq with _ hq; injection hq with hq _; omega
        · cases h3 : one s j with
          | none => rw [pieceGo_bad c h1 h2 h3] at hq; cases hq
          | some p =>
            rw [pieceGo_step (t := p.1) (k := p.2) c h1 h2 h3] at hq
            have := one_bd c h3
            have := ih p.2 _ _ _ _ (by omega) hq
            omega
    · rw [pieceGo_end c] at hq; cases hq
end
section
set_option linter.unusedVariables false
set_option linter.unusedSimpArgs false
set_option linter.unnecessarySimpa false
open Go.RowKit
/-- Words between blanks. -/
def blanked : List (List UInt8) → List UInt8
  | [] => [32]
  | w :: r => 32 :: (w ++ blanked r)
theorem blanked_cons (r : List (List UInt8)) : ∃ u, blanked r = 32 :: u := by cases r <;> exact ⟨_, rfl⟩
theorem contains_iff (s sub : List UInt8) : Lib.contains s sub = true ↔ sub <:+: s := by
  unfold Lib.contains
  rw [decide_eq_true_eq]
  constructor
  · intro h
    rcases Lib.index_spec s sub with ⟨h1, _⟩ | ⟨i, _, _, h3, _⟩
    · omega
    · obtain ⟨t, ht⟩ := List.isPrefixOf_iff_prefix.1 (show sub.isPrefixOf (s.drop i) = true from h3)
      exact ⟨s.take i, t, by rw [List.append_assoc, ht, List.take_append_drop]⟩
  · rintro ⟨p, t, h⟩
    rcases Lib.index_spec s sub with ⟨h1, h2⟩ | ⟨i, h1, _, _, _⟩
    · have hl : p.length ≤ s.length := by rw [← h]; simp
      have := h2 p.length hl
      unfold Lib.occAt at this
      rw [← h, List.append_assoc, List.drop_left] at this
      have h3 : sub.isPrefixOf (sub ++ t) = true := List.isPrefixOf_iff_prefix.2 ⟨t, rfl⟩
      rw [h3] at this
      cases this
    · omega
theorem pre_sep : ∀ (l w r : List UInt8), (∀ x ∈ l, x ≠ 32) → (∀ x ∈ w, x ≠ 32) → l ++ [32] <+: w ++ 32 :: r → l = w
  | [], [], _, _, _, _ => rfl
  | [], b :: w, r, _, hw, ⟨t, h⟩ => by
    simp at h
    exact absurd h.1.symm (hw b (by simp))
  | a :: l, [], r, hl, _, ⟨t, h⟩ => by
    simp at h
    exact absurd h.1 (hl a (by simp))
  | a :: l, b :: w, r, hl, hw, ⟨t, h⟩ => by
    simp at h
    obtain ⟨rfl, h⟩ := h
    rw [pre_sep l w r (fun x hx => hl x (by simp [hx])) (fun x hx => hw x (by simp [hx])) ⟨t, by simpa using h⟩]
theorem infix_skip : ∀ (w r l : List UInt8), (∀ x ∈ w, x ≠ 32) → (32 :: l) <:+: w ++ r → (32 :: l) <:+: r
  | [], _, _, _, h => h
  | b :: w, r, l, hw, h => by
    rcases List.infix_cons_iff.1 h with h1 | h1
    · obtain ⟨t, h1⟩ := h1
      simp at h1
      exact absurd h1.1.symm (hw b (by simp))
    · exact infix_skip w r l (fun x hx => hw x (by simp [hx])) h1
/-- A word between blanks stands among words between blanks just if it is one of them. -/
theorem among_iff (l : List UInt8) (hl : ∀ x ∈ l, x ≠ 32) : ∀ ws : List (List UInt8), (∀ w ∈ ws, ∀ x ∈ w, x ≠ 32) → ((32 :: (l ++ [32])) <:+: blanked ws ↔ l ∈ ws)
  | [], _ => by
    constructor
    · rintro h
      have := h.length_le
      simp [blanked] at this
    · intro h; cases h
  | w :: r, hw => by
    have ih := among_iff l hl r (fun v hv => hw v (by simp [hv]))
    obtain ⟨u, hu⟩ := blanked_cons r
    constructor
    · intro h
      rcases List.infix_cons_iff.1 (show _ <:+: 32 :: (w ++ blanked r) from h) with h1 | h1
      · have h2 : l ++ [32] <+: w ++ blanked r := (List.prefix_cons_inj 32).1 h1
        rw [hu] at h2
        rw [pre_sep l w u hl (hw w (by simp)) h2]
        simp
      · exact List.mem_cons_of_mem _ (ih.1 (infix_skip w _ _ (hw w (by simp)) h1))
    · intro h
      rcases List.mem_cons.1 h with rfl | h
      · refine List.infix_cons_iff.2 (.inl ((List.prefix_cons_inj 32).2 ?_))
        rw [hu]
        exact ⟨u, by simp⟩
      · refine List.infix_cons_iff.2 (.inr ?_)
        exact (ih.2 h).trans (List.suffix_append _ _).isInfix
theorem among_eq (l : List UInt8) (hl : ∀ x ∈ l, x ≠ 32) (ws : List (List UInt8)) (hw : (ws.all fun w => w.all fun x => x != 32) = true) : Lib.contains (blanked ws) (32 :: (l ++ [32])) = decide (l ∈ ws) := by
  rw [Bool.eq_iff_iff, contains_iff, decide_eq_true_eq]
  refine among_iff l hl ws (fun w h x hx => ?_)
  have h1 := List.all_eq_true.1 (List.all_eq_true.1 hw w h) x hx
  simpa using h1
def wordsL : List (List UInt8) := [[98, 114, 101, 97, 107], [99, 97, 116, 99, 104], [99, 108, 97, 115, 115], [99, 111, 110, 115, 116], [99, 111, 110, 115, 116, 114, 117, 99, 116, 111, 114], [99, 111, 110, 116, 105, 110, 117, 101], [101, 108, 115, 101], [101, 110, 117, 109], [101, 120, 112, 111, 114, 116], [101, 120, 116, 101, 110, 100, 115], [102, 97, 108, 115, 101], [102, 105, 110, 97, 108, 108, 121], [102, 111, 114], [102, 117, 110, 99, 116, 105, 111, 110], [105, 102], [105, 109, 112, 108, 101, 109, 101, 110, 116, 115], [105, 110], [105, 110, 116, 101, 114, 102, 97, 99, 101], [108, 101, 116], [110, 97, 109, 101, 115, 112, 97, 99, 101], [110, 101, 119], [110, 117, 108, 108], [111, 102], [112, 117, 98, 108, 105, 99], [114, 101, 97, 100, 111, 110, 108, 121], [114, 101, 116, 117, 114, 110], [115, 117, 112, 101, 114], [116, 104, 105, 115], [116, 104, 114, 111, 119], [116, 114, 117, 101], [116, 114, 121], [116, 121, 112, 101], [116, 121, 112, 101, 111, 102], [117, 110, 100, 101, 102, 105, 110, 101, 100], [119, 104, 105, 108, 101], [97, 115]]
def signs3 : List (List UInt8) := [[61, 61, 61], [33, 61, 61], [62, 62, 62]]
def signs2 : List (List UInt8) := [[61, 62], [43, 61], [45, 61], [42, 61], [37, 61], [60, 61], [62, 61], [60, 60], [62, 62], [38, 38], [124, 124]]
def signs1 : List (List UInt8) := [[123], [125], [40], [41], [91], [93], [46], [44], [59], [58], [63], [61], [43], [45], [42], [37], [33], [126], [60], [62], [38], [124], [94]]
def reserved (l : List UInt8) : Bool := decide (l ∈ wordsL)
theorem reserved_eq (l : List UInt8) (hl : ∀ x ∈ l, x ≠ 32) : Lib.contains (blanked wordsL) (32 :: (l ++ [32])) = reserved l := among_eq l hl wordsL (by decide)
/-- n bytes from here on. -/
def cut (s : ByteArray) (i n : Nat) : List UInt8 := (s.extract i (i + n)).data.toList
def isSign (n : Nat) (l : List UInt8) : Bool := if n = 3 then decide (l ∈ signs3) else if n = 2 then decide (l ∈ signs2) else if n = 1 then decide (l ∈ signs1) else false
/-- The longest sign that begins here: how many bytes (0: none). -/
def signAt (s : ByteArray) (i : Nat) : Nat :=
  if i + 3 ≤ s.size ∧ isSign 3 (cut s i 3) = true then 3 else if i + 2 ≤ s.size ∧ isSign 2 (cut s i 2) = true then 2 else if i + 1 ≤ s.size ∧ isSign 1 (cut s i 1) = true then 1 else 0
theorem signAt_bd (s : ByteArray) (i : Nat) : i ≤ s.size → i + signAt s i ≤ s.size := by
  intro h
  unfold signAt
  repeat' split
  all_goals omega
/-- The token that begins here; holes: the brackets that are open, true for a template's. -/
def tokAt (s : ByteArray) (i : Nat) (holes : List Bool) : Option (Tok × List Bool) :=
  if letterB (bt s i) = true then some (⟨if reserved (s.extract i (wordEnd s i)).data.toList = true then 2 else 1, s.extract i (wordEnd s i), i, wordEnd s i⟩, holes)
  else if digitB (bt s i) = true then (if numOk s i = true then some (⟨3, s.extract i (digEnd s i), i, digEnd s i⟩, holes) else none)
  else if bt s i = 34 ∨ bt s i = 39 then (quotedOf s i).map fun p => (⟨4, p.1, i, p.2⟩, holes)
  else if bt s i = 96 then (pieceOf s i).map fun p => (⟨if p.2.2 = true then 6 else 5, p.1, i, p.2.1⟩, if p.2.2 = true then holes ++ [true] else holes)
  else if bt s i = 125 ∧ holes.getLast? = some true then (pieceOf s i).map fun p => (⟨if p.2.2 = true then 7 else 8, p.1, i, p.2.1⟩, if p.2.2 = true then holes else holes.dropLast)
  else if signAt s i = 0 then none
  else some (⟨9, s.extract i (i + signAt s i), i, i + signAt s i⟩, if signAt s i = 1 ∧ bt s i = 123 then holes ++ [false] else if signAt s i = 1 ∧ bt s i = 125 then holes.dropLast else holes)
theorem tokAt_bd {s : ByteArray} {i : Nat} {holes : List Bool} (hi : i < s.size) {t : Tok} {h' : List Bool} (h : tokAt s i holes = some (t, h')) : t.lo = i ∧ i < t.hi ∧ t.hi ≤ s.size := by
  unfold tokAt at h
  split at h
  · rename_i c
    injection h with h; injection h with h _; subst h
    have := wordEnd_bd s _ (i + 1) (Nat.le_refl _) (by omega)
    rw [← wordEnd_go hi (by simp [nameB, c])] at this
    exact ⟨rfl, by show i < wordEnd s i; omega, this.2⟩
  · split at h
    · rename_i c
      split at h
      · injection h with h; injection h with h _; subst h
        have := digEnd_bd s _ (i + 1) (Nat.le_refl _) (by omega)
        rw [← digEnd_go hi c] at this
        exact ⟨rfl, by show i < digEnd s i; omega, this.2⟩
      · cases h
    · split at h
      · cases hq : quotedOf s i with
        | none => rw [hq] at h; cases h
        | some p =>
          rw [hq] at h
          injection h with h; injection h with h _; subst h
          have := quotedGo_bd s (bt s i) _ (i + 1) ⟨#[]⟩ p.1 p.2 (Nat.le_refl _) hq
          exact ⟨rfl, by show i < p.2; omega, this.2⟩
      · split at h
        · cases hq : pieceOf s i with
          | none => rw [hq] at h; cases h
          | some p =>
            rw [hq] at h
            injection h with h; injection h with h _; subst h
            have := pieceGo_bd s _ (i + 1) ⟨#[]⟩ p.1 p.2.1 p.2.2 (Nat.le_refl _) hq
            exact ⟨rfl, by show i < p.2.1; omega, this.2⟩
        · split at h
          · cases hq : pieceOf s i with
            | none => rw [hq] at h; cases h
            | some p =>
              rw [hq] at h
              injection h with h; injection h with h _; subst h
              have := pieceGo_bd s _ (i + 1) ⟨#[]⟩ p.1 p.2.1 p.2.2 (Nat.le_refl _) hq
              exact ⟨rfl, by show i < p.2.1; omega, this.2⟩
          · split at h
            · cases h
            · rename_i c
              injection h with h; injection h with h _; subst h
              have := signAt_bd s i (by omega)
              exact ⟨rfl, by show i < i + signAt s i; omega, this⟩
/-- The tokens from here on (those ahead of an error, too), and the byte of the error. -/
def toks (s : ByteArray) (i : Nat) (holes : List Bool) : List Tok × Option Nat :=
  if (skip s i).2 = false then ([], some (skip s i).1)
  else if (skip s i).1 < s.size then
    match tokAt s (skip s i).1 holes with
    | none => ([], some (skip s i).1)
    | some p => if _h2 : i < p.1.hi ∧ p.1.hi ≤ s.size then (p.1 :: (toks s p.1.hi p.2).1, (toks s p.1.hi p.2).2) else ([], none)
  else ([⟨10, ⟨#[]⟩, s.size, s.size⟩], none)
termination_by s.size - i
theorem toks_rem {s : ByteArray} {i : Nat} {holes : List Bool} {j : Nat} (h : skip s i = (j, false)) : toks s i holes = ([], some j) := by rw [toks, h]; rfl
theorem toks_end {s : ByteArray} {i : Nat} {holes : List Bool} {j : Nat} (h : skip s i = (j, true)) (hj : ¬ j < s.size) : toks s i holes = ([⟨10, ⟨#[]⟩, s.size, s.size⟩], none) := by
  rw [toks, h, if_neg (by simp), if_neg hj]
theorem toks_bad {s : ByteArray} {i : Nat} {holes : List Bool} {j : Nat} (h : skip s i = (j, true)) (hj : j < s.size) (ht : tokAt s j holes = none) : toks s i holes = ([], some j) := by
  rw [toks, h, if_neg (by simp), if_pos hj]; simp only [ht]
theorem toks_step {s : ByteArray} {i : Nat} {holes : List Bool} {j : Nat} (hi : i ≤ s.size) (h : skip s i = (j, true)) (hj : j < s.size) {t : Tok} {h' : List Bool} (ht : tokAt s j holes = some (t, h')) :
    toks s i holes = (t :: (toks s t.hi h').1, (toks s t.hi h').2) := by
  have hb := skip_bd s _ i (Nat.le_refl _) hi
  rw [h] at hb
  have := tokAt_bd hj ht
  rw [toks, h, if_neg (by simp), if_pos hj]; simp only [ht]
  rw [dif_pos ⟨by have := hb.1; show i < t.hi; simp at this; omega, this.2.2⟩]
theorem toks_len (s : ByteArray) : ∀ (n i : Nat) (holes : List Bool), s.size - i ≤ n → i ≤ s.size → (toks s i holes).1.length ≤ s.size - i + 1 := by
  intro n
  induction n with
  | zero =>
    intro i holes h hi
    have e : skip s i = (i, true) := skip_end (by omega)
    rw [toks_end e (by omega)]; simp
  | succ n ih =>
    intro i holes h hi
    have hb := skip_bd s _ i (Nat.le_refl _) hi
    cases e : skip s i with
    | mk j ok =>
      rw [e] at hb
      cases ok with
      | false => rw [toks_rem e]; simp
      | true =>
        by_cases hj : j < s.size
        · cases ht : tokAt s j holes with
          | none => rw [toks_bad e hj ht]; simp
          | some p =>
            rw [toks_step (t := p.1) (h' := p.2) hi e hj ht]
            have := tokAt_bd (t := p.1) (h' := p.2) hj ht
            have := ih p.1.hi p.2 (by simp at hb; omega) (by omega)
            simp at hb ⊢
            omega
        · rw [toks_end e hj]; simp
end
section
set_option linter.unusedVariables false
set_option linter.unusedSimpArgs false
set_option linter.unnecessarySimpa false
open Go.RowKit
set_option maxHeartbeats 2000000 in
theorem decodeN_enc (n b0 b1 b2 b3 : Nat) (h0 : b0 < 256) (h1 : b1 < 256) (h2 : b2 < 256) (h3 : b3 < 256) (hg : b0 < 128 ∨ 1 < (Lib.decodeN n b0 b1 b2 b3).2) :
    Lib.encodeRuneZ ((Lib.decodeN n b0 b1 b2 b3).1 : Int) = ([(b0 : Int), b1, b2, b3].take (Lib.decodeN n b0 b1 b2 b3).2) := by
  unfold Lib.decodeN at hg ⊢
  by_cases c1 : b0 < 128
  · rw [if_pos c1]
    rw [Lib.encodeRuneZ_one (by omega) (by simp only []; omega)]; rfl
  · rw [if_neg c1] at hg ⊢
    split
    · rename_i c
      rw [if_pos c] at hg
      split
      · rw [Lib.encodeRuneZ_two (by simp only []; omega) (by simp only []; omega)]
        simp only [List.take_succ_cons, List.take_zero, List.cons.injEq, and_true]
        omega
      · rename_i d; rw [if_neg d] at hg; simp at hg; omega
    · rename_i c
      rw [if_neg c] at hg
      split
      · rename_i c'
        rw [if_pos c'] at hg
        split
        · rw [Lib.encodeRuneZ_three (by simp only []; omega)]
          simp only [List.take_succ_cons, List.take_zero, List.cons.injEq, and_true]
          omega
        · rename_i d; rw [if_neg d] at hg; simp at hg; omega
      · rename_i c'
        rw [if_neg c'] at hg
        split
        · rename_i c''
          rw [if_pos c''] at hg
          split
          · rw [Lib.encodeRuneZ_four (by simp only []; omega) (by simp only []; omega)]
            simp only [List.take_succ_cons, List.take_zero, List.cons.injEq, and_true]
            omega
          · rename_i d; rw [if_neg d] at hg; simp at hg; omega
        · rename_i c''; rw [if_neg c''] at hg; simp at hg; omega
/-- A text's bytes, as numbers. -/
def bytesZ (s : ByteArray) : List Int := s.data.toList.map fun x => (x.toNat : Int)
theorem bytesZ_len (s : ByteArray) : (bytesZ s).length = s.size := by simp [bytesZ]
theorem bytesZ_inj {s t : ByteArray} (h : bytesZ s = bytesZ t) : s = t := by
  have h2 : s.data.toList = t.data.toList := List.map_inj_right (f := fun x : UInt8 => (x.toNat : Int)) (fun x y e => UInt8.toNat_inj.1 (Int.ofNat_inj.1 e)) |>.1 h
  exact ByteArray.ext (Array.toList_inj.1 h2)
theorem bytesZ_at {s : ByteArray} {i : Nat} (h : i < s.size) : (bytesZ s).drop i = (bt s i : Int) :: (bytesZ s).drop (i + 1) := by
  rw [List.drop_eq_getElem_cons (by rw [bytesZ_len]; exact h)]
  congr 1
  simp [bytesZ, bt, ByteArray.get!, h]
theorem bytesZ_rune {s : ByteArray} {i : Nat} (h : i < s.size) (hg : gd s i = true) : (bytesZ s).drop i = Lib.encodeRuneZ (rn s i : Int) ++ (bytesZ s).drop (i + wd s i) := by
  have hw := wd_bd h
  have e := decodeN_enc (s.size - i) (bt s i) (bt s (i + 1)) (bt s (i + 2)) (bt s (i + 3)) (bt_lt _ _) (bt_lt _ _) (bt_lt _ _) (bt_lt _ _) (by
    unfold gd wd at hg; rw [dec_eq] at hg; simpa using hg)
  rw [← dec_eq] at e
  change Lib.encodeRuneZ (rn s i : Int) = List.take (wd s i) _ at e
  rw [e]
  generalize wd s i = k at *
  rcases (by omega : k = 1 ∨ k = 2 ∨ k = 3 ∨ k = 4) with rfl | rfl | rfl | rfl
  · rw [bytesZ_at h]; rfl
  · rw [bytesZ_at h, bytesZ_at (show i + 1 < s.size by omega)]; rfl
  · rw [bytesZ_at h, bytesZ_at (show i + 1 < s.size by omega), bytesZ_at (show i + 1 + 1 < s.size by omega)]; rfl
  · rw [bytesZ_at h, bytesZ_at (show i + 1 < s.size by omega), bytesZ_at (show i + 1 + 1 < s.size by omega), bytesZ_at (show i + 1 + 1 + 1 < s.size by omega)]; rfl
/-- Is a text good all through? -/
def good (s : ByteArray) : Bool := (places s).all (gd s)
theorem bytesZ_places (s : ByteArray) : ∀ (n i : Nat), s.size - i ≤ n → i ≤ s.size → (placesAt s i).all (gd s) = true → (bytesZ s).drop i = (placesAt s i).flatMap fun p => Lib.encodeRuneZ (rn s p : Int)
  | 0, i, h, hi, _ => by
    rw [placesAt_end (by omega), List.drop_of_length_le (by rw [bytesZ_len]; omega)]; rfl
  | n + 1, i, h, hi, hg => by
    by_cases hlt : i < s.size
    · have hw := wd_bd hlt
      rw [placesAt_step hlt] at hg ⊢
      rw [List.all_cons, Bool.and_eq_true] at hg
      rw [bytesZ_rune hlt hg.1, List.flatMap_cons, bytesZ_places s n (i + wd s i) (by omega) hw.2.1 hg.2]
    · rw [placesAt_end hlt, List.drop_of_length_le (by rw [bytesZ_len]; omega)]; rfl
theorem good_bytes {s : ByteArray} (h : good s = true) : bytesZ s = (runesOf s).flatMap Lib.encodeRuneZ := by
  have := bytesZ_places s s.size 0 (by omega) (by omega) h
  rw [List.drop_zero] at this
  rw [this]
  unfold runesOf places
  rw [List.flatMap_map]
/-- Two good texts of the same runes are the same. -/
theorem good_inj {s t : ByteArray} (hs : good s = true) (ht : good t = true) (h : runesOf s = runesOf t) : s = t :=
  bytesZ_inj (by rw [good_bytes hs, good_bytes ht, h])
end
section
set_option linter.unusedVariables false
set_option linter.unusedSimpArgs false
set_option linter.unnecessarySimpa false
open Go.RowKit
theorem below_grown {W W' : World} (hb : Below W.heap.size W W') : W.grownBy W' none := ⟨hb.os, hb.tape, hb.output, hb.size, fun i hi _ => hb.block i hi⟩
theorem own_below {W W' : World} {base : Nat} {e : TypeId} {size n : Nat} {v : Value} {xs : List Value} (h : W.ownsRow base e size v n xs) (hb : Below W.heap.size W W') : W'.ownsRow base e size v n xs :=
  h.kept (below_grown hb) (by cases hv : v.ownBlock <;> simp)
theorem own_ge {w : World} {base : Nat} {e : TypeId} {size n : Nat} {v : Value} {xs : List Value} (h : w.ownsRow base e size v n xs) : ∀ k, v.ownBlock = some k → base ≤ k := fun k e => by
  rcases h.2 with ⟨rfl, _⟩ | ⟨g, cap, cur, rfl, hb, _⟩
  · cases e
  · injection e with e; simp at e; omega
theorem own_lt {w : World} {base : Nat} {e : TypeId} {size n : Nat} {v : Value} {xs : List Value} (h : w.ownsRow base e size v n xs) : ∀ k, v.ownBlock = some k → k < w.heap.size := fun k e => by
  rcases h.2 with ⟨rfl, _⟩ | ⟨g, cap, cur, rfl, _, hh, _⟩
  · cases e
  · injection e with e; simp at e; subst e; exact (Array.getElem?_eq_some_iff.1 hh).1
theorem row_grown {W W' : World} {g : Nat} {t : TypeId} {cs : Array Value} {row : Option Nat} (h : Row W g t cs) (hg : W.grownBy W' row) (hne : row ≠ some g) : Row W' g t cs := (hg.block g h.lt (fun e => hne e.symm)).trans h
end
section
set_option linter.unusedVariables false
set_option linter.unusedSimpArgs false
set_option linter.unnecessarySimpa false
open Go.RowKit
theorem own_grown {w w' : World} {base : Nat} {e : TypeId} {size n : Nat} {v : Value} {xs : List Value} {row : Option Nat} (h : w.ownsRow base e size v n xs) (hg : w.grownBy w' row) (hne : ∀ g, v.ownBlock = some g → row ≠ some g) : w'.ownsRow base e size v n xs := by
  refine ⟨h.1, ?_⟩
  rcases h.2 with h0 | ⟨g, cap, cur, rfl, hb, hh, hr⟩
  · exact .inl h0
  · have hlt : g < w.heap.size := (Array.getElem?_eq_some_iff.1 hh).1
    exact .inr ⟨g, cap, cur, rfl, hb, (hg.block g hlt (fun e => hne g rfl e.symm)).trans hh, hr⟩
theorem own_type {w : World} {base : Nat} {e : TypeId} {size n : Nat} {v : Value} {xs : List Value} (h : w.ownsRow base e size v n xs) {g : Nat} (hv : v.ownBlock = some g) : ∃ cur fr, w.heap[g]? = some (.cells cur e fr) := by
  rcases h.2 with ⟨rfl, _⟩ | ⟨g', cap, cur, rfl, hb, hh, hr⟩
  · simp [Value.ownBlock] at hv
  · simp [Value.ownBlock] at hv; subst hv; exact ⟨_, _, hh⟩
theorem own_two {w : World} {b b' : Nat} {e e' : TypeId} {size size' n n' : Nat} {v v' : Value} {xs xs' : List Value} (h : w.ownsRow b e size v n xs) (h' : w.ownsRow b' e' size' v' n' xs') (hne : e ≠ e') : ∀ g, v'.ownBlock = some g → v.ownBlock ≠ some g := fun g hv' hv => by
  obtain ⟨_, _, h1⟩ := own_type h hv
  obtain ⟨_, _, h2⟩ := own_type h' hv'
  rw [h1] at h2; injection h2 with h2; injection h2 with _ h2 _; exact hne h2
theorem iter_grown {w w' : World} {row : Option Nat} {k : Nat} {o : Obj} (h : w.heap[k]? = some o) (hg : w.grownBy w' row) (hne : row ≠ some k) : w'.heap[k]? = some o :=
  (hg.block k (Array.getElem?_eq_some_iff.1 h).1 (fun e => hne e.symm)).trans h
theorem cell_grown {w w' : World} {row : Option Nat} {g : Nat} {v : Value} (h : w.cell? ⟨g, 0, none⟩ = some v) (hg : w.grownBy w' row) (hne : row ≠ some g) : w'.cell? ⟨g, 0, none⟩ = some v := by
  have hlt : g < w.heap.size := by
    rcases Nat.lt_or_ge g w.heap.size with h1 | h1
    · exact h1
    · simp [World.cell?, Array.getElem?_eq_none h1] at h
  exact (World.cell?_of_block (hg.block g hlt (fun e => hne e.symm))).trans h
/-- The rows of what is told of the runes at these places. -/
def atC (l : List Nat) : List Value := l.map fun (p : Nat) => .int .i64 (p : Int)
def runeC (s : ByteArray) (l : List Nat) : List Value := l.map fun (p : Nat) => .int .i32 (rn s p : Int)
theorem atC_snoc (l : List Nat) (p : Nat) : atC (l ++ [p]) = atC l ++ [.int .i64 (p : Int)] := by simp [atC]
theorem runeC_snoc (s : ByteArray) (l : List Nat) (p : Nat) : runeC s (l ++ [p]) = runeC s l ++ [.int .i32 (rn s p : Int)] := by simp [runeC]
end
end Go.Proofs.YtjaijlkonkgnmaaDoor
