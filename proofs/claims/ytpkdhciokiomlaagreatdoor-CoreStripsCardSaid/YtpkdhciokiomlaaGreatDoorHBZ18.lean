/- Some texts of this claim, put together. -/
import Derived.Test.YtpkdhciokiomlaaGreatDoorHBZ1
import Derived.Maps.AppendAt
import Derived.Deep.AppendLies
import Derived.RegionTactic
import Derived.OwnWalk
import Derived.Test.YtpkdhciokiomlaaGreatDoorHBZ27
import Derived.Lib.RuneBytes
import Derived.Lib.OthersKept
import Derived.OneCell
import Derived.WalkSmall
import Derived.Test.YtpkdhciokiomlaaGreatDoorHRefDec
import Derived.Deep.DeepCutAuto
namespace Go.Proofs.YtpkdhciokiomlaaGreatDoor
section
set_option linter.unusedVariables false
set_option linter.unusedSimpArgs false
set_option linter.unnecessarySimpa false
open Go.RowKit

/-- The first m values of a reading. -/
def firsts (f : Nat → Value) (m : Nat) : List Value := (List.range m).map f
theorem firsts_len (f : Nat → Value) (m : Nat) : (firsts f m).length = m := by simp [firsts]
theorem firsts_at {f : Nat → Value} {m j : Nat} (h : j < m) : (firsts f m)[j]? = some (f j) := by simp [firsts, h]
section
variable {P : Program} (w : World)
theorem run_append_nil (base : Nat) (t ty e : TypeId) (i : TypeInfo) (size : Nat) (ht : P.underlying t = some (.slice e)) (hi : P.info? e = some i)
    (v : Value) (n : Nat) (xs : List Value) (hown : w.ownsRow base e size v n xs) (c : Nat) : (Builtin.append_ #[t, t] ty #[v, .slice none 0 c]).run P w = .ok v w := by
  rcases hown.2 with ⟨rfl, rfl⟩ | ⟨g, cap, cur, rfl, _, _, hnc, _⟩
  · simp [Builtin.append_, run_underlying ht, sizeOf, typeInfo, hi, Builtin.lenOf, Builtin.firstCells]
  · simp [Builtin.append_, run_underlying ht, sizeOf, typeInfo, hi, Builtin.lenOf, Builtin.firstCells, hnc, storeCells]
theorem run_append_rd (base : Nat) (t ty e : TypeId) (i : TypeInfo) (z : Value) (bytes : Nat) (ht : P.underlying t = some (.slice e)) (hi : P.info? e = some i) (hz : i.zero = some z)
    (hsize : i.size = 1) (hby : i.bytes = bytes) (hzs : z.cells.size = 1)
    (v : Value) (n : Nat) (xs : List Value) (hown : w.ownsRow base e 1 v n xs)
    (B : Nat) (A : Option Addr) (m c : Nat) (f : Nat → Value) (hr : Rd w B A m f) (h1 : ∀ j, (f j).oneCell' = true)
    (h63 : n + m ≤ maxLen) (hbytes : (n + m) * bytes ≤ 140737488355328) (hbase : base ≤ w.heap.size) :
    ∃ v' w', (Builtin.append_ #[t, t] ty #[v, .slice A m c]).run P w = .ok v' w' ∧ w'.ownsRow base e 1 v' (n + m) (xs ++ firsts f m) ∧ w.grownBy w' v.ownBlock ∧
      (v'.ownBlock = v.ownBlock ∨ v'.ownBlock = some w.heap.size) := by
  rcases A with _ | ad
  · have hm : m = 0 := by
      rcases Nat.eq_zero_or_pos m with h0 | h0
      · exact h0
      · obtain ⟨ad, h, _⟩ := hr.addr h0
        cases h
    subst hm
    exact ⟨v, w, run_append_nil w base t ty e i 1 ht hi v n xs hown c, by simpa [firsts] using hown, World.grownBy.refl w _, .inl rfl⟩
  · have hcells : ∀ j u, (firsts f m)[j]? = some u → w.cell? (ad.add j) = some u := by
      intro j u hu
      have hj : j < m := by have := (List.getElem?_eq_some_iff.1 hu).1; rw [firsts_len] at this; exact this
      rw [firsts_at hj] at hu
      injection hu with hu
      subst hu
      exact hr.at_ rfl hj
    obtain ⟨v', w', hrun, h2, h3, _, h5⟩ := run_append_own_at (P := P) w base t ty e i z 1 bytes ht hi hz hsize hby hzs (by decide) v n xs hown ad m c (firsts f m) (by simp [firsts]) hcells
      (fun u hu => by simp [firsts] at hu; obtain ⟨j, _, rfl⟩ := hu; exact h1 j) h63 hbytes hbase
    exact ⟨v', w', hrun, h2, h3, h5⟩
theorem wp_append_rd {o : Oper} {a : Act} {K : Act → World → Prop} {Q : Exit → Act → World → Prop} (s x : Operand) (t : TypeId)
    (ho : o.op = .call { callee := .builtin .append, args := #[s, x], argTypes := #[t, t] })
    (base : Nat) (e : TypeId) (i : TypeInfo) (z : Value) (bytes : Nat) (ht : P.underlying t = some (.slice e)) (hi : P.info? e = some i) (hz : i.zero = some z)
    (hsize : i.size = 1) (hby : i.bytes = bytes) (hzs : z.cells.size = 1)
    (v : Value) (n : Nat) (xs : List Value) (hs : a.eval s = v) (hown : w.ownsRow base e 1 v n xs)
    (B : Nat) (A : Option Addr) (m c : Nat) (f : Nat → Value) (hx : a.eval x = .slice A m c) (hr : Rd w B A m f) (h1 : ∀ j, (f j).oneCell' = true)
    (h63 : n + m ≤ maxLen) (hbytes : (n + m) * bytes ≤ 140737488355328) (hbase : base ≤ w.heap.size)
    (h : ∀ v' w', w'.ownsRow base e 1 v' (n + m) (xs ++ firsts f m) → w.grownBy w' v.ownBlock → (v'.ownBlock = v.ownBlock ∨ v'.ownBlock = some w.heap.size) → K (a.put o.dst v') w') : o.wp P a w K Q := by
  obtain ⟨v', w', hrun, h2, h3, h4⟩ := run_append_rd (P := P) w base t o.type e i z bytes ht hi hz hsize hby hzs v n xs hown B A m c f hr h1 h63 hbytes hbase
  unfold Oper.wp execOp
  simp only [ho, resolve, invoke, builtin, Sem.run_bind, Sem.run_pure, Result.andThen_ok, List.map_toArray, List.map_cons, List.map_nil, hs, hx, hrun]
  exact h v' w' h2 h3 h4
theorem wpList_append_rd {ops : Array Oper} {rest : List Oper} {o : Oper} {a : Act} {Q : Exit → Act → World → Prop} (hgd : o.guard = none) (s x : Operand) (t : TypeId)
    (ho : o.op = .call { callee := .builtin .append, args := #[s, x], argTypes := #[t, t] })
    (base : Nat) (e : TypeId) (i : TypeInfo) (z : Value) (bytes : Nat) (ht : P.underlying t = some (.slice e)) (hi : P.info? e = some i) (hz : i.zero = some z)
    (hsize : i.size = 1) (hby : i.bytes = bytes) (hzs : z.cells.size = 1)
    (v : Value) (n : Nat) (xs : List Value) (hs : a.eval s = v) (hown : w.ownsRow base e 1 v n xs)
    (B : Nat) (A : Option Addr) (m c : Nat) (f : Nat → Value) (hx : a.eval x = .slice A m c) (hr : Rd w B A m f) (h1 : ∀ j, (f j).oneCell' = true)
    (h63 : n + m ≤ maxLen) (hbytes : (n + m) * bytes ≤ 140737488355328) (hbase : base ≤ w.heap.size)
    (h : ∀ v' w', w'.ownsRow base e 1 v' (n + m) (xs ++ firsts f m) → w.grownBy w' v.ownBlock → (v'.ownBlock = v.ownBlock ∨ v'.ownBlock = some w.heap.size) → wpList P ops Q rest (a.put o.dst v') w') : wpList P ops Q (o :: rest) a w :=
  wpList_plain hgd fun _ hK => wp_append_rd w s x t ho base e i z bytes ht hi hz hsize hby hzs v n xs hs hown B A m c f hx hr h1 h63 hbytes hbase fun v' w' h2 h3 h4 => hK _ _ (h v' w' h2 h3 h4)
end
/-- A new row of cells is the call's own. -/
theorem own_new {w : World} {base : Nat} {e : TypeId} {n : Nat} {cs : Array Value} (hn : cs.size = n) (hb : base ≤ w.heap.size) (hm : n ≤ maxLen) :
    (w.alloc (.cells cs e)).ownsRow base e 1 (.slice (some ⟨w.heap.size, 0, none⟩) n n) n cs.toList := by
  refine ⟨by simpa using hn, .inr ⟨w.heap.size, n, cs, rfl, hb, heap_alloc_new w _, Nat.le_refl _, hm, by omega, ?_⟩⟩
  rw [List.take_of_length_le (by simp; omega)]
theorem rd_one (w : World) (t : TypeId) (u : Value) : Rd (w.alloc (.cells #[u] t)) (w.heap.size + 1) (some ⟨w.heap.size, 0, none⟩) 1 (fun _ => u) := fun j hj => by
  obtain rfl : j = 0 := by omega
  exact ⟨_, rfl, by simp, by rw [add_row, (row_new rfl).cell]; rfl⟩
/-- The slice that owns a row, read. -/
theorem rd_own {w : World} {base : Nat} {e : TypeId} {v : Value} {n : Nat} {xs : List Value} (h : w.ownsRow base e 1 v n xs) : ∃ A c, v = .slice A n c ∧ n ≤ c ∧ ∀ f : Nat → Value, (∀ j, j < n → xs[j]? = some (f j)) → Rd w w.heap.size A n f := by
  rcases h.2 with ⟨rfl, h0⟩ | ⟨g, cap, cur, rfl, _, _, hc, _⟩
  · subst h0; exact ⟨none, 0, rfl, Nat.le_refl _, fun f _ => Rd.none_⟩
  · exact ⟨_, _, rfl, hc, fun f hf => Rd.of_own h hf⟩
theorem ob_ge {g n c b : Nat} (hb : b ≤ g) : ∀ k, (Value.slice (some ⟨g, 0, none⟩) n c).ownBlock = some k → b ≤ k := fun k h => by
  have : g = k := by simpa [Value.ownBlock] using h
  omega
theorem ob_none {b n c : Nat} : ∀ k, (Value.slice none n c).ownBlock = some k → b ≤ k := fun k h => by simp [Value.ownBlock] at h
theorem ob_or {v v' : Value} {b g : Nat} (h : v'.ownBlock = v.ownBlock ∨ v'.ownBlock = some g) (hv : ∀ k, v.ownBlock = some k → b ≤ k) (hg : b ≤ g) : ∀ k, v'.ownBlock = some k → b ≤ k := fun k e => by
  rcases h with q | q
  · rw [q] at e; exact hv k e
  · rw [q] at e; injection e with e; omega
end
section
set_option linter.unusedVariables false
set_option linter.unusedSimpArgs false
set_option linter.unnecessarySimpa false
open Go.RowKit
set_option maxHeartbeats 2000000 in
theorem decodeN_enc (n b0 b1 b2 b3 : Nat) (h0 : b0 < 256) (h1 : b1 < 256) (h2 : b2 < 256) (h3 : b3 < 256) (hg : b0 < 128 ∨ 1 < (Lib.decodeN n b0 b1 b2 b3).2) :
    Lib.encodeRuneZ ((Lib.decodeN n b0 b1 b2 b3).1 : Int) = ([(b0 : Int), b1, b2, b3].take (Lib.decodeN n b0 b1 b2 b3).2) := by
  unfold Lib.decodeN at hg ⊢
  by_cases c1 : b0 < 128
  · rw [if_pos c1]
    rw [Lib.encodeRuneZ_one (by omega) (by simp only []; omega)]; rfl
  · rw [if_neg c1] at hg ⊢
    split
    · rename_i c
      rw [if_pos c] at hg
      split
      · rw [Lib.encodeRuneZ_two (by simp only []; omega) (by simp only []; omega)]
        simp only [List.take_succ_cons, List.take_zero, List.cons.injEq, and_true]
        omega
      · rename_i d; rw [if_neg d] at hg; simp at hg; omega
    · rename_i c
      rw [if_neg c] at hg
      split
      · rename_i c'
        rw [if_pos c'] at hg
        split
        · rw [Lib.encodeRuneZ_three (by simp only []; omega)]
          simp only [List.take_succ_cons, List.take_zero, List.cons.injEq, and_true]
          omega
        · rename_i d; rw [if_neg d] at hg; simp at hg; omega
      · rename_i c'
        rw [if_neg c'] at hg
        split
        · rename_i c''
          rw [if_pos c''] at hg
          split
          · rw [Lib.encodeRuneZ_four (by simp only []; omega) (by simp only []; omega)]
            simp only [List.take_succ_cons, List.take_zero, List.cons.injEq, and_true]
            omega
          · rename_i d; rw [if_neg d] at hg; simp at hg; omega
        · rename_i c''; rw [if_neg c''] at hg; simp at hg; omega
/-- A text's bytes, as numbers. -/
def bytesZ (s : ByteArray) : List Int := s.data.toList.map fun x => (x.toNat : Int)
theorem bytesZ_len (s : ByteArray) : (bytesZ s).length = s.size := by simp [bytesZ]
theorem bytesZ_inj {s t : ByteArray} (h : bytesZ s = bytesZ t) : s = t := by
  have h2 : s.data.toList = t.data.toList := List.map_inj_right (f := fun x : UInt8 => (x.toNat : Int)) (fun x y e => UInt8.toNat_inj.1 (Int.ofNat_inj.1 e)) |>.1 h
  exact ByteArray.ext (Array.toList_inj.1 h2)
theorem bytesZ_at {s : ByteArray} {i : Nat} (h : i < s.size) : (bytesZ s).drop i = (bt s i : Int) :: (bytesZ s).drop (i + 1) := by
  rw [List.drop_eq_getElem_cons (by rw [bytesZ_len]; exact h)]
  congr 1
  simp [bytesZ, bt, ByteArray.get!, h]
theorem bytesZ_rune {s : ByteArray} {i : Nat} (h : i < s.size) (hg : gd s i = true) : (bytesZ s).drop i = Lib.encodeRuneZ (rn s i : Int) ++ (bytesZ s).drop (i + wd s i) := by
  have hw := wd_bd h
  have e := decodeN_enc (s.size - i) (bt s i) (bt s (i + 1)) (bt s (i + 2)) (bt s (i + 3)) (bt_lt _ _) (bt_lt _ _) (bt_lt _ _) (bt_lt _ _) (by
    unfold gd wd at hg; rw [dec_eq] at hg; simpa using hg)
  rw [← dec_eq] at e
  change Lib.encodeRuneZ (rn s i : Int) = List.take (wd s i) _ at e
  rw [e]
  generalize wd s i = k at *
  rcases (by omega : k = 1 ∨ k = 2 ∨ k = 3 ∨ k = 4) with rfl | rfl | rfl | rfl
  · rw [bytesZ_at h]; rfl
  · rw [bytesZ_at h, bytesZ_at (show i + 1 < s.size by omega)]; rfl
  · rw [bytesZ_at h, bytesZ_at (show i + 1 < s.size by omega), bytesZ_at (show i + 1 + 1 < s.size by omega)]; rfl
  · rw [bytesZ_at h, bytesZ_at (show i + 1 < s.size by omega), bytesZ_at (show i + 1 + 1 < s.size by omega), bytesZ_at (show i + 1 + 1 + 1 < s.size by omega)]; rfl
/-- Is a text good all through? -/
def good (s : ByteArray) : Bool := (places s).all (gd s)
theorem bytesZ_places (s : ByteArray) : ∀ (n i : Nat), s.size - i ≤ n → i ≤ s.size → (placesAt s i).all (gd s) = true → (bytesZ s).drop i = (placesAt s i).flatMap fun p => Lib.encodeRuneZ (rn s p : Int)
  | 0, i, h, hi, _ => by
    rw [placesAt_end (by omega), List.drop_of_length_le (by rw [bytesZ_len]; omega)]; rfl
  | n + 1, i, h, hi, hg => by
    by_cases hlt : i < s.size
    · have hw := wd_bd hlt
      rw [placesAt_step hlt] at hg ⊢
      rw [List.all_cons, Bool.and_eq_true] at hg
      rw [bytesZ_rune hlt hg.1, List.flatMap_cons, bytesZ_places s n (i + wd s i) (by omega) hw.2.1 hg.2]
    · rw [placesAt_end hlt, List.drop_of_length_le (by rw [bytesZ_len]; omega)]; rfl
theorem good_bytes {s : ByteArray} (h : good s = true) : bytesZ s = (runesOf s).flatMap Lib.encodeRuneZ := by
  have := bytesZ_places s s.size 0 (by omega) (by omega) h
  rw [List.drop_zero] at this
  rw [this]
  unfold runesOf places
  rw [List.flatMap_map]
/-- Two good texts of the same runes are the same. -/
theorem good_inj {s t : ByteArray} (hs : good s = true) (ht : good t = true) (h : runesOf s = runesOf t) : s = t :=
  bytesZ_inj (by rw [good_bytes hs, good_bytes ht, h])
end
section
set_option linter.unusedVariables false
set_option linter.unusedSimpArgs false
set_option linter.unnecessarySimpa false
open Go.RowKit
theorem below_grown {W W' : World} (hb : Below W.heap.size W W') : W.grownBy W' none := ⟨hb.os, hb.tape, hb.output, hb.size, fun i hi _ => hb.block i hi⟩
theorem own_below {W W' : World} {base : Nat} {e : TypeId} {size n : Nat} {v : Value} {xs : List Value} (h : W.ownsRow base e size v n xs) (hb : Below W.heap.size W W') : W'.ownsRow base e size v n xs :=
  h.kept (below_grown hb) (by cases hv : v.ownBlock <;> simp)
theorem own_ge {w : World} {base : Nat} {e : TypeId} {size n : Nat} {v : Value} {xs : List Value} (h : w.ownsRow base e size v n xs) : ∀ k, v.ownBlock = some k → base ≤ k := fun k e => by
  rcases h.2 with ⟨rfl, _⟩ | ⟨g, cap, cur, rfl, hb, _⟩
  · cases e
  · injection e with e; simp at e; omega
theorem own_lt {w : World} {base : Nat} {e : TypeId} {size n : Nat} {v : Value} {xs : List Value} (h : w.ownsRow base e size v n xs) : ∀ k, v.ownBlock = some k → k < w.heap.size := fun k e => by
  rcases h.2 with ⟨rfl, _⟩ | ⟨g, cap, cur, rfl, _, hh, _⟩
  · cases e
  · injection e with e; simp at e; subst e; exact (Array.getElem?_eq_some_iff.1 hh).1
theorem row_grown {W W' : World} {g : Nat} {t : TypeId} {cs : Array Value} {row : Option Nat} (h : Row W g t cs) (hg : W.grownBy W' row) (hne : row ≠ some g) : Row W' g t cs := (hg.block g h.lt (fun e => hne e.symm)).trans h
end
section
set_option linter.unusedVariables false
set_option linter.unusedSimpArgs false
set_option linter.unnecessarySimpa false
open Go.RowKit
theorem own_grown {w w' : World} {base : Nat} {e : TypeId} {size n : Nat} {v : Value} {xs : List Value} {row : Option Nat} (h : w.ownsRow base e size v n xs) (hg : w.grownBy w' row) (hne : ∀ g, v.ownBlock = some g → row ≠ some g) : w'.ownsRow base e size v n xs := by
  refine ⟨h.1, ?_⟩
  rcases h.2 with h0 | ⟨g, cap, cur, rfl, hb, hh, hr⟩
  · exact .inl h0
  · have hlt : g < w.heap.size := (Array.getElem?_eq_some_iff.1 hh).1
    exact .inr ⟨g, cap, cur, rfl, hb, (hg.block g hlt (fun e => hne g rfl e.symm)).trans hh, hr⟩
theorem own_type {w : World} {base : Nat} {e : TypeId} {size n : Nat} {v : Value} {xs : List Value} (h : w.ownsRow base e size v n xs) {g : Nat} (hv : v.ownBlock = some g) : ∃ cur fr, w.heap[g]? = some (.cells cur e fr) := by
  rcases h.2 with ⟨rfl, _⟩ | ⟨g', cap, cur, rfl, hb, hh, hr⟩
  · simp [Value.ownBlock] at hv
  · simp [Value.ownBlock] at hv; subst hv; exact ⟨_, _, hh⟩
theorem own_two {w : World} {b b' : Nat} {e e' : TypeId} {size size' n n' : Nat} {v v' : Value} {xs xs' : List Value} (h : w.ownsRow b e size v n xs) (h' : w.ownsRow b' e' size' v' n' xs') (hne : e ≠ e') : ∀ g, v'.ownBlock = some g → v.ownBlock ≠ some g := fun g hv' hv => by
  obtain ⟨_, _, h1⟩ := own_type h hv
  obtain ⟨_, _, h2⟩ := own_type h' hv'
  rw [h1] at h2; injection h2 with h2; injection h2 with _ h2 _; exact hne h2
theorem iter_grown {w w' : World} {row : Option Nat} {k : Nat} {o : Obj} (h : w.heap[k]? = some o) (hg : w.grownBy w' row) (hne : row ≠ some k) : w'.heap[k]? = some o :=
  (hg.block k (Array.getElem?_eq_some_iff.1 h).1 (fun e => hne e.symm)).trans h
theorem cell_grown {w w' : World} {row : Option Nat} {g : Nat} {v : Value} (h : w.cell? ⟨g, 0, none⟩ = some v) (hg : w.grownBy w' row) (hne : row ≠ some g) : w'.cell? ⟨g, 0, none⟩ = some v := by
  have hlt : g < w.heap.size := by
    rcases Nat.lt_or_ge g w.heap.size with h1 | h1
    · exact h1
    · simp [World.cell?, Array.getElem?_eq_none h1] at h
  exact (World.cell?_of_block (hg.block g hlt (fun e => hne e.symm))).trans h
/-- The rows of what is told of the runes at these places. -/
def atC (l : List Nat) : List Value := l.map fun (p : Nat) => .int .i64 (p : Int)
def runeC (s : ByteArray) (l : List Nat) : List Value := l.map fun (p : Nat) => .int .i32 (rn s p : Int)
theorem atC_snoc (l : List Nat) (p : Nat) : atC (l ++ [p]) = atC l ++ [.int .i64 (p : Int)] := by simp [atC]
theorem runeC_snoc (s : ByteArray) (l : List Nat) (p : Nat) : runeC s (l ++ [p]) = runeC s l ++ [.int .i32 (rn s p : Int)] := by simp [runeC]
end
section
set_option linter.unusedVariables false
set_option linter.unusedSimpArgs false
set_option linter.unnecessarySimpa false
open Go.RowKit
attribute [local go_sem] cell_alloc_add cell_set_add lt_more
/-- A row's cells. -/
def rowC (s : ByteArray) (i : Nat) : List Value := [.int .i64 (i : Int), .int .i32 (rn s i : Int), .int .i64 (wd s i : Int), .bool (gd s i)]
def rowsC (s : ByteArray) (l : List Nat) : List Value := l.flatMap (rowC s)
theorem rowsC_snoc (s : ByteArray) (l : List Nat) (i : Nat) : rowsC s (l ++ [i]) = rowsC s l ++ rowC s i := by simp [rowsC]
theorem infoRow : (Tryz.prog.info? 100).map (fun i => (i.zero, i.size, i.bytes)) = some (some (.agg #[.int .i64 0, .int .i32 0, .int .i64 0, .bool false]), 4, 32) := by kernel_rfl
theorem rowC_lies (s : ByteArray) (k : Nat) {w : World} {g : Nat} {t : TypeId} (h : Row w g t #[.int .i64 (k : Int), .int .i32 (rn s k : Int), .int .i64 (wd s k : Int), .bool (gd s k)]) : ∀ j u, (rowC s k)[j]? = some u → w.cell? ((⟨g, 0, none⟩ : Addr).add j) = some u := fun j u hj => by
  rw [add_row, h.cell, Nat.zero_add, ← hj]
  simp [rowC]
theorem rowC_one (s : ByteArray) (k : Nat) : ∀ u ∈ rowC s k, u.oneCell' = true := by intro u hu; simp [rowC] at hu; rcases hu with rfl | rfl | rfl | rfl <;> rfl
set_option maxRecDepth 100000 in
set_option maxHeartbeats 4000000 in
theorem rRunes_any (s : ByteArray) (A : Option Addr) (c : Nat) (hs : s.size ≤ 1099511627776) (hcap : s.size ≤ c) (w : World) {B : Nat} (hB : B ≤ w.heap.size) (h : Rd w B A s.size (byteC s)) :
    Calls Tryz.prog 101 #[.slice A s.size c] w fun e w' => (∃ v, e = .returned v ∧ w'.ownsRow w.heap.size 100 4 v (places s).length (rowsC s (places s))) ∧ Below w.heap.size w w' := by
  obtain ⟨i0, hi, iz0, iz1, iz2⟩ := info_parts infoRow
  go_enter Tryz.func101, Tryz.ntmps101
  go_wp2
  go_loopw [3, 4] (fun v a wr => ∃ (pre : List Nat) (k : Nat), a = .int .i64 k ∧ AtPlace s pre k ∧ wr.ownsRow w.heap.size 100 4 v pre.length (rowsC s pre) ∧ Below w.heap.size w wr) (fun _ a _ => s.size - (intOf a).toNat)
  case atStart => exact ⟨[], 0, rfl, AtPlace.start s, World.ownsRow_nil _ _ _ _, Below.refl _ _⟩
  case round =>
    obtain ⟨pre, k, rfl, hp, hown, hb⟩ := hrel
    have hz := hb.size
    have hk := hp.2
    have hpl := hp.len
    have hr0 := (h.below (hb.mono hB))
    by_cases hlt : k < s.size
    · have hw := wd_bd hlt
      go_wp2_with (first
        | (go_at_call 113; (with_reducible refine (rDecode_in s A c k hlt (by omega) hcap wr (by omega) hr0).mono ?_); rintro e w1 ⟨rfl, hb1⟩; have hz1 := Below.size hb1; have hown1 := own_below hown hb1)
        | (at_builtin; refine wpList_append_own _ rfl _ _ 97 rfl w.heap.size 100 i0 _ 4 32 Tryz.underlying97 hi iz0 iz1 iz2 rfl (by decide) _ _ _ rfl ((hown1.alloc _).alloc _) ⟨w1.heap.size + 1, 0, none⟩ 1 1 (rowC s k) rfl rfl (rowC_lies s k (row_new (by simp))) (rowC_one s k) (by unfold maxLen; omega) (by omega) (by simp; omega) ?_; intro v2 w2 hown2 hg2 _; have hrw := row_grown (g := w1.heap.size) (Row.alloc (row_new rfl) _) hg2 (fun e => absurd (own_lt hown1 _ e) (by omega)); have hc2 := hrw.cell 2; simp at hc2))
      go_roundw
      case rel => exact ⟨pre ++ [k], k + wd s k, by go_num, hp.step hlt, by rw [rowsC_snoc, List.length_append]; exact hown2, (((hb.trans (hb1.mono hz)).alloc (by omega) _).alloc (by simp; omega) _).grown hg2 (by simp; omega) (own_ge hown1)⟩
      case measure => simp [intOf]; omega
    · have hf := Lib.hid (hp.fin hlt)
      go_wp2
      go_ret
      refine ⟨⟨_, rfl, ?_⟩, hb⟩
      rw [← hf.out]; exact hown

end
section
set_option linter.unusedVariables false
set_option linter.unusedSimpArgs false
set_option linter.unnecessarySimpa false
open Go.RowKit
attribute [local go_sem] cell_alloc_add cell_set_add lt_more
theorem rowsG_at (s : ByteArray) : ∀ (l : List Nat) (k p j : Nat), l[k]? = some p → j < 4 → (rowsC s l)[k * 4 + j]? = (rowC s p)[j]? := by
  intro l
  induction l with
  | nil => intro k p j h _; simp at h
  | cons a l ih =>
    intro k p j h hj
    have e : rowsC s (a :: l) = rowC s a ++ rowsC s l := by simp [rowsC]
    have hl : (rowC s a).length = 4 := rfl
    rw [e]
    cases k with
    | zero => simp at h; subst h; rw [List.getElem?_append_left (by omega)]; simp
    | succ k => simp at h; rw [List.getElem?_append_right (by omega), hl, show (k + 1) * 4 + j - 4 = k * 4 + j by omega]; exact ih k p j h hj
/-- A row of the reference's rows, read: is the k-th one good? -/
theorem rows_good {w : World} {B : Nat} {v : Value} {s : ByteArray} (hown : w.ownsRow B 100 4 v (places s).length (rowsC s (places s))) :
    ∃ A c, v = .slice A (places s).length c ∧ ∀ k p, (places s)[k]? = some p → ∃ g, A = some ⟨g, 0, none⟩ ∧ g < w.heap.size ∧ w.cell? ⟨g, k * 4 + 3, none⟩ = some (.bool (gd s p)) := by
  rcases hown.2 with ⟨rfl, h0⟩ | ⟨g, cap, cur, rfl, _⟩
  · exact ⟨none, 0, by rw [h0], fun k p hk => by
      have := (List.getElem?_eq_some_iff.1 hk).1; omega⟩
  · refine ⟨_, _, rfl, fun k p hp => ⟨g, rfl, own_lt hown g rfl, ?_⟩⟩
    have := hown.cells (g := g) rfl (k * 4 + 3) (.bool (gd s p)) (by rw [rowsG_at s _ k p 3 hp (by omega)]; rfl)
    rwa [add_row, Nat.zero_add] at this
/-- Are the first k runes good? -/
def goodTo (s : ByteArray) (k : Nat) : Bool := ((places s).take k).all (gd s)
theorem goodTo_step {s : ByteArray} {k p : Nat} (h : (places s)[k]? = some p) (hg : gd s p = true) (ht : goodTo s k = true) : goodTo s (k + 1) = true := by
  unfold goodTo at *
  rw [List.take_add_one, h, List.all_append, ht]
  simp [hg]
theorem good_bad {s : ByteArray} {k p : Nat} (h : (places s)[k]? = some p) (hg : gd s p = false) : good s = false := by
  unfold good
  rw [List.all_eq_false]
  exact ⟨p, List.mem_of_getElem? h, by simp [hg]⟩
theorem good_fin {s : ByteArray} (h : goodTo s (places s).length = true) : good s = true := by
  unfold goodTo at h
  rwa [List.take_length] at h
set_option maxRecDepth 100000 in
set_option maxHeartbeats 4000000 in
theorem rGood_any (s : ByteArray) (hs : s.size ≤ 1099511627776) (w : World) :
    Calls Tryz.prog 86 #[.string s] w fun e w' => e = .returned (.bool (good s)) ∧ Below w.heap.size w w' := by
  have kb := fun (w : World) (x : ByteArray) => run_bytes_of_string (P := Tryz.prog) w 9 83 5 x Tryz.underlying9 Tryz.underlying83 Tryz.underlying5
  have hls := places_len s
  go_enter Tryz.func86, Tryz.ntmps86
  go_upto_region 2 with (first | (go_at_call 101; (with_reducible refine (rRunes_any s (some ⟨w.heap.size, 0, none⟩) _ hs (grownCap_ge _ _ _ _) _ (by simp) (rd_row w s _ _ _).drew).mono ?_); rintro e w1 ⟨⟨v, rfl, hown⟩, hb1⟩))
  obtain ⟨A, c, rfl, hr⟩ := rows_good hown
  have hb : Below w.heap.size w w1 := ((Below.refl _ w).alloc (Nat.le_refl _) _).drew.trans (hb1.mono (by simp))
  have HR := Lib.hid hr
  clear hr hown hb1 kb
  have HN : Hid ((places s).length = (places s).length) := Lib.hid rfl
  go_wp2
  go_loop [4] (fun i => ∃ k : Nat, k ≤ (places s).length ∧ i = .int .i64 k ∧ goodTo s k = true) (fun i => (places s).length - (intOf i).toNat)
  case atStart => exact ⟨0, Nat.zero_le _, rfl, rfl⟩
  case round =>
    obtain ⟨k, hk, rfl, hg⟩ := hrel
    have HG := Lib.hid hg
    clear hg
    by_cases hlt : k < (places s).length
    · obtain ⟨p, hp⟩ : ∃ p, (places s)[k]? = some p := ⟨_, List.getElem?_eq_getElem hlt⟩
      obtain ⟨g, rfl, l1, c1⟩ := HR.out k p hp
      have HP := Lib.hid hp
      clear hp
      cases hgd : gd s p
      · have HD := Lib.hid hgd
        rw [hgd] at c1
        clear hgd
        go_wp2
        go_ret
        exact ⟨by rw [good_bad HP.out HD.out]; rfl, hb⟩
      · have HD := Lib.hid hgd
        rw [hgd] at c1
        clear hgd
        go_wp2
        go_round
        case rel => exact ⟨k + 1, by omega, by go_num, goodTo_step HP.out HD.out HG.out⟩
        case measure => simp [intOf]; omega
    · obtain rfl : k = (places s).length := by omega
      go_wp2
      go_ret
      exact ⟨by rw [good_fin HG.out]; rfl, hb⟩
end
end Go.Proofs.YtpkdhciokiomlaaGreatDoor
