/- The walk of chapter 1's law TextRunes. -/
import Derived.Test.YtlfigpmechocmaaDoorL1
import Derived.Test.YtlfigpmechocmaaDoorW10
import Derived.Test.YtlfigpmechocmaaDoorW12
import Derived.Test.YtlfigpmechocmaaDoorTwo
import Derived.Deep.DeepCutAuto
import Derived.Laws.EntriesVeiled
namespace Go.Proofs.YtlfigpmechocmaaDoor
set_option linter.unusedVariables false
set_option linter.unusedSimpArgs false
set_option linter.unnecessarySimpa false
open Go.RowKit
attribute [local go_sem] cell_alloc_add cell_set_add lt_more
theorem seqR (fn : Fn) (f c : Array Value) (w : World) : (binOp .eql 35 (.func fn f c) .nilFunc).run Tryd.prog w = .ok (.bool false) w := by
  kernel_rfl
attribute [local go_sem] seqR
theorem set_same {W : World} {g : Nat} {t : TypeId} {v : Value} (h : Row W g t #[v]) : W.setCell ⟨g, 0, none⟩ v = W := by
  have e : (W.setCell ⟨g, 0, none⟩ v).heap = W.heap := by
    apply Array.ext_getElem?
    intro i
    have hp := row_put1 h v
    by_cases c : g = i
    · subst c
      unfold Row at h hp
      rw [h, hp]
    · exact heap_setCell_other _ _ _ _ (by simpa using fun e => c e.symm)
  cases W
  simp only [World.setCell] at e ⊢
  rw [e]
/-- What stands while the law goes on. -/
structure Base (s : ByteArray) (stop : Int) (p3 p5 p6 Bs : Nat) (A : Option Addr) (c : Nat) (w : World) : Prop where
  c3 : w.cell? ⟨p3, 0, none⟩ = some (.int .i64 stop)
  c5 : w.cell? ⟨p5, 0, none⟩ = some (.slice A (places s).length c)
  c6 : w.cell? ⟨p6, 0, none⟩ = some (.func (.func 33) #[] #[.pointer (some ⟨Bs, 0, none⟩)])
  cB : w.cell? ⟨Bs, 0, none⟩ = some (.string s)
  rows : ∀ (k p : Nat), (places s)[k]? = some p → ∃ g, A = some ⟨g, 0, none⟩ ∧ g < w.heap.size ∧ w.cell? ⟨g, k * 4, none⟩ = some (.int .i64 (p : Int)) ∧ w.cell? ⟨g, k * 4 + 1, none⟩ = some (.int .i32 (rn s p : Int))
theorem Base.later {s : ByteArray} {stop : Int} {p3 p5 p6 Bs : Nat} {A : Option Addr} {c : Nat} {w W : World} (h : Base s stop p3 p5 p6 Bs A c w) (hb : Below w.heap.size w W) : Base s stop p3 p5 p6 Bs A c W where
  c3 := (hb.cell (p := ⟨p3, 0, none⟩) (cell_lt h.c3)).trans h.c3
  c5 := (hb.cell (p := ⟨p5, 0, none⟩) (cell_lt h.c5)).trans h.c5
  c6 := (hb.cell (p := ⟨p6, 0, none⟩) (cell_lt h.c6)).trans h.c6
  cB := (hb.cell (p := ⟨Bs, 0, none⟩) (cell_lt h.cB)).trans h.cB
  rows k p hp := by
    obtain ⟨g, e, hl, h1, h2⟩ := h.rows k p hp
    exact ⟨g, e, Nat.lt_of_lt_of_le hl hb.size, (hb.cell (p := ⟨g, k * 4, none⟩) hl).trans h1, (hb.cell (p := ⟨g, k * 4 + 1, none⟩) hl).trans h2⟩
set_option maxRecDepth 100000 in
set_option maxHeartbeats 4000000 in
theorem run11_any (k r : Int) (i n c g O K p5 : Nat) (hi : i < n) (hn : n ≤ 140737488351232) (W : World) (hO : Row W O 4 #[.bool true]) (hK : Row W K 3 #[.int .i64 (i : Int)])
    (h5 : W.cell? ⟨p5, 0, none⟩ = some (.slice (some ⟨g, 0, none⟩) n c)) (h1 : W.cell? ⟨g, i * 4, none⟩ = some (.int .i64 k)) (h2 : W.cell? ⟨g, i * 4 + 1, none⟩ = some (.int .i32 r)) :
    Calls Tryd.prog 18 #[.int .i64 k, .int .i32 r, .pointer (some ⟨O, 0, none⟩), .pointer (some ⟨K, 0, none⟩), .pointer (some ⟨p5, 0, none⟩)] W
      fun e W' => e = .returned (.bool true) ∧ W' = W.setCell ⟨K, 0, none⟩ (.int .i64 ((i : Int) + 1)) := by
  have hs := set_same hO
  have d1 := hO.cell 0
  have d2 := hK.cell 0
  have f1 := hO.free 0
  have f2 := hK.free 0
  have l1 := hO.lt
  have l2 := hK.lt
  have hne : K ≠ O := fun e => by subst e; rw [d1] at d2; cases d2
  have d3 : (W.setCell ⟨K, 0, none⟩ (.int .i64 ((i : Int) + 1))).cell? ⟨O, 0, none⟩ = some (.bool true) := (hO.far (by simpa using hne.symm) _).cell 0
  go_enter Tryd.func18, Tryd.ntmps18
  go_wp2
  go_ret
  exact ⟨rfl, rfl⟩
/-- Where a loop over the program's own iterator stands. -/
def It (M : Nat) (wr : World) (pre : List Nat) (W : World) : Prop := Row W M 3 #[.int .i64 (pre.length : Int)] ∧ Row W (M + 1) 4 #[.bool true] ∧ Below M wr W
/-- Where the inner loop stands. -/
def In (wi : World) (pre : List Nat) (W : World) : Prop := Row W wi.heap.size 3 #[.int .i64 (pre.length : Int)] ∧ Below wi.heap.size wi W
theorem fn11 (args : Array Value) (w : World) : (callFunc 18 args).run Tryd.prog w = .ok (.enter 18 args) w := Tryd.call18 args w
theorem fn1 (args : Array Value) (w : World) : (callFunc 17 args).run Tryd.prog w = .ok (.enter 17 args) w := Tryd.call17 args w
theorem fn2 (args : Array Value) (w : World) : (callFunc 19 args).run Tryd.prog w = .ok (.enter 19 args) w := Tryd.call19 args w
theorem pre_at {s : ByteArray} {pre : List Nat} {k : Nat} (hp : AtPlace s pre k) (hk : k < s.size) : (places s)[pre.length]? = some k := by rw [hp.1, placesAt_step hk]; simp
theorem run11_in (s : ByteArray) (hs : s.size ≤ 140737488351232) (stop : Int) (p3 p5 p6 Bs : Nat) (A : Option Addr) (c O : Nat) (wi : World) (hB : Base s stop p3 p5 p6 Bs A c wi) (hO : Row wi O 4 #[.bool true])
    (pre : List Nat) (k : Nat) (W : World) (hJ : In wi pre W) (hp : AtPlace s pre k) (hk : k < s.size) :
    Calls Tryd.prog 18 (#[.int .i64 (k : Int), .int .i32 (rn s k : Int)] ++ #[.pointer (some ⟨O, 0, none⟩), .pointer (some ⟨wi.heap.size, 0, none⟩), .pointer (some ⟨p5, 0, none⟩)]) W fun e W' =>
      (e = .returned (.bool true) ∧ In wi (pre ++ [k]) W' ∧ KeepC Bs W W') ∨ (e = .returned (.bool false) ∧ False) := by
  obtain ⟨hK, hb⟩ := hJ
  have hpk := pre_at hp hk
  have hlt : pre.length < (places s).length := (List.getElem?_eq_some_iff.1 hpk).1
  have hmm := places_len s
  have hB2 := hB.later hb
  obtain ⟨g, rfl, _, d1, d2⟩ := hB2.rows _ _ hpk
  refine (run11_any k (rn s k) pre.length (places s).length c g O wi.heap.size p5 hlt (by omega) W (hO.below hb hO.lt) hK hB2.c5 d1 d2).mono ?_
  rintro e W' ⟨rfl, rfl⟩
  refine .inl ⟨rfl, ⟨?_, hb.setCell (Nat.le_refl _) _⟩, ?_⟩
  · have := row_put1 hK (.int .i64 ((pre.length : Int) + 1))
    simpa using this
  · intro v hv
    have := cell_lt hB.cB
    rw [World.cell?_setCell_other _ _ _ _ (by simp <;> omega)]; exact hv
set_option maxRecDepth 100000 in
set_option maxHeartbeats 4000000 in
theorem run1_any (s : ByteArray) (hs : s.size ≤ 140737488351232) (stop : Int) (p3 p5 p6 Bs g c : Nat) (O N i : Nat) (k r : Int) (hi : i < (places s).length) (W : World) (hB : Base s stop p3 p5 p6 Bs (some ⟨g, 0, none⟩) c W)
    (hO : Row W O 4 #[.bool true]) (hN : Row W N 3 #[.int .i64 (i : Int)]) (h1 : W.cell? ⟨g, i * 4, none⟩ = some (.int .i64 k)) (h2 : W.cell? ⟨g, i * 4 + 1, none⟩ = some (.int .i32 r)) :
    Calls Tryd.prog 17 #[.int .i64 k, .int .i32 r, .pointer (some ⟨O, 0, none⟩), .pointer (some ⟨N, 0, none⟩), .pointer (some ⟨p5, 0, none⟩), .pointer (some ⟨p3, 0, none⟩), .pointer (some ⟨p6, 0, none⟩)] W
      fun e W' => e = .returned (.bool true) ∧ ∃ W1, Below W.heap.size W W1 ∧ W' = W1.setCell ⟨N, 0, none⟩ (.int .i64 ((i : Int) + 1)) := by
  have hmm := places_len s
  have hs1 := set_same hO
  have d1 := hO.cell 0
  have d2 := hN.cell 0
  have f1 := hO.free 0
  have f2 := hN.free 0
  have l1 := hO.lt
  have l2 := hN.lt
  have hne : N ≠ O := fun e => by subst e; rw [d1] at d2; cases d2
  have c3 := hB.c3
  have c5 := hB.c5
  have c6 := hB.c6
  have cB := hB.cB
  have n3 := cell_lt c3
  have n5 := cell_lt c5
  have n6 := cell_lt c6
  have nB := cell_lt cB
  by_cases hst : (i : Int) = stop
  · have HY := Lib.hid (run11_in s hs stop p3 p5 p6 Bs (some ⟨g, 0, none⟩) c O W hB hO)
    have h0 : In W [] (W.alloc (.cells #[.int .i64 0] 3)) := ⟨row_new rfl, (Below.refl _ W).alloc (Nat.le_refl _) _⟩
    have hJ : ∀ pre W0 W', In W pre W0 → W0.grownBy W' none → Below W0.heap.size W0 W' → In W pre W' := fun pre W0 W' ⟨a1, a3⟩ _ hbW => ⟨a1.below hbW a1.lt, a3.trans (hbW.mono a3.size)⟩
    have hcB : (W.alloc (.cells #[.int .i64 0] 3)).cell? ⟨Bs, 0, none⟩ = some (.string s) := (World.cell?_alloc_lt _ _ _ nB).trans cB
    have HJ := Lib.hid hJ
    have H0 := Lib.hid h0
    have HO := Lib.hid hO
    have HN := Lib.hid hN
    have HC := Lib.hid hcB
    clear hJ h0 hB hcB
    subst hst
    go_enter Tryd.func17, Tryd.ntmps17
    go_wp2_with (first
      | (go_at_call 33; go_must (refine (Runes1_call 18 #[.pointer (some ⟨O, 0, none⟩), .pointer (some ⟨W.heap.size, 0, none⟩), .pointer (some ⟨p5, 0, none⟩)] Bs s hs (In W) (fun _ _ => False) fn11 HJ.out HY.out _ HC.out H0.out).mono ?_); rintro e w3 ⟨⟨v, rfl⟩, hor⟩; obtain ⟨rK, b3⟩ := hor.resolve_right (fun ⟨_, h⟩ => h); have dK := rK.cell 0; have lK := rK.lt; have rO3 := HO.out.below b3 HO.out.lt; have rN3 := HN.out.below b3 HN.out.lt; have dO := rO3.cell 0; have fO := rO3.free 0; have lO := rO3.lt; have dN := rN3.cell 0; have fN := rN3.free 0; have lN := rN3.lt; have hs3 := set_same rO3; have d53 := (b3.cell (p := ⟨p5, 0, none⟩) n5).trans c5; have z3 := b3.size))
    go_ret
    exact ⟨rfl, w3, b3.mono (Nat.le_refl _), rfl⟩
  · have est : ((i : Int) == stop) = false := by simpa using hst
    go_enter Tryd.func17, Tryd.ntmps17
    go_wp2
    go_ret
    exact ⟨rfl, W, Below.refl _ _, rfl⟩
theorem run1_in (s : ByteArray) (hs : s.size ≤ 140737488351232) (stop : Int) (p3 p5 p6 Bs : Nat) (A : Option Addr) (c : Nat) (wr : World) (hB : Base s stop p3 p5 p6 Bs A c wr)
    (pre : List Nat) (k : Nat) (W : World) (hJ : It wr.heap.size wr pre W) (hp : AtPlace s pre k) (hk : k < s.size) :
    Calls Tryd.prog 17 (#[.int .i64 (k : Int), .int .i32 (rn s k : Int)] ++ #[.pointer (some ⟨wr.heap.size + 1, 0, none⟩), .pointer (some ⟨wr.heap.size, 0, none⟩), .pointer (some ⟨p5, 0, none⟩), .pointer (some ⟨p3, 0, none⟩), .pointer (some ⟨p6, 0, none⟩)]) W fun e W' =>
      (e = .returned (.bool true) ∧ It wr.heap.size wr (pre ++ [k]) W' ∧ KeepC Bs W W') ∨ (e = .returned (.bool false) ∧ False) := by
  obtain ⟨hN, hO, hb⟩ := hJ
  have hpk := pre_at hp hk
  have hlt : pre.length < (places s).length := (List.getElem?_eq_some_iff.1 hpk).1
  have hB2 := hB.later hb
  obtain ⟨g, rfl, _, d1, d2⟩ := hB2.rows _ _ hpk
  refine (run1_any s hs stop p3 p5 p6 Bs g c (wr.heap.size + 1) wr.heap.size pre.length k (rn s k) hlt W hB2 hO hN d1 d2).mono ?_
  rintro e W' ⟨rfl, W1, h1, rfl⟩
  have hz := hb.size
  refine .inl ⟨rfl, ⟨?_, ?_, ?_⟩, ?_⟩
  · have := row_put1 (hN.below h1 hN.lt) (.int .i64 ((pre.length : Int) + 1))
    simpa using this
  · exact (hO.below h1 hO.lt).far (by simp) _
  · exact (hb.trans (h1.mono hz)).setCell (Nat.le_refl _) _
  · intro v hv
    have hl := cell_lt hB.cB
    rw [World.cell?_setCell_other _ _ _ _ (by simp <;> omega)]
    exact (h1.cell (p := ⟨Bs, 0, none⟩) (by show Bs < _; omega)).trans hv
set_option maxHeartbeats 1000000 in
theorem run2_any (k r stop : Int) (i N p3 : Nat) (hi : i ≤ 140737488351232) (W : World) (hN : Row W N 3 #[.int .i64 (i : Int)]) (c3 : W.cell? ⟨p3, 0, none⟩ = some (.int .i64 stop)) (hne : N ≠ p3) :
    Calls Tryd.prog 19 #[.int .i64 k, .int .i32 r, .pointer (some ⟨N, 0, none⟩), .pointer (some ⟨p3, 0, none⟩)] W
      fun e W' => e = .returned (.bool (decide ((i : Int) + 1 ≤ stop))) ∧ W' = W.setCell ⟨N, 0, none⟩ (.int .i64 ((i : Int) + 1)) := by
  have d2 := hN.cell 0
  have f2 := hN.free 0
  have l2 := hN.lt
  have d3 := (row_put1 hN (.int .i64 ((i : Int) + 1))).cell 0
  have d4 : (W.setCell ⟨N, 0, none⟩ (.int .i64 ((i : Int) + 1))).cell? ⟨p3, 0, none⟩ = some (.int .i64 stop) := by
    rw [World.cell?_setCell_other _ _ _ _ (by simp [hne])]; exact c3
  go_enter Tryd.func19, Tryd.ntmps19
  go_wp2
  go_ret
  exact ⟨rfl, rfl⟩
/-- The third loop: so many were handed on, and the last answer was yes. -/
def Cn (stop : Int) (M : Nat) (wr : World) (pre : List Nat) (W : World) : Prop := Row W M 3 #[.int .i64 (pre.length : Int)] ∧ Below M wr W ∧ (pre = [] ∨ (pre.length : Int) ≤ stop)
/-- .. and it was left. -/
def Cx (s : ByteArray) (stop : Int) (M : Nat) (wr : World) (pre : List Nat) (W : World) : Prop := Row W M 3 #[.int .i64 (pre.length : Int)] ∧ Below M wr W ∧ pre.length ≤ (places s).length ∧ ((stop ≤ 0 ∧ pre.length = 1) ∨ (0 < stop ∧ (pre.length : Int) = stop + 1))
theorem run2_in (s : ByteArray) (hs : s.size ≤ 140737488351232) (stop : Int) (p3 Bs : Nat) (wr : World) (c3 : wr.cell? ⟨p3, 0, none⟩ = some (.int .i64 stop)) (hBs : Bs < wr.heap.size)
    (pre : List Nat) (k : Nat) (W : World) (hJ : Cn stop wr.heap.size wr pre W) (hp : AtPlace s pre k) (hk : k < s.size) :
    Calls Tryd.prog 19 (#[.int .i64 (k : Int), .int .i32 (rn s k : Int)] ++ #[.pointer (some ⟨wr.heap.size, 0, none⟩), .pointer (some ⟨p3, 0, none⟩)]) W fun e W' =>
      (e = .returned (.bool true) ∧ Cn stop wr.heap.size wr (pre ++ [k]) W' ∧ KeepC Bs W W') ∨ (e = .returned (.bool false) ∧ Cx s stop wr.heap.size wr (pre ++ [k]) W') := by
  obtain ⟨hN, hb, hor⟩ := hJ
  have hpk := pre_at hp hk
  have hlt : pre.length < (places s).length := (List.getElem?_eq_some_iff.1 hpk).1
  have hmm := places_len s
  have hl3 := cell_lt c3
  have hz := hb.size
  refine (run2_any k (rn s k) stop pre.length wr.heap.size p3 (by omega) W hN ((hb.cell (p := ⟨p3, 0, none⟩) hl3).trans c3) (by omega)).mono ?_
  rintro e W' ⟨rfl, rfl⟩
  have hrow : Row (W.setCell ⟨wr.heap.size, 0, none⟩ (.int .i64 ((pre.length : Int) + 1))) wr.heap.size 3 #[.int .i64 ((pre ++ [k]).length : Int)] := by
    have := row_put1 hN (.int .i64 ((pre.length : Int) + 1))
    simpa using this
  have hbel : Below wr.heap.size wr (W.setCell ⟨wr.heap.size, 0, none⟩ (.int .i64 ((pre.length : Int) + 1))) := hb.setCell (Nat.le_refl _) _
  by_cases hst : (pre.length : Int) + 1 ≤ stop
  · refine .inl ⟨by rw [decide_eq_true hst], ⟨hrow, hbel, .inr (by simpa using hst)⟩, ?_⟩
    intro v hv
    rw [World.cell?_setCell_other _ _ _ _ (by simp <;> omega)]; exact hv
  · have e : (pre ++ [k]).length = pre.length + 1 := by simp
    refine .inr ⟨by rw [decide_eq_false hst], hrow, hbel, by rw [e]; omega, ?_⟩
    rw [e]
    rcases hor with rfl | hle
    · simp at hst ⊢; omega
    · omega
theorem rowsR_at (s : ByteArray) : ∀ (l : List Nat) (k p j : Nat), l[k]? = some p → j < 4 → (rowsC s l)[k * 4 + j]? = (rowC s p)[j]? := by
  intro l
  induction l with
  | nil => intro k p j h _; simp at h
  | cons a l ih =>
    intro k p j h hj
    have e : rowsC s (a :: l) = rowC s a ++ rowsC s l := by simp [rowsC]
    have hl : (rowC s a).length = 4 := rfl
    rw [e]
    cases k with
    | zero => simp at h; subst h; rw [List.getElem?_append_left (by omega)]; simp
    | succ k => simp at h; rw [List.getElem?_append_right (by omega), hl, show (k + 1) * 4 + j - 4 = k * 4 + j by omega]; exact ih k p j h hj
theorem rows_base {w : World} {B : Nat} {v : Value} {s : ByteArray} (hown : w.ownsRow B 26 4 v (places s).length (rowsC s (places s))) :
    ∃ A c, v = .slice A (places s).length c ∧ ∀ (k p : Nat), (places s)[k]? = some p → ∃ g, A = some ⟨g, 0, none⟩ ∧ g < w.heap.size ∧ w.cell? ⟨g, k * 4, none⟩ = some (.int .i64 (p : Int)) ∧ w.cell? ⟨g, k * 4 + 1, none⟩ = some (.int .i32 (rn s p : Int)) := by
  rcases hown.2 with ⟨rfl, h0⟩ | ⟨g, cap, cur, rfl, _⟩
  · exact ⟨none, 0, by rw [h0], fun k p hk => by
      have := (List.getElem?_eq_some_iff.1 hk).1; omega⟩
  · refine ⟨_, _, rfl, fun k p hp => ⟨g, rfl, own_lt hown g rfl, ?_, ?_⟩⟩
    · have := hown.cells (g := g) rfl (k * 4 + 0) (.int .i64 (p : Int)) (by rw [rowsR_at s _ k p 0 hp (by omega)]; rfl)
      rwa [add_row, Nat.zero_add] at this
    · have := hown.cells (g := g) rfl (k * 4 + 1) (.int .i32 (rn s p : Int)) (by rw [rowsR_at s _ k p 1 hp (by omega)]; rfl)
      rwa [add_row, Nat.zero_add] at this
set_option maxRecDepth 100000 in
set_option maxHeartbeats 4000000 in
theorem TextRunes_any (s : ByteArray) (A0 : Option Addr) (c0 : Nat) (hs : s.size ≤ 140737488351232) (hcap : s.size ≤ c0) (w : World) (h : Rd w w.heap.size A0 s.size (byteC s)) (stop : Int) (wfs : -9223372036854775808 ≤ stop ∧ stop ≤ 9223372036854775807) (hT : Tz w) :
    Calls Tryd.prog 4 #[.slice A0 s.size c0, .int .i64 stop] w fun e w' => e = .returned (.bool true) ∧ Below w.heap.size w w' := by
  have hT2 := hT.2
  have hmm := places_len s
  by_cases h4 : s.size ≤ 600
  · have h1 := h.alloc (Nat.le_refl _) (.cells #[.int .i64 stop] 3)
    go_enter Tryd.func4, Tryd.ntmps4
    go_upto_region 4 with (first
      | (go_at_call 15; (with_reducible refine (rRunes_any s A0 c0 (by omega) hcap _ (by simp) h1).mono ?_); rintro e w1 ⟨⟨v, rfl, hown⟩, hb1⟩; obtain ⟨A, c, rfl, hrows⟩ := rows_base hown; have HR := Lib.hid hrows; clear hrows hown))
    have z1 : w.heap.size + 1 ≤ w1.heap.size := by have := hb1.size; simp at this; omega
    have b1 : Below w.heap.size w w1 := ((Below.refl _ w).alloc (Nat.le_refl _) _).trans (hb1.mono (by simp))
    have r3 : Row w1 w.heap.size 3 #[.int .i64 stop] := (row_new rfl).below hb1 (by simp)
    have h2 := ((h.below b1)).alloc (by omega) (.cells #[.slice A (places s).length c] 32)
    clear hb1 h1
    go_upto_region 7 with (first
      | (go_at_call 16; (with_reducible refine (Runes_any s A0 c0 _ h2).mono ?_); rintro e w2 ⟨rfl, rfl⟩))
    obtain ⟨wo, hwo⟩ : ∃ wo : World, wo = ((w1.alloc (.cells #[.slice A (places s).length c] 32)).alloc (.cells #[.string s] 9)).alloc (.cells #[.func (.func 33) #[] #[.pointer (some ⟨w1.heap.size + 1, 0, none⟩)]] 35) := ⟨_, rfl⟩
    rw [← hwo]
    have hB : Base s stop w.heap.size w1.heap.size (w1.heap.size + 1 + 1) (w1.heap.size + 1) A c wo := by
      refine ⟨?_, ?_, ?_, ?_, fun k p hp => ?_⟩
      · rw [hwo]; exact (((r3.alloc _).alloc _).alloc _).cell 0
      · rw [hwo]; exact (((row_new rfl).alloc _).alloc _ : Row _ w1.heap.size 32 _).cell 0
      · rw [hwo]; exact (row_new (by simp) : Row _ (w1.heap.size + 1 + 1) 35 _).cell 0
      · rw [hwo]; exact ((row_new (by simp)).alloc _ : Row _ (w1.heap.size + 1) 9 _).cell 0
      · obtain ⟨g, e, hl, d1, d2⟩ := HR.out k p hp
        have hb : Below w1.heap.size w1 wo := by rw [hwo]; exact (((Below.refl _ w1).alloc (Nat.le_refl _) _).alloc (by simp) _).alloc (by simp; omega) _
        exact ⟨g, e, Nat.lt_of_lt_of_le hl hb.size, (hb.cell (p := ⟨g, k * 4, none⟩) hl).trans d1, (hb.cell (p := ⟨g, k * 4 + 1, none⟩) hl).trans d2⟩
    have b0 : Below w.heap.size w wo := by rw [hwo]; exact ((b1.alloc (by omega) _).alloc (by simp; omega) _).alloc (by simp; omega) _
    have z0 : w1.heap.size + 1 + 1 + 1 ≤ wo.heap.size := by rw [hwo]; simp
    clear hwo h2 r3 HR b1
    generalize w1.heap.size = p5 at *
    have z3 : w.heap.size < wo.heap.size := by omega
    have z5 : p5 < wo.heap.size := by omega
    have z6 : p5 + 1 + 1 < wo.heap.size := by omega
    have HB := Lib.hid hB
    clear hB
    go_wp2
    go_loopw [7] (fun i wr => ∃ k : Nat, k ≤ 2 ∧ i = .int .i64 k ∧ Below wo.heap.size wo wr) (fun i _ => 2 - (intOf i).toNat)
    case atStart => exact ⟨0, by omega, rfl, Below.refl _ _⟩
    case round =>
      obtain ⟨k, hk, rfl, hbr⟩ := hrel
      have zr := hbr.size
      have hB := HB.out.later hbr
      have c3 := hB.c3
      have c5 := hB.c5
      have c6 := hB.c6
      have cB := hB.cB
      have n3 := cell_lt c3
      have n5 := cell_lt c5
      have n6 := cell_lt c6
      have nB := cell_lt cB
      by_cases hlt : k < 2
      · have HY := Lib.hid (run1_in s hs stop _ _ _ _ A c wr hB)
        have h0 : It wr.heap.size wr [] ((wr.alloc (.cells #[.int .i64 0] 3)).alloc (.cells #[.bool true] 4)) := ⟨(row_new rfl).alloc _, row_new (by simp), ((Below.refl _ wr).alloc (Nat.le_refl _) _).alloc (by simp) _⟩
        have hJ : ∀ pre W W', It wr.heap.size wr pre W → W.grownBy W' none → Below W.heap.size W W' → It wr.heap.size wr pre W' := fun pre W W' ⟨a1, a2, a3⟩ _ hbW => ⟨a1.below hbW a1.lt, a2.below hbW a2.lt, a3.trans (hbW.mono a3.size)⟩
        have hcB : ((wr.alloc (.cells #[.int .i64 0] 3)).alloc (.cells #[.bool true] 4)).cell? ⟨p5 + 1, 0, none⟩ = some (.string s) := by
          rw [World.cell?_alloc_lt _ _ _ (by simp; omega), World.cell?_alloc_lt _ _ _ nB]; exact cB
        have HJ := Lib.hid hJ
        have H0 := Lib.hid h0
        have HC := Lib.hid hcB
        clear hJ h0 hB hcB
        go_wp2_with (first
          | (go_at_call 33; go_must (refine (Runes1_call 17 #[.pointer (some ⟨wr.heap.size + 1, 0, none⟩), .pointer (some ⟨wr.heap.size, 0, none⟩), .pointer (some ⟨p5, 0, none⟩), .pointer (some ⟨w.heap.size, 0, none⟩), .pointer (some ⟨p5 + 1 + 1, 0, none⟩)] (p5 + 1) s hs (It wr.heap.size wr) (fun _ _ => False) fn1 HJ.out HY.out _ HC.out H0.out).mono ?_); rintro e w3 ⟨⟨v, rfl⟩, hor⟩; obtain ⟨rN, rO, b3⟩ := hor.resolve_right (fun ⟨_, h⟩ => h); have dN := rN.cell 0; have dO := rO.cell 0; have lN := rN.lt; have lO := rO.lt; have d53 := (b3.cell (p := ⟨p5, 0, none⟩) n5).trans c5; have q3 := b3.size))
        exact ⟨⟨k + 1, by omega, by go_num, hbr.trans (b3.mono zr)⟩, by simp [intOf]; omega⟩
      · obtain rfl : k = 2 := by omega
        have HY := Lib.hid (run2_in s hs stop w.heap.size (p5 + 1) wr c3 nB)
        have h0 : Cn stop wr.heap.size wr [] (wr.alloc (.cells #[.int .i64 0] 3)) := ⟨row_new rfl, (Below.refl _ wr).alloc (Nat.le_refl _) _, .inl rfl⟩
        have hJ : ∀ pre W W', Cn stop wr.heap.size wr pre W → W.grownBy W' none → Below W.heap.size W W' → Cn stop wr.heap.size wr pre W' := fun pre W W' ⟨a1, a3, a4⟩ _ hbW => ⟨a1.below hbW a1.lt, a3.trans (hbW.mono a3.size), a4⟩
        have hcB : (wr.alloc (.cells #[.int .i64 0] 3)).cell? ⟨p5 + 1, 0, none⟩ = some (.string s) := (World.cell?_alloc_lt _ _ _ nB).trans cB
        have HJ := Lib.hid hJ
        have H0 := Lib.hid h0
        have HC := Lib.hid hcB
        clear hJ h0 hB hcB
        go_upto_region 17 with (first
          | (go_at_call 33; go_must (refine (Runes1_call 19 #[.pointer (some ⟨wr.heap.size, 0, none⟩), .pointer (some ⟨w.heap.size, 0, none⟩)] (p5 + 1) s hs (Cn stop wr.heap.size wr) (Cx s stop wr.heap.size wr) fn2 HJ.out HY.out _ HC.out H0.out).mono ?_); rintro e w3 ⟨⟨v, rfl⟩, hor⟩))
        have hm : ∃ m : Nat, Row w3 wr.heap.size 3 #[.int .i64 (m : Int)] ∧ Below wr.heap.size wr w3 ∧ ((¬ stop < ((places s).length : Int) ∧ m = (places s).length) ∨ (stop < ((places s).length : Int) ∧ stop ≤ 0 ∧ (places s).length = 0 ∧ m = 0) ∨
            (stop < ((places s).length : Int) ∧ stop ≤ 0 ∧ m = 1 ∧ 1 ≤ (places s).length) ∨ (stop < ((places s).length : Int) ∧ 0 < stop ∧ (m : Int) = stop + 1 ∧ m ≤ (places s).length)) := by
          rcases hor with ⟨a1, a2, a3⟩ | ⟨pre, a1, a2, a3, a4⟩
          · refine ⟨_, a1, a2, ?_⟩
            by_cases hst : stop < ((places s).length : Int)
            · rcases a3 with a3 | a3
              · right; left; rw [a3] at hst ⊢; simp at hst ⊢; omega
              · omega
            · exact .inl ⟨hst, rfl⟩
          · refine ⟨_, a1, a2, ?_⟩
            rcases a4 with ⟨a4, a5⟩ | ⟨a4, a5⟩
            · right; right; left; omega
            · right; right; right; omega
        clear hor
        obtain ⟨m, rM, b3, hm⟩ := hm
        have dM := rM.cell 0
        have lM := rM.lt
        have q3 := b3.size
        have d33 := (b3.cell (p := ⟨w.heap.size, 0, none⟩) n3).trans c3
        have d53 := (b3.cell (p := ⟨p5, 0, none⟩) n5).trans c5
        have bw3 : Below w.heap.size w w3 := b0.trans ((hbr.trans (b3.mono zr)).mono (by omega))
        clear c3 c5 c6 cB n6 nB HY HJ H0 HC HB
        generalize (places s).length = n at *
        have hmn : m ≤ 600 := by omega
        have hnn : n ≤ 600 := by omega
        by_cases hst : stop < (n : Int)
        · have em : min (n : Int) (max 1 (stop + 1)) = (m : Int) := by omega
          clear hm
          go_wp2_with (go_at_call 14; (with_reducible refine (known_any _ (hT.later (B := w.heap.size) (by (repeat (first | (with_reducible exact Below.refl _ _) | (with_reducible assumption) | (with_reducible refine Below.setCell ?_ (by first | omega | (simp <;> omega)) _) | (with_reducible refine Below.alloc ?_ (by first | omega | (simp <;> omega)) _) | (with_reducible refine Below.drew ?_) | (with_reducible refine below_drewN ?_ _) | (with_reducible refine Below.trans ?_ (Below.mono (by with_reducible assumption) (by first | omega | (simp <;> omega))))))) hT2)).mono ?_); rintro e wk ⟨rfl, bk⟩; have zk := Below.size bk)
          go_ret
          exact ⟨rfl, (by (repeat (first | (with_reducible exact Below.refl _ _) | (with_reducible assumption) | (with_reducible refine Below.setCell ?_ (by first | omega | (simp <;> omega)) _) | (with_reducible refine Below.alloc ?_ (by first | omega | (simp <;> omega)) _) | (with_reducible refine Below.drew ?_) | (with_reducible refine below_drewN ?_ _) | (with_reducible refine Below.trans ?_ (Below.mono (by with_reducible assumption) (by first | omega | (simp <;> omega)))))))⟩
        · obtain rfl : m = n := by omega
          clear hm
          go_wp2_with (go_at_call 14; (with_reducible refine (known_any _ (hT.later (B := w.heap.size) (by (repeat (first | (with_reducible exact Below.refl _ _) | (with_reducible assumption) | (with_reducible refine Below.setCell ?_ (by first | omega | (simp <;> omega)) _) | (with_reducible refine Below.alloc ?_ (by first | omega | (simp <;> omega)) _) | (with_reducible refine Below.drew ?_) | (with_reducible refine below_drewN ?_ _) | (with_reducible refine Below.trans ?_ (Below.mono (by with_reducible assumption) (by first | omega | (simp <;> omega))))))) hT2)).mono ?_); rintro e wk ⟨rfl, bk⟩; have zk := Below.size bk)
          go_ret
          exact ⟨rfl, (by (repeat (first | (with_reducible exact Below.refl _ _) | (with_reducible assumption) | (with_reducible refine Below.setCell ?_ (by first | omega | (simp <;> omega)) _) | (with_reducible refine Below.alloc ?_ (by first | omega | (simp <;> omega)) _) | (with_reducible refine Below.drew ?_) | (with_reducible refine below_drewN ?_ _) | (with_reducible refine Below.trans ?_ (Below.mono (by with_reducible assumption) (by first | omega | (simp <;> omega)))))))⟩
  · go_enter Tryd.func4, Tryd.ntmps4
    go_wp2
    go_ret
    exact ⟨rfl, (by (repeat (first | (with_reducible exact Below.refl _ _) | (with_reducible assumption) | (with_reducible refine Below.setCell ?_ (by first | omega | (simp <;> omega)) _) | (with_reducible refine Below.alloc ?_ (by first | omega | (simp <;> omega)) _) | (with_reducible refine Below.drew ?_) | (with_reducible refine below_drewN ?_ _) | (with_reducible refine Below.trans ?_ (Below.mono (by with_reducible assumption) (by first | omega | (simp <;> omega)))))))⟩
end Go.Proofs.YtlfigpmechocmaaDoor
