/- The walk of chapter 1's law TextGo. -/
import Derived.Test.YtlfigpmechocmaaDoorL1
import Derived.Test.YtlfigpmechocmaaDoorW12
import Derived.Test.YtlfigpmechocmaaDoorTwo
namespace Go.Proofs.YtlfigpmechocmaaDoor
set_option linter.unusedVariables false
set_option linter.unusedSimpArgs false
open Go.RowKit
attribute [local go_sem] cell_alloc_add cell_set_add lt_more
theorem seqF (fn : Fn) (f c : Array Value) (w : World) : (binOp .eql 35 (.func fn f c) .nilFunc).run Tryd.prog w = .ok (.bool false) w := by
  kernel_rfl
attribute [local go_sem] seqF
/-- Where the loop over Go's own range stands. -/
structure GoSt (s : ByteArray) (n : Nat) (w0 W : World) (k : Nat) (v1 : Value) (l1 : List Nat) (v2 : Value) (l2 : List Nat) : Prop where
  it : W.heap[n + 1 + 1 + 1]? = some (.stringIter s k)
  str : Row W n 9 #[.string s]
  p : Row W (n + 1) 38 #[v1]
  r : Row W (n + 1 + 1) 39 #[v2]
  o1 : W.ownsRow (n + 4) 3 1 v1 l1.length (atC l1)
  o2 : W.ownsRow (n + 4) 21 1 v2 l2.length (runeC s l2)
  b : Below n w0 W
theorem GoSt.lt {s : ByteArray} {n k : Nat} {w0 W : World} {v1 v2 : Value} {l1 l2 : List Nat} (h : GoSt s n w0 W k v1 l1 v2 l2) : n + 4 ≤ W.heap.size := by
  have := (Array.getElem?_eq_some_iff.1 h.it).1; omega
theorem GoSt.iter {s : ByteArray} {n k : Nat} {w0 W : World} {v1 v2 : Value} {l1 l2 : List Nat} (h : GoSt s n w0 W k v1 l1 v2 l2) (j : Nat) : GoSt s n w0 (W.iterAt (n + 1 + 1 + 1) s j) j v1 l1 v2 l2 where
  it := Lib.iterAt_heap W _ s k j h.it
  str := (Lib.iterAt_other W _ _ s j (by omega)).trans h.str
  p := (Lib.iterAt_other W _ _ s j (by omega)).trans h.p
  r := (Lib.iterAt_other W _ _ s j (by omega)).trans h.r
  o1 := ownsRow_iterAt h.o1 (by omega) s j
  o2 := ownsRow_iterAt h.o2 (by omega) s j
  b := Lib.below_iterAt h.b (by omega) s j
theorem row_kept {W W' : World} {g : Nat} {t : TypeId} {cs : Array Value} {v : Value} {n : Nat} (h : Row W g t cs) {o : Obj} (hg : (W.alloc o).grownBy W' v.ownBlock) (hv : ∀ r, v.ownBlock = some r → n + 4 ≤ r) (hn : g < n + 4) : Row W' g t cs :=
  row_grown (h.alloc o) hg (fun e => by have := hv g e; omega)
theorem own_slice {w : World} {base : Nat} {e : TypeId} {size n : Nat} {v : Value} {xs : List Value} (h : w.ownsRow base e size v n xs) : ∃ A c, v = .slice A n c := by
  rcases h.2 with ⟨rfl, h0⟩ | ⟨g, cap, cur, rfl, _⟩
  · exact ⟨none, 0, by rw [h0]⟩
  · exact ⟨_, _, rfl⟩
theorem GoSt.app1 {s : ByteArray} {n k m : Nat} {w0 W W' : World} {v1 v2 v : Value} {l1 l2 l : List Nat} (h : GoSt s n w0 W k v1 l1 v2 l2) {o : Obj} (hg : (W.alloc o).grownBy W' v1.ownBlock)
    (ho : W'.ownsRow (n + 4) 3 1 v m (atC l)) (hm : m = l.length) : GoSt s n w0 (W'.setCell ⟨n + 1, 0, none⟩ v) k v l v2 l2 := by
  have hlt := h.lt
  have e1 := own_ge h.o1
  have hne : ∀ g, g < n + 4 → v1.ownBlock ≠ some g := fun g hg e => by have := e1 g e; omega
  have o2' := own_grown (h.o2.alloc o) hg (own_two (h.o1.alloc o) (h.o2.alloc o) (by decide))
  refine ⟨?_, (row_kept h.str hg e1 (by omega)).far (by simp; try omega) _, row_put1 (row_kept h.p hg e1 (by omega)) _, (row_kept h.r hg e1 (by omega)).far (by simp; try omega) _, ?_, ?_, ?_⟩
  · rw [heap_setCell_other _ _ _ _ (by simp; try omega)]
    exact iter_grown ((Below.heap_alloc W o _ (by omega)).trans h.it) hg (hne _ (by omega))
  · subst hm; exact ownsRow_setCell_other ho (fun e => by have := own_ge ho _ e; simp at this; try omega) _
  · exact ownsRow_setCell_other o2' (fun e => by have := own_ge h.o2 _ e; simp at this; try omega) _
  · exact ((h.b.alloc (by omega) o).grown hg (by simp; omega) (fun r e => by have := e1 r e; omega)).setCell (by simp; try omega) _
theorem GoSt.app2 {s : ByteArray} {n k m : Nat} {w0 W W' : World} {v1 v2 v : Value} {l1 l2 l : List Nat} (h : GoSt s n w0 W k v1 l1 v2 l2) {o : Obj} (hg : (W.alloc o).grownBy W' v2.ownBlock)
    (ho : W'.ownsRow (n + 4) 21 1 v m (runeC s l)) (hm : m = l.length) : GoSt s n w0 (W'.setCell ⟨n + 1 + 1, 0, none⟩ v) k v1 l1 v l := by
  have hlt := h.lt
  have e1 := own_ge h.o2
  have hne : ∀ g, g < n + 4 → v2.ownBlock ≠ some g := fun g hg e => by have := e1 g e; omega
  have o1' := own_grown (h.o1.alloc o) hg (own_two (h.o2.alloc o) (h.o1.alloc o) (by decide))
  refine ⟨?_, (row_kept h.str hg e1 (by omega)).far (by simp; try omega) _, (row_kept h.p hg e1 (by omega)).far (by simp; try omega) _, row_put1 (row_kept h.r hg e1 (by omega)) _, ?_, ?_, ?_⟩
  · rw [heap_setCell_other _ _ _ _ (by simp; try omega)]
    exact iter_grown ((Below.heap_alloc W o _ (by omega)).trans h.it) hg (hne _ (by omega))
  · exact ownsRow_setCell_other o1' (fun e => by have := own_ge h.o1 _ e; simp at this; try omega) _
  · subst hm; exact ownsRow_setCell_other ho (fun e => by have := own_ge ho _ e; simp at this; try omega) _
  · exact ((h.b.alloc (by omega) o).grown hg (by simp; omega) (fun r e => by have := e1 r e; omega)).setCell (by simp; try omega) _
theorem infoInt : (Tryd.prog.info? 3).map (fun i => (i.zero, i.size, i.bytes)) = some (some (.int .i64 0), 1, 8) := by kernel_rfl
theorem infoRune : (Tryd.prog.info? 21).map (fun i => (i.zero, i.size, i.bytes)) = some (some (.int .i32 0), 1, 4) := by kernel_rfl
set_option maxRecDepth 100000 in
set_option maxHeartbeats 4000000 in
theorem go1_any (k r : Int) (i m c1 c2 : Nat) (a1 a2 : Addr) (O N P R : Nat) (hi : i < m) (hm : m ≤ 140737488351232) (W : World) (hO : Row W O 4 #[.bool true]) (hN : Row W N 3 #[.int .i64 (i : Int)])
    (hP : W.cell? ⟨P, 0, none⟩ = some (.slice (some a1) m c1)) (hR : W.cell? ⟨R, 0, none⟩ = some (.slice (some a2) m c2)) (h1 : W.cell? (a1.add i) = some (.int .i64 k)) (h2 : W.cell? (a2.add i) = some (.int .i32 r)) (hne : N ≠ O) :
    Calls Tryd.prog 20 #[.int .i64 k, .int .i32 r, .pointer (some ⟨O, 0, none⟩), .pointer (some ⟨N, 0, none⟩), .pointer (some ⟨P, 0, none⟩), .pointer (some ⟨R, 0, none⟩)] W
      fun e W' => e = .returned (.bool true) ∧ W' = (W.setCell ⟨O, 0, none⟩ (.bool true)).setCell ⟨N, 0, none⟩ (.int .i64 ((i : Int) + 1)) := by
  have d1 := hO.cell 0
  have d2 := hN.cell 0
  have f1 := hO.free 0
  have f2 := hN.free 0
  have l1 := hO.lt
  have l2 := hN.lt
  have d3 : (W.setCell ⟨O, 0, none⟩ (.bool true)).cell? ⟨N, 0, none⟩ = some (.int .i64 (i : Int)) := (hN.far (by simpa using hne) _).cell 0
  have d4 : (W.setCell ⟨O, 0, none⟩ (.bool true)).frozen? ⟨N, 0, none⟩ = false := (hN.far (by simpa using hne) _).free 0
  go_enter Tryd.func20, Tryd.ntmps20
  go_wp2
  go_ret
  exact ⟨rfl, rfl⟩
/-- Where the loop over the program's own iterator stands. -/
def It (s : ByteArray) (M : Nat) (wr : World) (pre : List Nat) (W : World) : Prop := Row W M 3 #[.int .i64 (pre.length : Int)] ∧ Row W (M + 1) 4 #[.bool true] ∧ Below M wr W
theorem fn20 (args : Array Value) (w : World) : (callFunc 20 args).run Tryd.prog w = .ok (.enter 20 args) w := Tryd.call20 args w
theorem go1_in (s : ByteArray) (hs : s.size ≤ 140737488351232) (n m c1 c2 : Nat) (A1 A2 : Option Addr) (hm : (places s).length = m) (wr : World) (hn : n + 4 ≤ wr.heap.size) (hP : wr.cell? ⟨n + 1, 0, none⟩ = some (.slice A1 m c1)) (hR : wr.cell? ⟨n + 1 + 1, 0, none⟩ = some (.slice A2 m c2))
    (h1 : Rd wr wr.heap.size A1 m (fun j => .int .i64 ((places s).getD j 0 : Nat))) (h2 : Rd wr wr.heap.size A2 m (fun j => .int .i32 (rn s ((places s).getD j 0) : Int)))
    (pre : List Nat) (k : Nat) (W : World) (hJ : It s wr.heap.size wr pre W) (hp : AtPlace s pre k) (hk : k < s.size) :
    Calls Tryd.prog 20 (#[.int .i64 (k : Int), .int .i32 (rn s k : Int)] ++ #[.pointer (some ⟨wr.heap.size + 1, 0, none⟩), .pointer (some ⟨wr.heap.size, 0, none⟩), .pointer (some ⟨n + 1, 0, none⟩), .pointer (some ⟨n + 1 + 1, 0, none⟩)]) W fun e W' =>
      (e = .returned (.bool true) ∧ It s wr.heap.size wr (pre ++ [k]) W' ∧ KeepC n W W') ∨ (e = .returned (.bool false) ∧ False) := by
  obtain ⟨hN, hO, hb⟩ := hJ
  have hpk : (places s)[pre.length]? = some k := by rw [hp.1, placesAt_step hk]; simp
  have hlt : pre.length < m := by rw [← hm]; exact (List.getElem?_eq_some_iff.1 hpk).1
  have hgd : (places s).getD pre.length 0 = k := by rw [List.getD_eq_getElem?_getD, hpk]; rfl
  have hmm := places_len s
  obtain ⟨a1, rfl, _, d1⟩ := h1.below hb pre.length hlt
  obtain ⟨a2, rfl, _, d2⟩ := h2.below hb pre.length hlt
  simp only [hgd] at d1 d2
  refine (go1_any k (rn s k) pre.length m c1 c2 a1 a2 (wr.heap.size + 1) wr.heap.size (n + 1) (n + 1 + 1) hlt (by omega) W hO hN ((hb.cell (p := ⟨n + 1, 0, none⟩) (by show n + 1 < _; omega)).trans hP) ((hb.cell (p := ⟨n + 1 + 1, 0, none⟩) (by show n + 1 + 1 < _; omega)).trans hR) d1 d2 (by omega)).mono ?_
  rintro e W' ⟨rfl, rfl⟩
  refine .inl ⟨rfl, ⟨?_, ?_, ?_⟩, ?_⟩
  · have := row_put1 (hN.far (p := ⟨wr.heap.size + 1, 0, none⟩) (by simp) (.bool true)) (.int .i64 ((pre.length : Int) + 1))
    simpa using this
  · exact (row_put1 hO _).far (by simp) _
  · exact (hb.setCell (by simp) _).setCell (by simp) _
  · intro v hv
    rw [World.cell?_setCell_other _ _ _ _ (by simp; try omega), World.cell?_setCell_other _ _ _ _ (by simp; try omega)]; exact hv
set_option maxRecDepth 100000 in
set_option maxHeartbeats 4000000 in
theorem TextGo_any (s : ByteArray) (A : Option Addr) (c : Nat) (hs : s.size ≤ 140737488351232) (hcap : s.size ≤ c) (w : World) (h : Rd w w.heap.size A s.size (byteC s)) (hT : Tz w) :
    Calls Tryd.prog 5 #[.slice A s.size c] w fun e w' => e = .returned (.bool true) ∧ Below w.heap.size w w' := by
  have hT2 := hT.2
  by_cases h4 : s.size ≤ 4000
  · have h3 := ((h.alloc (Nat.le_refl _) (.cells #[.string s] 9)).alloc (by simp) (.cells #[.slice none 0 0] 38)).alloc (by simp; omega) (.cells #[.slice none 0 0] 39)
    have kc := run_string_of (P := Tryd.prog) 22 9 5 c Tryd.underlying22 Tryd.underlying5 Tryd.underlying9 h3
    clear h3
    obtain ⟨i0, hi, iz0, iz1, iz2⟩ := info_parts infoInt
    obtain ⟨j0, hj, jz0, jz1, jz2⟩ := info_parts infoRune
    go_enter Tryd.func5, Tryd.ntmps5
    go_wp2_with (first
      | (go_at_call 16; (with_reducible refine (Runes_any s A c _ h).mono ?_); rintro e w1 ⟨rfl, rfl⟩))
    go_loopw [6, 7] (fun _ _ wr => ∃ (pre : List Nat) (k : Nat) (v1 v2 : Value), AtPlace s pre k ∧ GoSt s w.heap.size w wr k v1 pre v2 pre) (fun _ _ wr => s.size - wr.iterPos (w.heap.size + 1 + 1 + 1))
    case atStart =>
      refine ⟨[], 0, .slice none 0 0, .slice none 0 0, AtPlace.start s, ?_, ?_, ?_, ?_, World.ownsRow_nil _ _ _ _, World.ownsRow_nil _ _ _ _, ?_⟩
      · have := World.iter_heap (((w.alloc (.cells #[.string s] 9)).alloc (.cells #[.slice none 0 0] 38)).alloc (.cells #[.slice none 0 0] 39)) s 0
        simpa using this
      · exact (((row_new rfl).alloc _).alloc _).alloc _
      · exact ((row_new (by simp)).alloc _).alloc _
      · exact (row_new (by simp)).alloc _
      · exact ((((Below.refl _ w).alloc (Nat.le_refl _) _).alloc (by simp) _).alloc (by simp; omega) _).alloc (by simp; omega) _
    case round =>
      obtain ⟨pre, k, v1, v2, hp, hst⟩ := hrel
      have hk := hp.2
      by_cases hlt : k < s.size
      · have hnx : ∀ ty, (Instr.next (.pointer (some ⟨w.heap.size + 1 + 1 + 1, 0, none⟩)) true ty).run Tryd.prog wr = .ok (.tuple #[.bool true, .int .i64 k, .int .i32 (rn s k : Int)]) (wr.iterAt (w.heap.size + 1 + 1 + 1) s (k + wd s k)) := fun ty => Lib.run_next_any_at wr (w.heap.size + 1 + 1 + 1) s k ty hst.it hlt
        have hit := hst.it
        have hst1 := hst.iter (k + wd s k)
        generalize wr.iterAt (w.heap.size + 1 + 1 + 1) s (k + wd s k) = wi at *
        have hl := hst1.lt
        have hpl := hp.len
        have hc1 := hst1.p.cell 0
        have hf1 := hst1.p.free 0
        have HO1 := hst1.o1
        have E1 := own_ge hst1.o1
        have hr1 := hst1.r
        have hp1 := hst1.p
        have hln : (pre ++ [k]).length = pre.length + 1 := by simp
        go_wp2_with (first
          | (at_builtin; refine wpList_append_own _ rfl _ _ 38 rfl (w.heap.size + 4) 3 i0 _ 1 8 Tryd.underlying38 hi iz0 iz1 iz2 rfl (by decide) _ _ _ rfl (HO1.alloc _) ⟨wi.heap.size, 0, none⟩ 1 1 [.int .i64 (k : Int)] rfl rfl (cell_one_new _ _ _) (by simp [Value.oneCell']) (by simp only [maxLen]; omega) (by omega) (by simp; omega) ?_; intro v1' w2 hown2 hg2 _; obtain ⟨A1, c1, rfl⟩ := own_slice hown2; go_must (have hown3 : w2.ownsRow (w.heap.size + 4) 3 1 (.slice A1 (pre.length + 1) c1) (pre ++ [k]).length (atC (pre ++ [k])) := by rw [atC_snoc, hln]; exact hown2); go_must (have hst2 := hst1.app1 hg2 hown3 rfl); have hp2 := row_kept hp1 hg2 E1 (by omega); have hcp2 := hp2.cell 0; have hfp2 := hp2.free 0; have hlp2 := hp2.lt; have hcr2 := (row_kept hr1 hg2 E1 (by omega)).cell 0; have hlr2 := (row_kept hr1 hg2 E1 (by omega)).lt; have HO2 := hst2.o2; have hst2l := hst2.lt)
          | (at_builtin; go_must (refine wpList_append_own _ rfl _ _ 39 rfl (w.heap.size + 4) 21 j0 _ 1 4 Tryd.underlying39 hj jz0 jz1 jz2 rfl (by decide) _ _ _ rfl (HO2.alloc _) ⟨w2.heap.size, 0, none⟩ 1 1 [.int .i32 (rn s k : Int)] rfl rfl (by have hh := cell_one_new (w2.setCell ⟨w.heap.size + 1, 0, none⟩ (.slice A1 (pre.length + 1) c1)) (.int .i32 (rn s k : Int)) 21; rw [World.size_setCell] at hh; exact hh) (by simp [Value.oneCell']) (by simp only [maxLen]; omega) (by omega) (by simp; omega) ?_); intro v2' w4 hown4 hg4 _; obtain ⟨A2, c2, rfl⟩ := own_slice hown4; go_must (have hown5 : w4.ownsRow (w.heap.size + 4) 21 1 (.slice A2 (pre.length + 1) c2) (pre ++ [k]).length (runeC s (pre ++ [k])) := by rw [runeC_snoc, hln]; exact hown4); go_must (have hst4 := hst2.app2 hg4 hown5 rfl); have hr4 := row_kept hst2.r hg4 (own_ge hst2.o2) (by omega); have hcr4 := hr4.cell 0; have hfr4 := hr4.free 0; have hlr4 := hr4.lt))
        refine ⟨⟨pre ++ [k], k + wd s k, _, _, hp.step hlt, hst4⟩, ?_⟩
        rw [iterPos_of hit, iterPos_of hst4.it]
        have := wd_bd hlt
        omega
      · have hnx : ∀ ty, (Instr.next (.pointer (some ⟨w.heap.size + 1 + 1 + 1, 0, none⟩)) true ty).run Tryd.prog wr = _ := fun ty => Lib.run_next_end_at wr (w.heap.size + 1 + 1 + 1) s k ty hst.it hlt
        have hpre := hp.fin hlt
        have hst2 := hst
        rw [hpre] at hst2
        obtain ⟨A1, c1, e1, _, hrd1⟩ := rd_own hst2.o1
        obtain ⟨A2, c2, e2, _, hrd2⟩ := rd_own hst2.o2
        obtain rfl := e1.symm
        obtain rfl := e2.symm
        have hl := hst2.lt
        have hpl := places_len s
        have h1 := hrd1 (fun j => .int .i64 ((places s).getD j 0 : Nat)) (fun j hj => by simp [atC, hj])
        have h2 := hrd2 (fun j => .int .i32 (rn s ((places s).getD j 0) : Int)) (fun j hj => by simp [runeC, hj])
        have hP := hst.p.cell 0
        have hR := hst.r.cell 0
        have hc := ((hst.str.alloc (.cells #[.int .i64 0] 3)).alloc (.cells #[.bool true] 4)).cell 0
        have HY := Lib.hid (go1_in s hs w.heap.size (places s).length c1 c2 A1 A2 rfl wr hl hP hR h1 h2)
        have h0 : It s wr.heap.size wr [] ((wr.alloc (.cells #[.int .i64 0] 3)).alloc (.cells #[.bool true] 4)) := ⟨(row_new rfl).alloc _, row_new (by simp), ((Below.refl _ wr).alloc (Nat.le_refl _) _).alloc (by simp) _⟩
        have hJ : ∀ pre W W', It s wr.heap.size wr pre W → W.grownBy W' none → Below W.heap.size W W' → It s wr.heap.size wr pre W' := fun pre W W' ⟨a1, a2, a3⟩ _ hbW => ⟨a1.below hbW a1.lt, a2.below hbW a2.lt, a3.trans (hbW.mono a3.size)⟩
        have HJ := Lib.hid hJ
        have H0 := Lib.hid h0
        have HP := Lib.hid (And.intro hst.p hst.b)
        clear hJ h0 h1 h2 hrd1 hrd2 hst2 hP hR
        go_wp2_with (first
          | (go_at_call 33; go_must (refine (Runes1_call 20 #[.pointer (some ⟨wr.heap.size + 1, 0, none⟩), .pointer (some ⟨wr.heap.size, 0, none⟩), .pointer (some ⟨w.heap.size + 1, 0, none⟩), .pointer (some ⟨w.heap.size + 1 + 1, 0, none⟩)] w.heap.size s hs (It s wr.heap.size wr) (fun _ _ => False) fn20 HJ.out HY.out _ hc H0.out).mono ?_); rintro e w3 ⟨⟨v, rfl⟩, hor⟩; obtain ⟨rN, rO, b3⟩ := hor.resolve_right (fun ⟨_, h⟩ => h); have dN := rN.cell 0; have dO := rO.cell 0; have lN := rN.lt; have lO := rO.lt; have rP := HP.out.1.below b3 HP.out.1.lt; have dP := rP.cell 0; have lP := rP.lt; have z3 := b3.size; have b03 := HP.out.2.trans (b3.mono HP.out.2.size))
          | (go_at_call 14; (with_reducible refine (known_any _ (hT.later (B := w.heap.size) (by (repeat (first | (with_reducible exact Below.refl _ _) | (with_reducible assumption) | (with_reducible refine Below.setCell ?_ (by first | omega | (simp <;> omega)) _) | (with_reducible refine Below.alloc ?_ (by first | omega | (simp <;> omega)) _) | (with_reducible refine Below.drew ?_) | (with_reducible refine below_drewN ?_ _) | (with_reducible refine Below.trans ?_ (Below.mono (by with_reducible assumption) (by first | omega | (simp <;> omega))))))) hT2)).mono ?_); rintro e wk ⟨rfl, bk⟩; have zk := Below.size bk))
        go_ret
        exact ⟨rfl, (by (repeat (first | (with_reducible exact Below.refl _ _) | (with_reducible assumption) | (with_reducible refine Below.setCell ?_ (by first | omega | (simp <;> omega)) _) | (with_reducible refine Below.alloc ?_ (by first | omega | (simp <;> omega)) _) | (with_reducible refine Below.drew ?_) | (with_reducible refine below_drewN ?_ _) | (with_reducible refine Below.trans ?_ (Below.mono (by with_reducible assumption) (by first | omega | (simp <;> omega)))))))⟩
  · go_enter Tryd.func5, Tryd.ntmps5
    go_wp2
    go_ret
    exact ⟨rfl, Below.refl _ _⟩
end Go.Proofs.YtlfigpmechocmaaDoor
