/- The walk of chapter 1's law TextLines. -/
import Derived.Test.YtlfigpmechocmaaDoorL1
import Derived.Test.YtlfigpmechocmaaDoorW15
import Derived.Test.YtlfigpmechocmaaDoorW16
import Derived.Test.YtlfigpmechocmaaDoorTwo
import Derived.Deep.DeepCutAuto
import Derived.Laws.EntriesVeiled
import Derived.StillTail
import Derived.StillTailTactics
namespace Go.Proofs.YtlfigpmechocmaaDoor
set_option linter.unusedVariables false
set_option linter.unusedSimpArgs false
set_option linter.unnecessarySimpa false
open Go.RowKit
attribute [local go_sem] cell_alloc_add cell_set_add lt_more
theorem seqL (fn : Fn) (f c : Array Value) (w : World) : (binOp .eql 48 (.func fn f c) .nilFunc).run Tryd.prog w = .ok (.bool false) w := by
  kernel_rfl
attribute [local go_sem] seqL
theorem set_same {W : World} {g : Nat} {t : TypeId} {v : Value} (h : Row W g t #[v]) : W.setCell ⟨g, 0, none⟩ v = W := by
  have e : (W.setCell ⟨g, 0, none⟩ v).heap = W.heap := by
    apply Array.ext_getElem?
    intro i
    have hp := row_put1 h v
    by_cases c : g = i
    · subst c
      unfold Row at h hp
      rw [h, hp]
    · exact heap_setCell_other _ _ _ _ (by simpa using fun e => c e.symm)
  cases W
  simp only [World.setCell] at e ⊢
  rw [e]
theorem run_cut_mid {P : Program} {t e : TypeId} (A : Option Addr) {n c lo hi : Nat} (W : World) (ht : P.underlying t = some (.slice e)) (hs : ∀ W, (sizeOf e).run P W = .ok 1 W) (h1 : lo ≤ hi) (h2 : hi ≤ c) :
    (Instr.slice t (.slice A n c) (some (.int .i64 (lo : Int))) (some (.int .i64 (hi : Int))) none).run P W = .ok (.slice (if c = lo then A else A.map (·.add lo)) (hi - lo) (c - lo)) W := by
  have he : P.elem t = e := by simp [Program.elem, ht]
  have h := run_slice_lh (P := P) (w := W) t A n c (by rw [he]; exact ht) .i64 .i64 (lo : Int) (hi : Int) (by omega) (by omega) (by omega)
  rw [h, he, hs]
  simp [sliced, Result.andThen]
theorem Rd.mid {w : World} {B : Nat} {A : Option Addr} {s : ByteArray} (h : Rd w B A s.size (byteC s)) {lo hi c : Nat} (h1 : lo ≤ hi) (h2 : hi ≤ s.size) (hc : s.size ≤ c) : Rd w B (if c = lo then A else A.map (·.add lo)) (hi - lo) (byteC (s.extract lo hi)) :=
  (h.cut (k := lo) (m := hi - lo) (by omega) hc).congr fun j hj => by unfold byteC; rw [bt_extract hj h2]
/-- A part of the bytes as a text. -/
theorem run_mid {w : World} {B : Nat} {A : Option Addr} {s : ByteArray} (h : Rd w B A s.size (byteC s)) {lo hi c : Nat} (h1 : lo ≤ hi) (h2 : hi ≤ s.size) (hc : s.size ≤ c) (c' : Nat) :
    (convert 22 9 (.slice (if c = lo then A else A.map (·.add lo)) (hi - lo) c')).run Tryd.prog w = .ok (.string (s.extract lo hi)) w := by
  have hz : (s.extract lo hi).size = hi - lo := by rw [ByteArray.size_extract]; omega
  have := run_string_of (P := Tryd.prog) (w := w) (B := B) (A := if c = lo then A else A.map (·.add lo)) (s := s.extract lo hi) 22 9 5 c' Tryd.underlying22 Tryd.underlying5 Tryd.underlying9 (by rw [hz]; exact h.mid h1 h2 hc)
  rw [hz] at this
  exact this
/-- The lines' rows, read. -/
def LnR (s : ByteArray) (g : Nat) (w : World) : Prop := ∀ k, k < (linesF s 0).length → w.cell? ⟨g, k * 2, none⟩ = some (.int .i64 ((lnAt s k).1 : Int)) ∧ w.cell? ⟨g, k * 2 + 1, none⟩ = some (.int .i64 ((lnAt s k).2 : Int))
theorem LnR.below {s : ByteArray} {g : Nat} {w W : World} (h : LnR s g w) {B : Nat} (hg : g < B) (hb : Below B w W) : LnR s g W := fun k hk =>
  ⟨(hb.cell (p := ⟨g, k * 2, none⟩) hg).trans (h k hk).1, (hb.cell (p := ⟨g, k * 2 + 1, none⟩) hg).trans (h k hk).2⟩
theorem lnsR_at : ∀ (l : List (Nat × Nat)) (k j : Nat) (p : Nat × Nat), l[k]? = some p → j < 2 → (lnsC l)[k * 2 + j]? = (lnC p)[j]? := by
  intro l
  induction l with
  | nil => intro k j p h _; simp at h
  | cons a l ih =>
    intro k j p h hj
    have e : lnsC (a :: l) = lnC a ++ lnsC l := by simp [lnsC]
    have hl : (lnC a).length = 2 := rfl
    rw [e]
    cases k with
    | zero => simp at h; subst h; rw [List.getElem?_append_left (by omega)]; simp
    | succ k => simp at h; rw [List.getElem?_append_right (by omega), hl, show (k + 1) * 2 + j - 2 = k * 2 + j by omega]; exact ih k j p h hj
theorem lnR_own {w : World} {B : Nat} {v : Value} {s : ByteArray} (hown : w.ownsRow B 50 2 v (linesF s 0).length (lnsC (linesF s 0))) :
    ∃ g c, v = .slice (some ⟨g, 0, none⟩) (linesF s 0).length c ∧ B ≤ g ∧ g < w.heap.size ∧ LnR s g w := by
  rcases hown.2 with ⟨rfl, h0⟩ | ⟨g, cap, cur, rfl, _⟩
  · have := lines_pos s; omega
  · refine ⟨g, _, rfl, own_ge hown g rfl, own_lt hown g rfl, fun k hk => ⟨?_, ?_⟩⟩
    · have := hown.cells (g := g) rfl (k * 2 + 0) (.int .i64 ((lnAt s k).1 : Int)) (by rw [lnsR_at _ k 0 _ (lnAt_get hk) (by omega)]; rfl)
      rwa [add_row, Nat.zero_add] at this
    · have := hown.cells (g := g) rfl (k * 2 + 1) (.int .i64 ((lnAt s k).2 : Int)) (by rw [lnsR_at _ k 1 _ (lnAt_get hk) (by omega)]; rfl)
      rwa [add_row, Nat.zero_add] at this
set_option maxRecDepth 100000 in
set_option maxHeartbeats 4000000 in
theorem line_hit (s : ByteArray) (A : Option Addr) (c : Nat) (hs : s.size ≤ 1099511627776) (hcap : s.size ≤ c) (w : World) (h : Rd w w.heap.size A s.size (byteC s)) (g cw : Nat) (hg : g < w.heap.size) (hR : LnR s g w) (m : Nat) (hm : m < (linesF s 0).length) :
    Calls Tryd.prog 29 #[.slice A s.size c, .int .i64 ((m : Int) + 1), .slice (some ⟨g, 0, none⟩) (linesF s 0).length cw] w fun e w' => e = .returned (.bool true) ∧ Below w.heap.size w w' := by
  have hll := lines_len s
  have hL := Line_any s A c hs w h (m + 1) (by omega) (by omega)
  rw [show m + 1 - 1 = m from rfl, show ((m + 1 : Nat) : Int) = (m : Int) + 1 by omega] at hL
  have HL := Lib.hid hL
  have hbd := lnAt_bd hm
  have HT := Lib.hid (show lnT s m = s.extract (lnAt s m).1 (lnAt s m).2 from rfl)
  obtain ⟨r1, r2⟩ := hR m hm
  generalize lnAt s m = x at *
  obtain ⟨lo, hi⟩ := x
  dsimp only at *
  have hsl := fun W => run_cut_mid (P := Tryd.prog) (t := 22) A (n := s.size) (c := c) W Tryd.underlying22 (fun _ => by kernel_rfl) hbd.1 (show hi ≤ c by omega)
  have hcv := fun W (hb : Below w.heap.size w W) c' => run_mid (h.below hb) hbd.1 hbd.2 hcap c'
  generalize (if c = lo then A else A.map (·.add lo)) = A2 at *
  have HC := Lib.hid hcv
  rw [HT.out] at HL
  clear hL HT hcv h
  generalize s.extract lo hi = tx at *
  generalize (linesF s 0).length = L at *
  go_enter Tryd.func29, Tryd.ntmps29
  go_wp2_with (first
    | (go_at_call 42; (with_reducible refine HL.out.mono ?_); rintro e w1 ⟨rfl, b1⟩; have z1 := Below.size b1; have q1 := (b1.cell (p := ⟨g, m * 2, none⟩) hg).trans r1; have q2 := (b1.cell (p := ⟨g, m * 2 + 1, none⟩) hg).trans r2; have hcv := fun (n c2 : Nat) => HC.out (w1.drewN n) (below_drewN b1 n) c2))
  have hw : IntKind.i64.wrap (m : Int) = (m : Int) := IntWalk.i64_in _ (by omega)
  have i1 : (m : Int) < (L : Int) := by omega
  go_quiet (fail)
  go_wp2
  go_ret
  exact ⟨rfl, below_drewN b1 _⟩
set_option maxRecDepth 100000 in
set_option maxHeartbeats 4000000 in
theorem line_off (s : ByteArray) (A : Option Addr) (c : Nat) (hs : s.size ≤ 1099511627776) (hcap : s.size ≤ c) (w : World) (h : Rd w w.heap.size A s.size (byteC s)) (g cw : Nat) (hg : g < w.heap.size) (hR : LnR s g w) (n : Int) (hn : n < 1 ∨ ((linesF s 0).length : Int) < n) :
    Calls Tryd.prog 29 #[.slice A s.size c, .int .i64 n, .slice (some ⟨g, 0, none⟩) (linesF s 0).length cw] w fun e w' => e = .returned (.bool true) ∧ Below w.heap.size w w' := by
  have HL := Lib.hid (Line_off s A c hs w h n hn)
  generalize (linesF s 0).length = L at *
  clear h hR
  by_cases h1 : n < 1
  · go_enter Tryd.func29, Tryd.ntmps29
    go_wp2_with (first
      | (go_at_call 42; (with_reducible refine HL.out.mono ?_); rintro e w1 ⟨rfl, b1⟩; have z1 := Below.size b1))
    go_ret
    exact ⟨rfl, b1⟩
  · have h2 : (L : Int) < n := by omega
    go_enter Tryd.func29, Tryd.ntmps29
    go_wp2_with (first
      | (go_at_call 42; (with_reducible refine HL.out.mono ?_); rintro e w1 ⟨rfl, b1⟩; have z1 := Below.size b1))
    go_ret
    exact ⟨rfl, b1⟩
theorem line_any (s : ByteArray) (A : Option Addr) (c : Nat) (hs : s.size ≤ 1099511627776) (hcap : s.size ≤ c) (w : World) (h : Rd w w.heap.size A s.size (byteC s)) (g cw : Nat) (hg : g < w.heap.size) (hR : LnR s g w) (n : Int) :
    Calls Tryd.prog 29 #[.slice A s.size c, .int .i64 n, .slice (some ⟨g, 0, none⟩) (linesF s 0).length cw] w fun e w' => e = .returned (.bool true) ∧ Below w.heap.size w w' := by
  by_cases hn : n < 1 ∨ ((linesF s 0).length : Int) < n
  · exact line_off s A c hs hcap w h g cw hg hR n hn
  · obtain ⟨m, rfl⟩ : ∃ m : Nat, n = (m : Int) + 1 := ⟨(n - 1).toNat, by omega⟩
    exact line_hit s A c hs hcap w h g cw hg hR m (by omega)
/-- What stands while the loop over the lines goes on. -/
structure Base (s : ByteArray) (A : Option Addr) (c g cw pb pw Bs : Nat) (w : World) : Prop where
  cb : w.cell? ⟨pb, 0, none⟩ = some (.slice A s.size c)
  cw : w.cell? ⟨pw, 0, none⟩ = some (.slice (some ⟨g, 0, none⟩) (linesF s 0).length cw)
  cB : w.cell? ⟨Bs, 0, none⟩ = some (.string s)
  rd : Rd w w.heap.size A s.size (byteC s)
  gl : g < w.heap.size
  rows : LnR s g w
theorem Base.later {s : ByteArray} {A : Option Addr} {c g cw pb pw Bs : Nat} {w W : World} (h : Base s A c g cw pb pw Bs w) (hb : Below w.heap.size w W) : Base s A c g cw pb pw Bs W where
  cb := (hb.cell (p := ⟨pb, 0, none⟩) (cell_lt h.cb)).trans h.cb
  cw := (hb.cell (p := ⟨pw, 0, none⟩) (cell_lt h.cw)).trans h.cw
  cB := (hb.cell (p := ⟨Bs, 0, none⟩) (cell_lt h.cB)).trans h.cB
  rd := (h.rd.below hb).more hb.size
  gl := Nat.lt_of_lt_of_le h.gl hb.size
  rows := h.rows.below h.gl hb
set_option maxRecDepth 100000 in
set_option maxHeartbeats 4000000 in
theorem ln1_any (s : ByteArray) (A : Option Addr) (c : Nat) (hs : s.size ≤ 1099511627776) (hcap : s.size ≤ c) (g cw pb pw Bs : Nat) (M i : Nat) (hi : i < (linesF s 0).length) (W : World) (hB : Base s A c g cw pb pw Bs W) (wt : ByteArray)
    (hO : Row W (M + 1) 4 #[.bool true]) (hK : Row W M 3 #[.int .i64 (i : Int)]) (hW : Row W (M + 1 + 1) 9 #[.string wt]) (hz : wt.size ≤ s.size) :
    Calls Tryd.prog 28 #[.int .i64 ((lnAt s i).1 : Int), .string (lnT s i), .pointer (some ⟨M + 1, 0, none⟩), .pointer (some ⟨M, 0, none⟩), .pointer (some ⟨pw, 0, none⟩), .pointer (some ⟨pb, 0, none⟩), .pointer (some ⟨M + 1 + 1, 0, none⟩)] W
      fun e W' => e = .returned (.bool true) ∧ Row W' (M + 1) 4 #[.bool true] ∧ Row W' M 3 #[.int .i64 ((i : Int) + 1)] ∧ Row W' (M + 1 + 1) 9 #[.string ((if 0 < i then wt ++ ⟨#[10]⟩ else wt) ++ lnT s i)] ∧ Below M W W' := by
  have hll := lines_len s
  obtain ⟨r1, r2⟩ := hB.rows i hi
  have hbd := lnAt_bd hi
  have HT := Lib.hid (show lnT s i = s.extract (lnAt s i).1 (lnAt s i).2 from rfl)
  have hrd := hB.rd
  have cb := hB.cb
  have cw' := hB.cw
  have nb := cell_lt cb
  have nw := cell_lt cw'
  have ng := hB.gl
  generalize lnAt s i = x at *
  obtain ⟨lo, hi2⟩ := x
  dsimp only at *
  have hsl := fun W => run_cut_mid (P := Tryd.prog) (t := 22) A (n := s.size) (c := c) W Tryd.underlying22 (fun _ => by kernel_rfl) hbd.1 (show hi2 ≤ c by omega)
  have hcv0 := fun W1 (hb : Below W.heap.size W W1) c2 => run_mid (hrd.below hb) hbd.1 hbd.2 hcap c2
  generalize (if c = lo then A else A.map (·.add lo)) = A2 at *
  rw [HT.out]
  have hx : (s.extract lo hi2).size = hi2 - lo := by rw [ByteArray.size_extract]; omega
  generalize s.extract lo hi2 = tx at *
  generalize (linesF s 0).length = L at *
  have HC := Lib.hid hcv0
  clear HT hrd hB hcv0
  have i1 : (i : Int) < (L : Int) := by omega
  go_enter Tryd.func28, Tryd.ntmps28
  go_upto_region 1 with (fail)
  refine wp_region_still_tail 33 (by kernel_rfl) (by kernel_rfl) ?_
  simp only [List.take_succ_cons, List.take_zero, List.drop_succ_cons, List.drop_zero]
  obtain ⟨wd, hwd⟩ : ∃ wd : World, wd = { W with drawn := W.drawn + 1 } := ⟨_, rfl⟩
  rw [← hwd]
  have hO : Row wd (M + 1) 4 #[.bool true] := by rw [hwd]; exact hO
  have hK : Row wd M 3 #[.int .i64 (i : Int)] := by rw [hwd]; exact hK
  have hW : Row wd (M + 1 + 1) 9 #[.string wt] := by rw [hwd]; exact hW
  have hb : Below W.heap.size W wd := by rw [hwd]; exact (Below.refl _ W).drew
  have hbM : Below M W wd := by rw [hwd]; exact (Below.refl _ W).drew
  clear hwd
  have d1 := hO.cell 0
  have d2 := hK.cell 0
  have d3 := hW.cell 0
  have f1 := hO.free 0
  have f2 := hK.free 0
  have f3 := hW.free 0
  have l1 := hO.lt
  have l2 := hK.lt
  have l3 := hW.lt
  have hs1 := set_same hO
  have cb := (hb.cell (p := ⟨pb, 0, none⟩) nb).trans cb
  have cw' := (hb.cell (p := ⟨pw, 0, none⟩) nw).trans cw'
  have r1 := (hb.cell (p := ⟨g, i * 2, none⟩) ng).trans r1
  have r2 := (hb.cell (p := ⟨g, i * 2 + 1, none⟩) ng).trans r2
  have hcv := fun c2 => HC.out wd hb c2
  simp at d1 d2 d3
  repeat still_step
  refine wpStill_nil ?_
  go_wp2
  all_goals go_ret
  · refine ⟨rfl, ?_, ?_, ?_, ?_⟩
    · exact ((hO.far (by simp) _).far (by simp) _).far (by simp) _
    · exact row_put1 ((hK.far (by simp; omega) _).far (by simp; omega) _) _
    · exact (row_put1 (row_put1 hW _) _).far (by simp; omega) _
    · exact ((hbM.setCell (by simp; omega) _).setCell (by simp; omega) _).setCell (Nat.le_refl _) _
  · refine ⟨rfl, ?_, ?_, ?_, ?_⟩
    · exact (hO.far (by simp) _).far (by simp) _
    · exact row_put1 (hK.far (by simp; omega) _) _
    · exact (row_put1 hW _).far (by simp; omega) _
    · exact (hbM.setCell (by simp; omega) _).setCell (Nat.le_refl _) _
/-- Where the loop over the lines stands. -/
def It (s : ByteArray) (M : Nat) (wr : World) (pre : List (Nat × Nat)) (W : World) : Prop := Row W M 3 #[.int .i64 (pre.length : Int)] ∧ Row W (M + 1) 4 #[.bool true] ∧ Row W (M + 1 + 1) 9 #[.string (wholeT s pre)] ∧ Below M wr W
theorem fn28 (args : Array Value) (w : World) : (callFunc 28 args).run Tryd.prog w = .ok (.enter 28 args) w := Tryd.call28 args w
theorem whole_le {s : ByteArray} (pre : List (Nat × Nat)) (x : Nat × Nat) : (wholeT s pre).size ≤ s.size := by
  unfold wholeT
  split
  · exact Nat.zero_le _
  · rw [ByteArray.size_extract]; omega
theorem ln1_in (s : ByteArray) (A : Option Addr) (c : Nat) (hs : s.size ≤ 1099511627776) (hcap : s.size ≤ c) (g cw pb pw Bs : Nat) (wr : World) (hB : Base s A c g cw pb pw Bs wr)
    (pre : List (Nat × Nat)) (x : Nat × Nat) (W : World) (hJ : It s wr.heap.size wr pre W) (hp : pre ++ [x] <+: linesF s 0) :
    Calls Tryd.prog 28 (lnE s x ++ #[.pointer (some ⟨wr.heap.size + 1, 0, none⟩), .pointer (some ⟨wr.heap.size, 0, none⟩), .pointer (some ⟨pw, 0, none⟩), .pointer (some ⟨pb, 0, none⟩), .pointer (some ⟨wr.heap.size + 1 + 1, 0, none⟩)]) W fun e W' =>
      (e = .returned (.bool true) ∧ It s wr.heap.size wr (pre ++ [x]) W' ∧ KeepC Bs W W') ∨ (e = .returned (.bool false) ∧ False) := by
  obtain ⟨hK, hO, hW, hb⟩ := hJ
  have hpk := pre_at_last hp
  have hlt : pre.length < (linesF s 0).length := (List.getElem?_eq_some_iff.1 hpk).1
  have hx := lnAt_is hpk
  have hst := whole_step hp
  have hcall := ln1_any s A c hs hcap g cw pb pw Bs wr.heap.size pre.length hlt W (hB.later hb) (wholeT s pre) hO hK hW (whole_le pre x)
  rw [show lnT s pre.length = s.extract x.1 x.2 by unfold lnT; rw [hx], hx, hst] at hcall
  refine hcall.mono ?_
  rintro e W' ⟨rfl, r1, r2, r3, b⟩
  refine .inl ⟨rfl, ⟨by simpa using r2, r1, r3, hb.trans b⟩, keepC_below b (cell_lt hB.cB)⟩
set_option maxRecDepth 100000 in
set_option maxHeartbeats 4000000 in
theorem TextLines_any (s : ByteArray) (A : Option Addr) (c : Nat) (hs : s.size ≤ 140737488351232) (hcap : s.size ≤ c) (w : World) (h : Rd w w.heap.size A s.size (byteC s)) (n : Int) (hT : Tz w) :
    Calls Tryd.prog 9 #[.slice A s.size c, .int .i64 n] w fun e w' => e = .returned (.bool true) ∧ Below w.heap.size w w' := by
  have hT2 := hT.2
  by_cases h4 : s.size ≤ 4000
  · have hll := lines_len s
    have h1 := h.alloc (Nat.le_refl _) (.cells #[.slice A s.size c] 22)
    go_enter Tryd.func9, Tryd.ntmps9
    go_upto_region 4 with (first
      | (go_at_call 26; (with_reducible refine (rLines_any s A c (by omega) hcap _ (by simp) h1).mono ?_); rintro e w1 ⟨⟨v, rfl, hown⟩, hb1⟩; obtain ⟨g, cw, rfl, hg0, hg1, hrows⟩ := lnR_own hown; have HR := Lib.hid hrows; clear hrows hown))
    have z1 : w.heap.size + 1 ≤ w1.heap.size := by have := hb1.size; simp at this; omega
    have b1 : Below w.heap.size w w1 := ((Below.refl _ w).alloc (Nat.le_refl _) _).trans (hb1.mono (by simp))
    have r3 : Row w1 w.heap.size 22 #[.slice A s.size c] := (row_new rfl).below hb1 (by simp)
    have HLs := Lib.hid (fun W (hb : Below w.heap.size w W) => Lines_any s A c W (h.below hb))
    obtain ⟨wo, hwo⟩ : ∃ wo : World, wo = (w1.alloc (.cells #[.slice (some ⟨g, 0, none⟩) (linesF s 0).length cw] 45)).alloc (.cells #[.string s] 9) := ⟨_, rfl⟩
    have hB : Base s A c g cw w.heap.size w1.heap.size (w1.heap.size + 1) wo := by
      have hb : Below w1.heap.size w1 wo := by rw [hwo]; exact ((Below.refl _ w1).alloc (Nat.le_refl _) _).alloc (by simp) _
      have hb0 : Below w.heap.size w wo := b1.trans (hb.mono (by omega))
      refine ⟨?_, ?_, ?_, (h.below hb0).more hb0.size, Nat.lt_of_lt_of_le hg1 hb.size, HR.out.below hg1 hb⟩
      · exact (hb.cell (p := ⟨w.heap.size, 0, none⟩) (by simp; omega)).trans (r3.cell 0)
      · rw [hwo]; exact ((row_new rfl).alloc _ : Row _ w1.heap.size 45 _).cell 0
      · rw [hwo]; exact (row_new (by simp) : Row _ (w1.heap.size + 1) 9 _).cell 0
    have b0 : Below w.heap.size w wo := by rw [hwo]; exact (b1.alloc (by omega) _).alloc (by simp; omega) _
    have z0 : w1.heap.size + 1 < wo.heap.size := by rw [hwo]; simp
    have b1a : Below w.heap.size w (w1.alloc (.cells #[.slice (some ⟨g, 0, none⟩) (linesF s 0).length cw] 45)) := b1.alloc (by omega) _
    have c2 : (w1.alloc (.cells #[.slice (some ⟨g, 0, none⟩) (linesF s 0).length cw] 45)).cell? ⟨w.heap.size, 0, none⟩ = some (.slice A s.size c) := (r3.alloc _).cell 0
    clear r3 HR h1 hb1
    go_upto_region 5 with (first
      | (go_at_call 27; (with_reducible refine (HLs.out _ b1a).mono ?_); rintro e w2 ⟨rfl, rfl⟩))
    rw [← hwo]
    clear hwo HLs b1a c2 b1
    generalize w1.heap.size = pw at *
    have cb := hB.cb
    have cw' := hB.cw
    have cB := hB.cB
    have nb := cell_lt cb
    have nw := cell_lt cw'
    have HY := Lib.hid (ln1_in s A c (by omega) hcap g cw w.heap.size pw (pw + 1) wo hB)
    have HB := Lib.hid hB
    have h0 : It s wo.heap.size wo [] (((wo.alloc (.cells #[.int .i64 0] 3)).alloc (.cells #[.bool true] 4)).alloc (.cells #[.string ⟨#[]⟩] 9)) :=
      ⟨((row_new rfl).alloc _).alloc _, (row_new (by simp)).alloc _, row_new (by simp), (((Below.refl _ wo).alloc (Nat.le_refl _) _).alloc (by simp) _).alloc (by simp; omega) _⟩
    have hcB : (((wo.alloc (.cells #[.int .i64 0] 3)).alloc (.cells #[.bool true] 4)).alloc (.cells #[.string ⟨#[]⟩] 9)).cell? ⟨pw + 1, 0, none⟩ = some (.string s) := by
      rw [World.cell?_alloc_lt _ _ _ (by simp; omega), World.cell?_alloc_lt _ _ _ (by simp; omega), World.cell?_alloc_lt _ _ _ (cell_lt cB)]; exact cB
    have H0 := Lib.hid h0
    have HC := Lib.hid hcB
    clear h0 hcB hB
    go_upto_region 11 with (first
      | (go_at_call 40; go_must (refine (Lines1_call 28 #[.pointer (some ⟨wo.heap.size + 1, 0, none⟩), .pointer (some ⟨wo.heap.size, 0, none⟩), .pointer (some ⟨pw, 0, none⟩), .pointer (some ⟨w.heap.size, 0, none⟩), .pointer (some ⟨wo.heap.size + 1 + 1, 0, none⟩)] (pw + 1) s (by omega) (It s wo.heap.size wo) (fun _ _ => False) fn28 HY.out _ HC.out H0.out).mono ?_); rintro e w3 ⟨⟨v, rfl⟩, hor⟩))
    obtain ⟨rK, rO, rW, b3⟩ := hor.resolve_right (fun ⟨_, h⟩ => h)
    rw [whole_all] at rW
    have q3 := b3.size
    have bw3 : Below w.heap.size w w3 := b0.trans (b3.mono (by omega))
    have HB3 := Lib.hid (HB.out.later b3)
    have dK := rK.cell 0
    have dO := rO.cell 0
    have dW := rW.cell 0
    have lK := rK.lt
    have lO := rO.lt
    have lW := rW.lt
    have cb3 := HB3.out.cb
    have cw3 := HB3.out.cw
    have kc := run_string_of (P := Tryd.prog) 22 9 5 c Tryd.underlying22 Tryd.underlying5 Tryd.underlying9 HB3.out.rd
    simp at dK dO dW
    clear HY HB H0 HC rK rO rW hor cb cw' cB
    obtain ⟨L, hL⟩ : ∃ L, L = (linesF s 0).length := ⟨_, rfl⟩
    have HLA := Lib.hid (fun W (hb : Below w3.heap.size w3 W) n => (by have hB := HB3.out.later hb; have := line_any s A c (by omega) hcap W hB.rd g cw hB.gl hB.rows n; rw [← hL] at this; exact this : Calls Tryd.prog 29 #[.slice A s.size c, .int .i64 n, .slice (some ⟨g, 0, none⟩) L cw] W fun e w' => e = .returned (.bool true) ∧ Below W.heap.size W w'))
    rw [← hL] at hll dK cw3 ⊢
    have HBc := Lib.hid (fun W (hb : Below w3.heap.size w3 W) => (HB3.out.later hb).cb)
    have HWc := Lib.hid (fun W (hb : Below w3.heap.size w3 W) => (by rw [hL]; exact (HB3.out.later hb).cw : W.cell? ⟨pw, 0, none⟩ = some (.slice (some ⟨g, 0, none⟩) L cw)))
    clear hL HB3
    go_wp2
    clear kc dK dO dW
    go_loopw [10] (fun i wr => ∃ k : Nat, k ≤ L + 3 ∧ i = .int .i64 ((k : Int) - 1) ∧ Below w3.heap.size w3 wr) (fun i _ => L + 4 - (intOf i + 1).toNat)
    case atStart => exact ⟨0, Nat.zero_le _, rfl, Below.refl _ _⟩
    case round =>
      obtain ⟨k, hk, rfl, hbr⟩ := hrel
      have zr := hbr.size
      have cbr := HBc.out wr hbr
      have cwr := HWc.out wr hbr
      have nbr := cell_lt cbr
      have nwr := cell_lt cwr
      by_cases hlt : k ≤ L + 2
      · go_wp2_with (first
          | (go_at_call 29; (with_reducible refine (HLA.out wr hbr _).mono ?_); rintro e w4 ⟨rfl, b4⟩; have z4 := Below.size b4))
        go_roundw
        case rel => exact ⟨k + 1, by omega, by go_num, hbr.trans (b4.mono zr)⟩
        case measure => simp [intOf]; omega
      · obtain rfl : k = L + 3 := by omega
        go_wp2_with (first
          | (go_at_call 29; (with_reducible refine (HLA.out wr hbr _).mono ?_); rintro e w4 ⟨rfl, b4⟩; have z4 := Below.size b4; have b5 : Below w.heap.size w w4 := bw3.trans ((hbr.trans (b4.mono zr)).mono (by omega)))
          | (go_at_call 14; (with_reducible refine (known_any _ (hT.later (B := w.heap.size) (by (repeat (first | (with_reducible exact Below.refl _ _) | (with_reducible assumption) | (with_reducible refine Below.setCell ?_ (by first | omega | (simp <;> omega)) _) | (with_reducible refine Below.alloc ?_ (by first | omega | (simp <;> omega)) _) | (with_reducible refine Below.drew ?_) | (with_reducible refine below_drewN ?_ _) | (with_reducible refine Below.trans ?_ (Below.mono (by with_reducible assumption) (by first | omega | (simp <;> omega))))))) hT2)).mono ?_); rintro e wk ⟨rfl, bk⟩; have zk := Below.size bk))
        go_ret
        exact ⟨rfl, (by (repeat (first | (with_reducible exact Below.refl _ _) | (with_reducible assumption) | (with_reducible refine Below.setCell ?_ (by first | omega | (simp <;> omega)) _) | (with_reducible refine Below.alloc ?_ (by first | omega | (simp <;> omega)) _) | (with_reducible refine Below.drew ?_) | (with_reducible refine below_drewN ?_ _) | (with_reducible refine Below.trans ?_ (Below.mono (by with_reducible assumption) (by first | omega | (simp <;> omega)))))))⟩
  · go_enter Tryd.func9, Tryd.ntmps9
    go_wp2
    go_ret
    exact ⟨rfl, (by (repeat (first | (with_reducible exact Below.refl _ _) | (with_reducible assumption) | (with_reducible refine Below.setCell ?_ (by first | omega | (simp <;> omega)) _) | (with_reducible refine Below.alloc ?_ (by first | omega | (simp <;> omega)) _) | (with_reducible refine Below.drew ?_) | (with_reducible refine below_drewN ?_ _) | (with_reducible refine Below.trans ?_ (Below.mono (by with_reducible assumption) (by first | omega | (simp <;> omega)))))))⟩
end Go.Proofs.YtlfigpmechocmaaDoor
