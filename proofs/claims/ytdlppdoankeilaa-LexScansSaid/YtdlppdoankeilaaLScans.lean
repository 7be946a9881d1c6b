/- The walk of LexScans. -/
import Derived.Test.YtdlppdoankeilaaLaw2
import Derived.Test.YtdlppdoankeilaaScanC
import Derived.Laws.EntriesVeiled
namespace Go.Proofs.Ytdlppdoankeilaa
set_option linter.unusedVariables false
set_option linter.unusedSimpArgs false
set_option linter.unnecessarySimpa false
open Go.RowKit
attribute [local go_sem] cell_alloc_add cell_set_add lt_more
theorem seqT (fn : Fn) (f c : Array Value) (w : World) : (binOp .eql 37 (.func fn f c) .nilFunc).run Try.prog w = .ok (.bool false) w := by
  kernel_rfl
attribute [local go_sem] seqT
theorem Mx.pos {w : World} (hm : Mx w) : 0 < w.heap.size := by obtain ⟨y, hy⟩ := hm; exact Nat.lt_of_le_of_lt (Nat.zero_le _) (World.block_lt_of_cell? w ⟨0, 0, none⟩ hy)
theorem cell_lt2 {w : World} {b o : Nat} {v : Value} (h : w.cell? ⟨b, o, none⟩ = some v) : b < w.heap.size := World.block_lt_of_cell? w ⟨b, o, none⟩ h
/-- A store of the value that a cell already holds is no change. -/
theorem set_same {W : World} {g : Nat} {t : TypeId} {v : Value} (h : Row W g t #[v]) : W.setCell ⟨g, 0, none⟩ v = W := by
  have e : (W.setCell ⟨g, 0, none⟩ v).heap = W.heap := by
    apply Array.ext_getElem?
    intro i
    have hp := row_put1 h v
    by_cases c : g = i
    · subst c
      unfold Row at h hp
      rw [h, hp]
    · exact Below.heap_setCell _ _ _ _ (by simpa using fun e => c e.symm)
  cases W
  simp only [World.setCell] at e ⊢
  rw [e]
/-- What an item of the iterator is. -/
def ItemAt (P : List Tok) (pl fl i : Nat) (t : Tok) (er : Int) : Prop := (i < P.length ∧ P[i]? = some t ∧ er = 0) ∨ (i = P.length ∧ fl ≠ 0 ∧ t = ⟨0, ⟨#[]⟩, pl, 0⟩ ∧ er = fl)
theorem item_at {p : List Tok × Nat × Nat} {pre : List (Tok × Int)} {x : Tok × Int} (h : pre ++ [x] <+: itemsOf p) : ItemAt p.1 p.2.1 p.2.2 pre.length x.1 x.2 := by
  have hx : (itemsOf p)[pre.length]? = some x := by
    obtain ⟨r, hr⟩ := h
    rw [← hr, List.append_assoc, List.getElem?_append_right (Nat.le_refl _), Nat.sub_self]
    rfl
  unfold itemsOf at hx
  by_cases c : pre.length < p.1.length
  · rw [List.getElem?_append_left (by simpa using c), List.getElem?_map] at hx
    cases ht : p.1[pre.length]? with
    | none => rw [ht] at hx; cases hx
    | some t =>
      rw [ht] at hx
      injection hx with hx
      subst hx
      exact .inl ⟨c, ht, rfl⟩
  · rw [List.getElem?_append_right (by simpa using Nat.le_of_not_lt c), List.length_map] at hx
    by_cases c2 : p.2.2 = 0
    · rw [if_pos c2] at hx; simp at hx
    · rw [if_neg c2] at hx
      by_cases c3 : pre.length = p.1.length
      · rw [c3, Nat.sub_self] at hx
        injection hx with hx
        subst hx
        exact .inr ⟨c3, c2, rfl, rfl⟩
      · rw [List.getElem?_eq_none (by simp; omega)] at hx; cases hx
/-- What stands while the law goes on. -/
structure Base (P : List Tok) (pl fl : Nat) (stop : Int) (p3 p5 p6 p7 Bs : Nat) (A : Option Addr) (c : Nat) (s : ByteArray) (A2 : Option Addr) (c2 : Nat) (w : World) : Prop where
  c3 : w.cell? ⟨p3, 0, none⟩ = some (.int .i64 stop)
  c5 : w.cell? ⟨p5, 0, none⟩ = some (.slice A P.length c)
  c6 : w.cell? ⟨p6, 0, none⟩ = some (.int .i64 (pl : Int))
  c7 : w.cell? ⟨p7, 0, none⟩ = some (.int .i64 (fl : Int))
  cB : w.cell? ⟨Bs, 0, none⟩ = some (.slice A2 s.size c2)
  tr : TRd w w.heap.size A P
  bt : Bt w w.heap.size A2 s
  mx : Mx w
  hc : P.length ≤ c
theorem Bt.below {W W' : World} {A : Option Addr} {s : ByteArray} (h : Bt W W.heap.size A s) (hb : Below W.heap.size W W') : Bt W' W'.heap.size A s := by
  have h2 : Bt W' W.heap.size A s := h.keep fun k cs fr e => (hb.block k (Array.getElem?_eq_some_iff.1 e).1).trans e
  exact ⟨h2.1.more hb.size, h2.2⟩
theorem Base.later {P : List Tok} {pl fl : Nat} {stop : Int} {p3 p5 p6 p7 Bs : Nat} {A : Option Addr} {c : Nat} {s : ByteArray} {A2 : Option Addr} {c2 : Nat} {w W : World} (h : Base P pl fl stop p3 p5 p6 p7 Bs A c s A2 c2 w) (hb : Below w.heap.size w W) : Base P pl fl stop p3 p5 p6 p7 Bs A c s A2 c2 W where
  c3 := (hb.cell (p := ⟨p3, 0, none⟩) (cell_lt2 h.c3)).trans h.c3
  c5 := (hb.cell (p := ⟨p5, 0, none⟩) (cell_lt2 h.c5)).trans h.c5
  c6 := (hb.cell (p := ⟨p6, 0, none⟩) (cell_lt2 h.c6)).trans h.c6
  c7 := (hb.cell (p := ⟨p7, 0, none⟩) (cell_lt2 h.c7)).trans h.c7
  cB := (hb.cell (p := ⟨Bs, 0, none⟩) (cell_lt2 h.cB)).trans h.cB
  tr := (h.tr.below hb).more hb.size
  bt := h.bt.below hb
  mx := h.mx.below hb h.mx.pos
  hc := h.hc
set_option maxRecDepth 100000 in
set_option maxHeartbeats 8000000 in
theorem run1_any (P : List Tok) (pl fl : Nat) (stop : Int) (p3 p5 p6 p7 Bs : Nat) (A : Option Addr) (c : Nat) (s : ByteArray) (A2 : Option Addr) (c2 : Nat) (hP : P.length ≤ 4000) (W : World) (hB : Base P pl fl stop p3 p5 p6 p7 Bs A c s A2 c2 W) (N O i : Nat) (t : Tok) (er : Int) (hx : ItemAt P pl fl i t er) (hN : Row W N 3 #[.int .i64 (i : Int)]) (hO : Row W O 4 #[.bool true]) :
    Calls Try.prog 17 (#[.agg (tokA t), .int .i64 er] ++ #[.pointer (some ⟨N, 0, none⟩), .pointer (some ⟨p5, 0, none⟩), .pointer (some ⟨O, 0, none⟩), .pointer (some ⟨p7, 0, none⟩), .pointer (some ⟨p6, 0, none⟩)]) W fun e W' => e = .returned (.bool true) ∧ Row W' N 3 #[.int .i64 ((i : Int) + 1)] ∧ Kept N none W W' := by
  have c5 := hB.c5
  have c6 := hB.c6
  have c7 := hB.c7
  have n5 := cell_lt2 c5
  have n6 := cell_lt2 c6
  have n7 := cell_lt2 c7
  have d1 := hO.cell 0
  have d2 := hN.cell 0
  have f1 := hO.free 0
  have f2 := hN.free 0
  have l1 := hO.lt
  have l2 := hN.lt
  simp at d1 d2
  have hne : N ≠ O := fun e => by subst e; rw [d1] at d2; cases d2
  obtain ⟨tk, tx, tl, th⟩ := t
  unfold tokA
  rcases hx with ⟨h1, h2, rfl⟩ | ⟨rfl, h2, h3, rfl⟩
  · obtain ⟨g, rfl, hg, ⟨q0, q1, q2, q3⟩⟩ := hB.tr i _ h2
    simp only at q0 q1 q2 q3
    have hlt : ((i : Int) < (P.length : Int)) = True := by simp; omega
    have hc := hB.hc
    have HB := Lib.hid hB
    clear hB h2
    go_enter Try.func17, Try.ntmps17
    go_wp2
    go_region
    go_wp2
    rw [set_same hO]
    refine bodyPost_ret (v := .bool true) (by simp [results, Try.results17, go_sem]) rfl ⟨rfl, ((row_put1 hN _).alloc _).drew, (((Kept.refl N none W).set rfl _).below_next ((Below.refl _ _).alloc (Nat.le_refl _) _)).drew⟩
  · injection h3 with t1 t2 t3 t4
    subst t1 t2 t3 t4
    have hlt : ((P.length : Int) < (P.length : Int)) = False := by simp
    have hf1 : ((fl : Int) != 0) = true := by simp; omega
    have hc := hB.hc
    have HB := Lib.hid hB
    clear hB h2
    go_enter Try.func17, Try.ntmps17
    go_wp2
    rw [set_same hO]
    refine bodyPost_ret (v := .bool true) (by simp [results, Try.results17, go_sem]) rfl ⟨rfl, ((row_put1 hN _).alloc _), (((Kept.refl N none W).set rfl _).below_next ((Below.refl _ _).alloc (Nat.le_refl _) _))⟩
set_option maxRecDepth 100000 in
set_option maxHeartbeats 8000000 in
theorem run2_any (stop : Int) (p3 : Nat) (W : World) (N i : Nat) (hi : i ≤ 10000) (t : Tok) (er : Int) (c3 : W.cell? ⟨p3, 0, none⟩ = some (.int .i64 stop)) (hN : Row W N 3 #[.int .i64 (i : Int)]) (hne : N ≠ p3) :
    Calls Try.prog 18 (#[.agg (tokA t), .int .i64 er] ++ #[.pointer (some ⟨N, 0, none⟩), .pointer (some ⟨p3, 0, none⟩)]) W fun e W' => e = .returned (.bool (decide ((i : Int) + 1 < stop))) ∧ Row W' N 3 #[.int .i64 ((i : Int) + 1)] ∧ Kept N none W W' := by
  have n3 := cell_lt2 c3
  have d2 := hN.cell 0
  have f2 := hN.free 0
  have l2 := hN.lt
  have d3 := (row_put1 hN (.int .i64 ((i : Int) + 1))).cell 0
  have d4 : (W.setCell ⟨N, 0, none⟩ (.int .i64 ((i : Int) + 1))).cell? ⟨p3, 0, none⟩ = some (.int .i64 stop) := by
    rw [World.cell?_setCell_other _ _ _ _ (by simp [hne])]; exact c3
  simp at d2 d3
  obtain ⟨tk, tx, tl, th⟩ := t
  unfold tokA
  go_enter Try.func18, Try.ntmps18
  go_wp2
  refine bodyPost_ret (v := .bool (decide ((i : Int) + 1 < stop))) (by simp [results, Try.results18, go_sem]) rfl ⟨rfl, ((row_put1 hN _).alloc _), (((Kept.refl N none W).set rfl _).below_next ((Below.refl _ _).alloc (Nat.le_refl _) _))⟩
theorem It.row_lt {B g : Nat} {A C : World} {t : TypeId} {cs : Array Value} (h : It B A C) (hr : Row A g t cs) (hg : g < B) : Row C g t cs := by
  rcases h.block g hr.lt with e | ⟨e, _⟩
  · exact e.trans hr
  · omega
theorem Kept.kc {B N : Nat} {W W' : World} {cs : Array Value} (h : Kept N none W W') (hr : Row W N 3 cs) (h0 : 0 < N) (hN : N < B) : Kc B W W' :=
  ⟨h.size, h.block 0 (by have := hr.lt; omega) (by omega) (fun e => by cases e), fun k cs t fr e hk => (h.block k (Array.getElem?_eq_some_iff.1 e).1 (by omega) (fun e => by cases e)).trans e,
    fun k cs' fr e => (h.block k (Array.getElem?_eq_some_iff.1 e).1 (fun q => by
      subst q
      have h2 : W.heap[k]? = _ := hr
      rw [h2] at e
      injection e with e
      injection e with _ e _
      exact absurd e (by decide)) (fun e => by cases e)).trans e⟩
/-- Where a turn over the tokens stands. -/
def Tn (M : Nat) (wr : World) (pre : List (Tok × Int)) (W : World) : Prop := Row W M 3 #[.int .i64 (pre.length : Int)] ∧ Row W (M + 1) 4 #[.bool true] ∧ Below M wr W
theorem Tn.it {M B : Nat} {wr : World} {q : List (Tok × Int)} {A C : World} (h : Tn M wr q A) (k : It B A C) (hM : M + 1 < B) : Tn M wr q C :=
  ⟨k.row_lt h.1 (by omega), k.row_lt h.2.1 hM, h.2.2.trans (k.below (by omega) (by have := h.1.lt; omega))⟩
theorem turn_any (stop : Int) (p3 p5 p6 p7 Bs : Nat) (A : Option Addr) (c : Nat) (s : ByteArray) (A2 : Option Addr) (c2 : Nat) (hs : s.size ≤ 1500) (hc2 : s.size ≤ c2) (hP : (tokR s).1.length ≤ 4000) (wr : World) (hB : Base (tokR s).1 (tokR s).2.1 (tokR s).2.2 stop p3 p5 p6 p7 Bs A c s A2 c2 wr) :
    Calls Try.prog 27 #[.func (.func 17) #[] #[.pointer (some ⟨wr.heap.size, 0, none⟩), .pointer (some ⟨p5, 0, none⟩), .pointer (some ⟨wr.heap.size + 1, 0, none⟩), .pointer (some ⟨p7, 0, none⟩), .pointer (some ⟨p6, 0, none⟩)], .pointer (some ⟨Bs, 0, none⟩)]
      ((wr.alloc (.cells #[.int .i64 0] 3)).alloc (.cells #[.bool true] 4)) fun e W' => (∃ v, e = .returned v) ∧ Tn wr.heap.size wr (itemsOf (tokR s)) W' := by
  obtain ⟨W, hW⟩ : ∃ W, W = (wr.alloc (.cells #[.int .i64 0] 3)).alloc (.cells #[.bool true] 4) := ⟨_, rfl⟩
  rw [← hW]
  have hWs : W.heap.size = wr.heap.size + 2 := by rw [hW]; simp
  have h0 : Tn wr.heap.size wr [] W := by rw [hW]; exact ⟨(row_new rfl).alloc _, row_new (by simp), (by (repeat (first | (with_reducible exact Below.refl _ _) | (with_reducible assumption) | (with_reducible refine Below.setCell ?_ (by first | omega | (simp <;> omega)) _) | (with_reducible refine Below.alloc ?_ (by first | omega | (simp <;> omega)) _) | (with_reducible refine Below.drew ?_) | (with_reducible refine below_drewN ?_ _) | (with_reducible refine Below.trans ?_ (Below.mono (by with_reducible assumption) (by first | omega | (simp <;> omega)))))))⟩
  have hbW : Below wr.heap.size wr W := h0.2.2
  have hBW := hB.later hbW
  have hpos := hB.mx.pos
  refine (Scan1_call 17 _ (fun args w => Try.call17 args w) Bs s A2 c2 (by omega) hc2 (Tn wr.heap.size wr) (fun _ _ => False) W.heap.size (fun q A C h k => h.it k (by omega)) ?_ W (Nat.le_refl _) hBW.mx hBW.cB hBW.bt h0).mono ?_
  · intro pre x W0 W1 hJ hit hpx
    have hJ1 := hJ.it hit (by omega)
    have hB1 := hB.later hJ1.2.2
    refine (run1_any (tokR s).1 (tokR s).2.1 (tokR s).2.2 stop p3 p5 p6 p7 Bs A c s A2 c2 hP W1 hB1 wr.heap.size (wr.heap.size + 1) pre.length x.1 x.2 (item_at hpx) hJ1.1 hJ1.2.1).mono ?_
    rintro e W' ⟨rfl, hN, hk⟩
    exact .inl ⟨rfl, ⟨by simpa using hN, hk.row hJ1.2.1 (by omega) (fun e => by cases e), hJ1.2.2.trans (hk.below (Nat.le_refl _) (by have := hJ1.1.lt; omega) (fun b e => by cases e))⟩, hk.kc hJ1.1 hpos (by omega)⟩
  · rintro e W' ⟨hv, ⟨ys, rfl, hj⟩ | ⟨_, _, hf⟩⟩
    · exact ⟨hv, hj⟩
    · exact hf.elim
/-- Where the last turn stands; where it was left. -/
def Sn (stop : Int) (M : Nat) (wr : World) (pre : List (Tok × Int)) (W : World) : Prop := Row W M 3 #[.int .i64 (pre.length : Int)] ∧ Below M wr W ∧ (pre = [] ∨ (pre.length : Int) < stop)
def Sx (stop : Int) (M : Nat) (wr : World) (pre : List (Tok × Int)) (W : World) : Prop := Row W M 3 #[.int .i64 (pre.length : Int)] ∧ Below M wr W ∧ stop ≤ pre.length ∧ 0 < pre.length ∧ (pre.length = 1 ∨ (pre.length : Int) - 1 < stop)
theorem Sn.it {M B : Nat} {stop : Int} {wr : World} {q : List (Tok × Int)} {A C : World} (h : Sn stop M wr q A) (k : It B A C) (hM : M < B) : Sn stop M wr q C :=
  ⟨k.row_lt h.1 (by omega), h.2.1.trans (k.below (by omega) (by have := h.1.lt; omega)), h.2.2⟩
theorem items_len (p : List Tok × Nat × Nat) : (itemsOf p).length = p.1.length + (if p.2.2 = 0 then 0 else 1) := by
  unfold itemsOf
  split <;> simp
theorem stop_any (stop : Int) (p3 p5 p6 p7 Bs : Nat) (A : Option Addr) (c : Nat) (s : ByteArray) (A2 : Option Addr) (c2 : Nat) (hs : s.size ≤ 1500) (hc2 : s.size ≤ c2) (hP : (tokR s).1.length ≤ 4000) (hI : itemsOf (tokR s) ≠ []) (wr : World) (hB : Base (tokR s).1 (tokR s).2.1 (tokR s).2.2 stop p3 p5 p6 p7 Bs A c s A2 c2 wr) :
    Calls Try.prog 27 #[.func (.func 18) #[] #[.pointer (some ⟨wr.heap.size, 0, none⟩), .pointer (some ⟨p3, 0, none⟩)], .pointer (some ⟨Bs, 0, none⟩)]
      (wr.alloc (.cells #[.int .i64 0] 3)) fun e W' => (∃ v, e = .returned v) ∧ Row W' wr.heap.size 3 #[.int .i64 (max 1 (min stop ((itemsOf (tokR s)).length : Int)))] ∧ Below wr.heap.size wr W' := by
  obtain ⟨W, hW⟩ : ∃ W, W = wr.alloc (.cells #[.int .i64 0] 3) := ⟨_, rfl⟩
  rw [← hW]
  have hWs : W.heap.size = wr.heap.size + 1 := by rw [hW]; simp
  have h0 : Sn stop wr.heap.size wr [] W := by rw [hW]; exact ⟨row_new rfl, (by (repeat (first | (with_reducible exact Below.refl _ _) | (with_reducible assumption) | (with_reducible refine Below.setCell ?_ (by first | omega | (simp <;> omega)) _) | (with_reducible refine Below.alloc ?_ (by first | omega | (simp <;> omega)) _) | (with_reducible refine Below.drew ?_) | (with_reducible refine below_drewN ?_ _) | (with_reducible refine Below.trans ?_ (Below.mono (by with_reducible assumption) (by first | omega | (simp <;> omega))))))), .inl rfl⟩
  have hbW : Below wr.heap.size wr W := h0.2.1
  have hBW := hB.later hbW
  have hpos := hB.mx.pos
  have hil := items_len (tokR s)
  have hp3 := cell_lt2 hB.c3
  refine (Scan1_call 18 _ (fun args w => Try.call18 args w) Bs s A2 c2 (by omega) hc2 (Sn stop wr.heap.size wr) (Sx stop wr.heap.size wr) W.heap.size (fun q A C h k => h.it k (by omega)) ?_ W (Nat.le_refl _) hBW.mx hBW.cB hBW.bt h0).mono ?_
  · intro pre x W0 W1 hJ hit hpx
    have hJ1 := hJ.it hit (by omega)
    have hB1 := hB.later hJ1.2.1
    have hpl := hpx.length_le
    rw [List.length_append, List.length_cons, List.length_nil] at hpl
    refine (run2_any stop p3 W1 wr.heap.size pre.length (by split at hil <;> omega) x.1 x.2 hB1.c3 hJ1.1 (by omega)).mono ?_
    rintro e W' ⟨rfl, hN, hk⟩
    have hb' : Below wr.heap.size wr W' := hJ1.2.1.trans (hk.below (Nat.le_refl _) (by have := hJ1.1.lt; omega) (fun b e => by cases e))
    by_cases hlt : (pre.length : Int) + 1 < stop
    · exact .inl ⟨by simp [hlt], ⟨by simpa using hN, hb', .inr (by simpa using hlt)⟩, hk.kc hJ1.1 hpos (by omega)⟩
    · refine .inr ⟨by simp [hlt], by simpa using hN, hb', by simp; omega, by simp, ?_⟩
      rcases hJ1.2.2 with q | q
      · left; rw [q]; rfl
      · right; simp; omega
  · rintro e W' ⟨hv, ⟨ys, rfl, hj⟩ | ⟨pre, hp, hj⟩⟩
    · refine ⟨hv, ?_, hj.2.1⟩
      have hn : (itemsOf (tokR s)).length ≠ 0 := fun e => hI (List.length_eq_zero_iff.1 e)
      have e : max 1 (min stop ((itemsOf (tokR s)).length : Int)) = ((itemsOf (tokR s)).length : Int) := by
        rcases hj.2.2 with q | q
        · exact absurd q hI
        · omega
      rw [e]; exact hj.1
    · refine ⟨hv, ?_, hj.2.1⟩
      have hpl := hp.length_le
      obtain ⟨_, _, h1, h2, h3⟩ := hj
      have e : max 1 (min stop ((itemsOf (tokR s)).length : Int)) = (pre.length : Int) := by
        rcases h3 with q | q <;> omega
      rw [e]; assumption
theorem run_max_plain {P : Program} {w : World} (ts : Array TypeId) (t : TypeId) (k k' : IntKind) (x y : Int) : (Builtin.max_ ts t #[.int k x, .int k' y]).run P w = .ok (.int k (max x y)) w := by
  rw [run_max_int2]; congr 2; split <;> omega
theorem run_min_plain {P : Program} {w : World} (ts : Array TypeId) (t : TypeId) (k k' : IntKind) (x y : Int) : (Builtin.min_ ts t #[.int k x, .int k' y]).run P w = .ok (.int k (min x y)) w := by
  rw [run_min_int2]; congr 2; split <;> omega
attribute [local go_sem high] run_max_plain run_min_plain
theorem toks_some {s : ByteArray} (h : toks s 0 [] = ([], none)) : False := by
  cases e : skip s 0 with
  | mk j ok =>
    cases ok with
    | false => rw [toks_rem e] at h; cases h
    | true =>
      by_cases hj : j < s.size
      · cases ht : tokAt s j [] with
        | none => rw [toks_bad e hj ht] at h; cases h
        | some p => rw [toks_step (t := p.1) (h' := p.2) (Nat.zero_le _) e hj ht] at h; injection h with h _; cases h
      · rw [toks_end e hj] at h; injection h with h _; cases h
set_option maxRecDepth 100000 in
set_option maxHeartbeats 8000000 in
theorem LexScans_any (s : ByteArray) (A : Option Addr) (c : Nat) (hs : s.size ≤ 140737488351232) (hcap : s.size ≤ c) (stop : Int) (w : World) (hm : Mx w) (h : Rd w w.heap.size A s.size (byteC s)) :
    Calls Try.prog 4 #[.slice A s.size c, .int .i64 stop] w fun e w' => e = .returned (.bool true) ∧ Below w.heap.size w w' := by
  have h0 := hm.pos
  by_cases h15 : s.size ≤ 1500
  · have h15' : ((s.size : Int) > 1500) = False := by simp; omega
    have HRef := Lib.hid (fun W (hb : Below w.heap.size w W) => rTokens_any s A c (by omega) hcap W (B := w.heap.size) hb.size (h.below hb))
    have HScan := Lib.hid (fun W (hb : Below w.heap.size w W) => Scan_any s A c (by omega) W ((h.below hb).more hb.size))
    have HK := Lib.hid (fun W (hb : Below w.heap.size w W) => known_any W (hm.below hb h0))
    have hP : (tokR s).1.length ≤ 4000 := by
      have e := tokR_short (s := s) (by omega)
      have := toks_len s _ 0 [] (Nat.le_refl _) (Nat.zero_le _)
      have e2 : (tokR s).1 = (toks s 0 []).1 := by rw [e]; split <;> rfl
      rw [e2]; omega
    unfold TPost at HRef
    have hil := items_len (tokR s)
    have hI : itemsOf (tokR s) ≠ [] := fun e => by
      have e2 := tokR_short (s := s) (by omega)
      have hf : (tokR s).2.2 = 0 := by
        by_cases q : (tokR s).2.2 = 0
        · exact q
        · rw [e, if_neg q] at hil; simp at hil
      have h3 := tokR_inv (s := s) (by omega) hf
      have h4 : tokL s = (tokR s).1 := if_pos hf
      rw [e, if_pos hf] at hil
      have h5 : (tokR s).1 = [] := List.length_eq_zero_iff.1 (by simp at hil; omega)
      rw [h4, h5] at h3
      exact toks_some h3.1
    by_cases hf : (tokR s).2.2 = 0
    · have hz1 : (((tokR s).2.2 : Int) == 0) = true := by simp [hf]
      have hz2 : (((tokR s).2.2 : Int) != 0) = false := by simp [hf]
      rw [if_pos hf, Nat.add_zero] at hil
      clear hf
      go_enter Try.func4, Try.ntmps4
      go_wp2_with (first
        | (go_at_call 12; (with_reducible refine (HRef.out _ (by (repeat (first | (with_reducible exact Below.refl _ _) | (with_reducible assumption) | (with_reducible refine Below.setCell ?_ (by first | omega | (simp <;> omega)) _) | (with_reducible refine Below.alloc ?_ (by first | omega | (simp <;> omega)) _) | (with_reducible refine Below.drew ?_) | (with_reducible refine below_drewN ?_ _) | (with_reducible refine Below.trans ?_ (Below.mono (by with_reducible assumption) (by first | omega | (simp <;> omega)))))))).mono ?_); rintro e w2 ⟨⟨v2, rfl, ho2⟩, b2⟩; have z2 := Below.size b2; obtain ⟨Ap, cp, rfl, hcp, ht2, hob2⟩ := own_trd ho2; have r3 := Row.below (row_new rfl) b2 (by simp); have n3 := r3.lt)
        | (go_at_call 16; (with_reducible refine (HScan.out _ (by (repeat (first | (with_reducible exact Below.refl _ _) | (with_reducible assumption) | (with_reducible refine Below.setCell ?_ (by first | omega | (simp <;> omega)) _) | (with_reducible refine Below.alloc ?_ (by first | omega | (simp <;> omega)) _) | (with_reducible refine Below.drew ?_) | (with_reducible refine below_drewN ?_ _) | (with_reducible refine Below.trans ?_ (Below.mono (by with_reducible assumption) (by first | omega | (simp <;> omega)))))))).mono ?_); rintro e w3 ⟨A2, c2, rfl, hc2, rB, hbt, b3⟩; have z3 := Below.size b3; have r5 : Row w3 w2.heap.size 24 #[.slice Ap (tokR s).1.length cp] := Row.below (((row_new rfl).alloc _).alloc _) b3 (by simp; omega); have r6 : Row w3 (w2.heap.size + 1) 3 #[.int .i64 ((tokR s).2.1 : Int)] := Row.below ((row_new (by simp)).alloc _) b3 (by simp); have r7 : Row w3 (w2.heap.size + 1 + 1) 3 #[.int .i64 ((tokR s).2.2 : Int)] := Row.below (row_new (by simp)) b3 (by simp)))
      have b23 : Below w2.heap.size w2 w3 := (((Below.refl _ w2).alloc (Nat.le_refl _) _ |>.alloc (by simp) _).alloc (by simp; omega) _).trans (b3.mono (by simp; omega))
      have bw2 : Below w.heap.size w w2 := ((Below.refl _ w).alloc (Nat.le_refl _) _).trans (b2.mono (by simp))
      have bw3 := bw2.trans (b23.mono bw2.size)
      have rB' : Row w3 (w2.heap.size + 1 + 1 + 1) 22 #[.slice A2 s.size c2] := by simpa using rB
      have hB3 : Base (tokR s).1 (tokR s).2.1 (tokR s).2.2 stop w.heap.size w2.heap.size (w2.heap.size + 1) (w2.heap.size + 1 + 1) (w2.heap.size + 1 + 1 + 1) Ap cp s A2 c2 w3 :=
        ⟨by have := (r3.below b23 n3).cell 0; simpa using this, by have := r5.cell 0; simpa using this, by have := r6.cell 0; simpa using this, by have := r7.cell 0; simpa using this, by have := rB'.cell 0; simpa using this, (ht2.below b23).more b23.size, hbt, hm.below bw3 h0, hcp⟩
      clear r3 r5 r6 r7 rB rB' hbt ht2 ho2 hob2 b3 HRef HScan
      go_loopw [9] (fun vi wr => ∃ k : Nat, k ≤ 2 ∧ vi = .int .i64 (k : Int) ∧ Below w3.heap.size w3 wr) (fun i _ => 2 - (intOf i).toNat)
      case atStart => exact ⟨0, by omega, rfl, Below.refl _ _⟩
      case round =>
        obtain ⟨k, hk, rfl, hb⟩ := hrel
        have hz := hb.size
        have hBr := hB3.later hb
        have bwr := bw3.trans (hb.mono bw3.size)
        by_cases hlt : k < 2
        · have hlt' : ((k : Int) < 2) = True := by simp; omega
          go_wp2_with (go_at_call 27; (with_reducible refine (turn_any stop _ _ _ _ _ _ _ s A2 c2 h15 hc2 hP wr hBr).mono ?_); rintro e w4 ⟨⟨v4, rfl⟩, hT⟩; have hB4 := hBr.later hT.2.2; have d10 := hT.1.cell 0; have d11 := hT.2.1.cell 0; have d5 := hB4.c5; have d7 := hB4.c7; rw [hil] at d10; simp at d10 d11)
          exact ⟨⟨k + 1, by omega, by go_num, hb.trans (hT.2.2.mono hz)⟩, by simp [intOf]; omega⟩
        · have hlt' : ((k : Int) < 2) = False := by simp; omega
          go_wp2_with (first
            | (go_at_call 27; (with_reducible refine (stop_any stop _ _ _ _ _ _ _ s A2 c2 h15 hc2 hP hI wr hBr).mono ?_); rintro e w4 ⟨⟨v4, rfl⟩, hT, b4⟩; have hB4 := hBr.later b4; have d10 := hT.cell 0; have d3 := hB4.c3; have d5 := hB4.c5; have d7 := hB4.c7; rw [hil] at d10; simp at d10; have z4 := b4.size; have bw4 := bwr.trans (b4.mono bwr.size))
            | (go_at_call 15; (with_reducible refine (HK.out _ bw4).mono ?_); rintro e wk ⟨rfl, bk⟩; have zk := Below.size bk))
          all_goals (refine bodyPost_ret (v := .bool true) (by simp [results, Try.results4, go_sem]) rfl ⟨rfl, bw4.trans (bk.mono bw4.size)⟩)
    · have hz1 : (((tokR s).2.2 : Int) == 0) = false := by simp [hf]
      have hz2 : (((tokR s).2.2 : Int) != 0) = true := by simp [hf]
      rw [if_neg hf] at hil
      clear hf
      go_enter Try.func4, Try.ntmps4
      go_wp2_with (first
        | (go_at_call 12; (with_reducible refine (HRef.out _ (by (repeat (first | (with_reducible exact Below.refl _ _) | (with_reducible assumption) | (with_reducible refine Below.setCell ?_ (by first | omega | (simp <;> omega)) _) | (with_reducible refine Below.alloc ?_ (by first | omega | (simp <;> omega)) _) | (with_reducible refine Below.drew ?_) | (with_reducible refine below_drewN ?_ _) | (with_reducible refine Below.trans ?_ (Below.mono (by with_reducible assumption) (by first | omega | (simp <;> omega)))))))).mono ?_); rintro e w2 ⟨⟨v2, rfl, ho2⟩, b2⟩; have z2 := Below.size b2; obtain ⟨Ap, cp, rfl, hcp, ht2, hob2⟩ := own_trd ho2; have r3 := Row.below (row_new rfl) b2 (by simp); have n3 := r3.lt)
        | (go_at_call 16; (with_reducible refine (HScan.out _ (by (repeat (first | (with_reducible exact Below.refl _ _) | (with_reducible assumption) | (with_reducible refine Below.setCell ?_ (by first | omega | (simp <;> omega)) _) | (with_reducible refine Below.alloc ?_ (by first | omega | (simp <;> omega)) _) | (with_reducible refine Below.drew ?_) | (with_reducible refine below_drewN ?_ _) | (with_reducible refine Below.trans ?_ (Below.mono (by with_reducible assumption) (by first | omega | (simp <;> omega)))))))).mono ?_); rintro e w3 ⟨A2, c2, rfl, hc2, rB, hbt, b3⟩; have z3 := Below.size b3; have r5 : Row w3 w2.heap.size 24 #[.slice Ap (tokR s).1.length cp] := Row.below (((row_new rfl).alloc _).alloc _) b3 (by simp; omega); have r6 : Row w3 (w2.heap.size + 1) 3 #[.int .i64 ((tokR s).2.1 : Int)] := Row.below ((row_new (by simp)).alloc _) b3 (by simp); have r7 : Row w3 (w2.heap.size + 1 + 1) 3 #[.int .i64 ((tokR s).2.2 : Int)] := Row.below (row_new (by simp)) b3 (by simp)))
      have b23 : Below w2.heap.size w2 w3 := (((Below.refl _ w2).alloc (Nat.le_refl _) _ |>.alloc (by simp) _).alloc (by simp; omega) _).trans (b3.mono (by simp; omega))
      have bw2 : Below w.heap.size w w2 := ((Below.refl _ w).alloc (Nat.le_refl _) _).trans (b2.mono (by simp))
      have bw3 := bw2.trans (b23.mono bw2.size)
      have rB' : Row w3 (w2.heap.size + 1 + 1 + 1) 22 #[.slice A2 s.size c2] := by simpa using rB
      have hB3 : Base (tokR s).1 (tokR s).2.1 (tokR s).2.2 stop w.heap.size w2.heap.size (w2.heap.size + 1) (w2.heap.size + 1 + 1) (w2.heap.size + 1 + 1 + 1) Ap cp s A2 c2 w3 :=
        ⟨by have := (r3.below b23 n3).cell 0; simpa using this, by have := r5.cell 0; simpa using this, by have := r6.cell 0; simpa using this, by have := r7.cell 0; simpa using this, by have := rB'.cell 0; simpa using this, (ht2.below b23).more b23.size, hbt, hm.below bw3 h0, hcp⟩
      clear r3 r5 r6 r7 rB rB' hbt ht2 ho2 hob2 b3 HRef HScan
      go_loopw [9] (fun vi wr => ∃ k : Nat, k ≤ 2 ∧ vi = .int .i64 (k : Int) ∧ Below w3.heap.size w3 wr) (fun i _ => 2 - (intOf i).toNat)
      case atStart => exact ⟨0, by omega, rfl, Below.refl _ _⟩
      case round =>
        obtain ⟨k, hk, rfl, hb⟩ := hrel
        have hz := hb.size
        have hBr := hB3.later hb
        have bwr := bw3.trans (hb.mono bw3.size)
        by_cases hlt : k < 2
        · have hlt' : ((k : Int) < 2) = True := by simp; omega
          go_wp2_with (go_at_call 27; (with_reducible refine (turn_any stop _ _ _ _ _ _ _ s A2 c2 h15 hc2 hP wr hBr).mono ?_); rintro e w4 ⟨⟨v4, rfl⟩, hT⟩; have hB4 := hBr.later hT.2.2; have d10 := hT.1.cell 0; have d11 := hT.2.1.cell 0; have d5 := hB4.c5; have d7 := hB4.c7; rw [hil] at d10; simp at d10 d11)
          exact ⟨⟨k + 1, by omega, by go_num, hb.trans (hT.2.2.mono hz)⟩, by simp [intOf]; omega⟩
        · have hlt' : ((k : Int) < 2) = False := by simp; omega
          go_wp2_with (first
            | (go_at_call 27; (with_reducible refine (stop_any stop _ _ _ _ _ _ _ s A2 c2 h15 hc2 hP hI wr hBr).mono ?_); rintro e w4 ⟨⟨v4, rfl⟩, hT, b4⟩; have hB4 := hBr.later b4; have d10 := hT.cell 0; have d3 := hB4.c3; have d5 := hB4.c5; have d7 := hB4.c7; rw [hil] at d10; simp at d10; have z4 := b4.size; have bw4 := bwr.trans (b4.mono bwr.size))
            | (go_at_call 15; (with_reducible refine (HK.out _ bw4).mono ?_); rintro e wk ⟨rfl, bk⟩; have zk := Below.size bk))
          all_goals (refine bodyPost_ret (v := .bool true) (by simp [results, Try.results4, go_sem]) rfl ⟨rfl, bw4.trans (bk.mono bw4.size)⟩)
  · have h15' : ((s.size : Int) > 1500) = True := by simp; omega
    go_enter Try.func4, Try.ntmps4
    go_wp2
    exact bodyPost_ret (v := .bool true) (by simp [results, Try.results4, go_sem]) rfl ⟨rfl, (Below.refl _ _).alloc (Nat.le_refl _) _⟩
end Go.Proofs.Ytdlppdoankeilaa
