/- Some texts of this claim, put together. -/
import Derived.Test.YtcphkdooemengaaGreatDoorHBZ10
import Derived.Test.YtcphkdooemengaaGreatDoorHW5
import Derived.Shelf.Bytes.SlCountOne
import Derived.Sort.CutIn
import Derived.Stop.RegionWithIn
namespace Go.Proofs.YtcphkdooemengaaGreatDoor
section
set_option linter.unusedVariables false
set_option linter.unusedSimpArgs false
set_option linter.unnecessarySimpa false
open Go.RowKit
attribute [local go_sem] cell_alloc_add cell_set_add lt_more Oper.semAt_some
theorem bytesOf_list (l : List UInt8) : Lib.bytesOf (l.map fun b => (b.toNat : Int)) = l := by
  simp [Lib.bytesOf, Function.comp_def]
theorem count_lines (s : ByteArray) : (Lib.countByte s.data.toList 10 : Int) = ((linesF s 0).length : Int) - 1 := by
  have := lines_count s _ 0 (Nat.le_refl _) (Nat.zero_le _)
  rw [List.drop_zero] at this
  unfold Lib.countByte
  omega
set_option maxRecDepth 100000 in
set_option maxHeartbeats 4000000 in
theorem bCount (s : ByteArray) (A : Option Addr) (n c : Nat) (hn : n = s.size) (w : World) {B : Nat} (h : Rd w B A n (byteC s)) (b2 d : Nat) (hc2 : w.cell? ⟨b2, 0, none⟩ = some (.int .u8 10)) :
    Calls Tryz.prog 64 #[.slice A n c, .slice (some ⟨b2, 0, none⟩) 1 d] w fun e w' => e = .returned (.int .i64 (((linesF s 0).length : Int) - 1)) ∧ w' = w := by
  have hl := Lib.hid (count_lines s)
  have hz := Lib.hid (lines_count s _ 0 (Nat.le_refl _) (Nat.zero_le _))
  have hnn := Lib.hid hn
  rcases A with _ | ad
  · have h0 : n = 0 := by
      rcases Nat.eq_zero_or_pos n with h0 | h0
      · exact h0
      · obtain ⟨ad, e', _⟩ := h.addr h0; cases e'
    subst h0
    clear hn h
    go_enter Tryz.func64, Tryz.ntmps64
    go_wp2
    rw [run_callFunc_extern Tryz.func94 (by kernel_rfl) (by kernel_rfl) (by kernel_rfl) (e := Extern.BytealgCount.count) (by kernel_rfl), Lib.run_countNil w 0 c 10]
    simp only [Result.andThen]
    rw [Oper.upon_value]
    go_wp2
    go_ret
    refine ⟨?_, rfl⟩
    have h1 : s.data.toList = [] := List.eq_nil_of_length_eq_zero (by have := hnn.out; rw [Array.length_toList]; exact this.symm)
    have h2 := hz.out
    rw [List.drop_zero, h1] at h2
    rw [h2]; rfl
  · have hc : ∀ i, i < n → w.cell? (ad.add i) = some (.int .u8 ((s.data.toList.map fun b => (b.toNat : Int)).getD i 0)) := fun i hi => by
      have hi' : i < s.size := by have := hnn.out; omega
      rw [h.at_ rfl hi]
      unfold byteC
      rw [data_at hi', List.getD_eq_getElem?_getD, List.getElem?_map, List.getElem?_eq_getElem (by simpa using hi')]
      rfl
    have hx : (s.data.toList.map fun b => (b.toNat : Int)).length = n := by have := hnn.out; simp; exact this.symm
    have hr := Lib.run_countAt (P := Tryz.prog) w ad n c _ hx hc 10
    have HR := Lib.hid hr
    clear hr hc hx h hn
    go_enter Tryz.func64, Tryz.ntmps64
    go_wp2
    rw [run_callFunc_extern Tryz.func94 (by kernel_rfl) (by kernel_rfl) (by kernel_rfl) (e := Extern.BytealgCount.count) (by kernel_rfl), HR.out]
    simp only [Result.andThen]
    rw [Oper.upon_value]
    go_wp2
    go_ret
    refine ⟨ret_int ?_, rfl⟩
    rw [bytesOf_list]
    exact hl.out
theorem ten_cell (W : World) : ((W.alloc (.cells #[.int .u8 10] 5)).drew).cell? ⟨W.heap.size, 0, none⟩ = some (.int .u8 10) := by
  have h : Row (W.alloc (.cells #[.int .u8 10] 5)).drew W.heap.size 5 #[.int .u8 10] := row_new rfl
  rw [h.cell 0]; rfl
/-- What a line's loop has behind it. -/
structure LnI (nb n : Nat) (w : World) (pre : List (Nat × Nat)) (W : World) : Prop where
  r0 : Row W nb 3 #[.int .i64 ((n : Int) - pre.length)]
  r1 : Row W (nb + 1) 9 #[.string ⟨#[]⟩]
  r2 : Row W (nb + 1 + 1) 27 #[.int .i64 0]
  lt : pre.length < n
  b : Below nb w W
structure LnX (s : ByteArray) (nb n : Nat) (w : World) (pre : List (Nat × Nat)) (W : World) : Prop where
  e : ∃ p x, pre = p ++ [x] ∧ pre.length = n ∧ Row W (nb + 1) 9 #[.string (s.extract x.1 x.2)] ∧ Row W (nb + 1 + 1) 27 #[.int .i64 0]
  b : Below nb w W
theorem LnI.own {nb n B : Nat} {w : World} (hn : nb ≤ w.heap.size) (hB : nb ≤ B) : OwnFrom B (LnI nb n w) := fun _ W W' row h hg hr =>
  ⟨row_own h.r0 hg (fun r e => (hr r e).2), row_own h.r1 hg (fun r e => (hr r e).2), row_own h.r2 hg (fun r e => (hr r e).2), h.lt, ownFrom_below (β := Unit) hn hB () W W' row h.b hg hr⟩
theorem LnX.own {s : ByteArray} {nb n B : Nat} {w : World} (hn : nb ≤ w.heap.size) (hB : nb ≤ B) : OwnFrom B (LnX s nb n w) := fun _ W W' row h hg hr =>
  ⟨by obtain ⟨p, x, e1, e2, a, b⟩ := h.e; exact ⟨p, x, e1, e2, row_own a hg (fun r e => (hr r e).2), row_own b hg (fun r e => (hr r e).2)⟩, ownFrom_below (β := Unit) hn hB () W W' row h.b hg hr⟩
set_option maxRecDepth 100000 in
set_option maxHeartbeats 4000000 in
theorem Line_in (s : ByteArray) (A : Option Addr) (c : Nat) (hs : s.size ≤ 1099511627776) (w : World) (h : Rd w w.heap.size A s.size (byteC s)) (n : Nat) (h1 : 1 ≤ n) (h2 : n ≤ (linesF s 0).length) :
    CallsIn Fence.wide 10 Tryz.prog 43 #[.slice A s.size c, .int .i64 (n : Int)] w fun e w' => e = .returned (.tuple #[.string (lnT s (n - 1)), .int .i64 0]) ∧ Below w.heap.size w w' := by
  have hll := lines_len s
  have HC := Lib.hid (fun W (hb : Below w.heap.size w W) b2 d => bCount s A s.size c rfl W (h.below hb) b2 d)
  have HS := Lib.hid (fun W (hb : Below w.heap.size w W) => Lines_any s A c W (h.below hb))
  have HL := Lib.hid h2
  obtain ⟨L, hL⟩ : ∃ L, L = (linesF s 0).length := ⟨_, rfl⟩
  rw [← hL] at h2 hll
  rw [← hL] at HC
  have hLL := Lib.hid hL
  clear h hL
  refine callsIn_of_wp_marks Tryz.func43 rfl trivial ?_ rfl
  simp only [Tryz.ntmps43, List.size_toArray, List.length_cons, List.length_nil, Nat.reduceAdd, Nat.reduceSub, Array.replicate_succ, Array.replicate_zero, List.push_toArray, List.append_toArray, List.nil_append, List.cons_append]
  obtain ⟨Wa, hWa⟩ : ∃ Wa : World, Wa = ((w.alloc (.cells #[.int .i64 (n : Int)] 3)).alloc (.cells #[.string ⟨#[]⟩] 9)).alloc (.cells #[.int .i64 0] 27) := ⟨_, rfl⟩
  have q0 : Row Wa w.heap.size 3 #[.int .i64 (n : Int)] := by rw [hWa]; exact ((row_new rfl).alloc _).alloc _
  have q1 : Row Wa (w.heap.size + 1) 9 #[.string ⟨#[]⟩] := by rw [hWa]; exact (row_new (by simp)).alloc _
  have q2 : Row Wa (w.heap.size + 1 + 1) 27 #[.int .i64 0] := by rw [hWa]; exact row_new (by simp)
  have qb : Below w.heap.size w Wa := by rw [hWa]; exact (by (exact bl))
  have qz : w.heap.size + 1 + 1 < Wa.heap.size := q2.lt
  gi_upto_region 1 with fail
  rw [← hWa]
  clear hWa
  have c0 := q0.cell 0
  have i1 : ((n : Int) < 1) = False := by simp; omega
  have i2 : ((L : Int) < n) = False := by simp; omega
  have i3 : IntKind.i64.wrap (L : Int) = (L : Int) := IntWalk.i64_in _ (by omega)
  simp at c0
  have l0 := q0.lt
  have l1 := q1.lt
  gi_cut [17] from 8 (fun v17 wr => v17 = .bool false ∧ wr = (Wa.alloc (.cells #[.int .u8 10] 5)).drew)
  case first =>
    first | gi_region_with (refine ⟨trivial, ?_⟩; gi_at_call 64; (with_reducible refine (callsIn_wide.2 (HC.out _ (by (exact bl)) _ _ (ten_cell _))).mono ?_); rintro e w1 ⟨rfl, rfl⟩) | fail
    all_goals gi_wp2
    all_goals gi_meet
    all_goals exact ⟨rfl, rfl⟩
  case rest =>
    obtain ⟨rfl, rfl⟩ := hcut
    gi_wp2_with (refine ⟨trivial, ?_⟩; gi_at_call 65; (with_reducible refine (callsIn_wide.2 (HS.out _ (by (exact bl)))).mono ?_); rintro e w1 ⟨rfl, rfl⟩)
    obtain ⟨W0, hW0⟩ : ∃ W0 : World, W0 = ((Wa.alloc (.cells #[.int .u8 10] 5)).alloc (.cells #[.string s] 9)).drew := ⟨_, rfl⟩
    rw [← hW0]
    have g3 : W0.cell? ⟨Wa.heap.size + 1, 0, none⟩ = some (.string s) := by rw [hW0]; exact (row_new (by simp) : Row _ (Wa.heap.size + 1) 9 #[.string s]).drew.cell 0
    have hi : LnI w.heap.size n w [] W0 := by
      rw [hW0]
      exact ⟨((q0.alloc _).alloc _).drew, ((q1.alloc _).alloc _).drew, ((q2.alloc _).alloc _).drew, by simp; omega, (((qb.alloc (by omega) _).alloc (by simp; omega) _).drew)⟩
    have hz0 : Wa.heap.size + 1 < W0.heap.size := by rw [hW0]; simp
    clear hW0 HS HC c0 q0 q1 q2
    apply wpIn_rangeFunc_ownF (F := Fence.wide) (n := 10) rfl (by decide) (gf := 96) (lb := #[.pointer (some ⟨Wa.heap.size + 1, 0, none⟩)]) rfl trivial (enters_of Tryz.func96 (by kernel_rfl) rfl)
      (Lines_stops (10 - 1) (by decide) (Wa.heap.size + 1) s (by omega) W0 g3) keepC_t (keepC_b (w := W0)) (Below.refl _ _) (fun _ => rfl)
      (fun pre W => LnI w.heap.size n w pre W) (fun c pre W => c = .ret ∧ LnX s w.heap.size n w pre W)
      (LnI.own (Nat.le_refl _) (by omega)) (fun c q W W' row h hg hr => ⟨h.1, LnX.own (Nat.le_refl _) (by omega) q W W' row h.2 hg hr⟩) hi _
    case hassign =>
      intro l x W K hK
      dsimp only [lnE]
      gi_wp2
      exact hK
    case hdone =>
      rintro D xs W hD rfl hI hK
      have := hI.lt
      have := hLL.out
      omega
    case hstop =>
      rintro D c pre W hD hpre ⟨rfl, ⟨p, x, rfl, hl, k1, k2⟩, hB⟩ hK
      have hx : lnAt s (n - 1) = x := by
        have := pre_at_last hpre
        have e : p.length = n - 1 := by simp at hl; omega
        rw [e] at this
        exact lnAt_is this
      have HX := Lib.hid (show lnT s (n - 1) = s.extract x.1 x.2 by unfold lnT; rw [hx])
      clear hx hpre
      gi_wp2
      have r1 := row_own k1 (grownBy_putObj' _ D (.deferred none)) (fun r e => by cases e; exact ⟨_, hK, rfl⟩)
      have r2 := row_own k2 (grownBy_putObj' _ D (.deferred none)) (fun r e => by cases e; exact ⟨_, hK, rfl⟩)
      have c1 := r1.cell 0
      have c2 := r2.cell 0
      simp at c1 c2
      refine ⟨by simp, .inl ⟨_, _, rfl, run_takeDeferred hK, ?_⟩⟩
      refine ⟨.tuple #[.string (s.extract x.1 x.2), .int .i64 0], by simp [results, Tryz.f43, go_sem, c1, c2], by rw [HX.out], hB.trans (belowK_b (w := w) (Nat.le_refl _) _ D _ _ (by omega) hK rfl rfl)⟩
    case hbody =>
      rintro l pre x W hI hlen
      have c0 := hI.r0.cell 0
      have c1 := hI.r1.cell 0
      have c2 := hI.r2.cell 0
      have f0 := hI.r0.free 0
      have f1 := hI.r1.free 0
      have f2 := hI.r2.free 0
      have k0 := hI.r0.lt
      have k1 := hI.r1.lt
      have k2 := hI.r2.lt
      have hlt := hI.lt
      have hln : (pre ++ [x]).length = pre.length + 1 := by simp
      simp at c0 c1 c2
      have c3 : (W.setCell ⟨w.heap.size, 0, none⟩ (.int .i64 ((n : Int) - pre.length - 1))).cell? ⟨w.heap.size, 0, none⟩ = some (.int .i64 ((n : Int) - pre.length - 1)) := (row_put1 hI.r0 _).cell 0
      by_cases hl : pre.length + 1 = n
      · have e0 : (n : Int) - pre.length - 1 = 0 := by omega
        rw [e0] at c3
        gi_wp2
        refine ⟨((KeepsOthers.setCell _ _ _).trans (KeepsOthers.setCell _ _ _)).trans (KeepsOthers.setCell _ _ _), rfl, ⟨⟨pre, x, rfl, by rw [hln]; exact hl, ?_, ?_⟩, ?_⟩⟩
        · exact (row_put1 (hI.r1.far (by simp) _) _).far (by simp) _
        · exact row_put1 ((hI.r2.far (by simp; omega) _).far (by simp) _) _
        · exact ((hI.b.setCell (p := ⟨w.heap.size, 0, none⟩) (by simp) _).setCell (p := ⟨w.heap.size + 1, 0, none⟩) (by simp) _).setCell (p := ⟨w.heap.size + 1 + 1, 0, none⟩) (by simp; omega) _
      · have e0 : ((n : Int) - pre.length - 1 == 0) = false := by simp; omega
        gi_wp2
        refine ⟨KeepsOthers.setCell _ _ _, keepC_set (by simp; omega) _, ⟨?_, hI.r1.far (by simp) _, hI.r2.far (by simp; omega) _, by rw [hln]; omega, hI.b.setCell (p := ⟨w.heap.size, 0, none⟩) (by simp) _⟩⟩
        rw [hln, show (n : Int) - ((pre.length + 1 : Nat) : Int) = (n : Int) - pre.length - 1 by omega]
        exact row_put1 hI.r0 _
end
section
set_option linter.unusedVariables false
set_option linter.unusedSimpArgs false
set_option linter.unnecessarySimpa false
open Go.RowKit
attribute [local go_sem] cell_alloc_add cell_set_add lt_more Oper.semAt_some
set_option maxRecDepth 100000 in
set_option maxHeartbeats 4000000 in
theorem Line_off_in (s : ByteArray) (A : Option Addr) (c : Nat) (hs : s.size ≤ 1099511627776) (w : World) (h : Rd w w.heap.size A s.size (byteC s)) (n : Int) (h1 : n < 1 ∨ ((linesF s 0).length : Int) < n) :
    CallsIn Fence.wide 10 Tryz.prog 43 #[.slice A s.size c, .int .i64 n] w fun e w' => e = .returned (.tuple #[.string ⟨#[]⟩, .int .i64 11]) ∧ Below w.heap.size w w' := by
  have hll := lines_len s
  have HC := Lib.hid (fun W (hb : Below w.heap.size w W) b2 d => bCount s A s.size c rfl W (h.below hb) b2 d)
  generalize (linesF s 0).length = L at *
  clear h
  refine callsIn_of_wp_marks Tryz.func43 rfl trivial ?_ rfl
  simp only [Tryz.ntmps43, List.size_toArray, List.length_cons, List.length_nil, Nat.reduceAdd, Nat.reduceSub, Array.replicate_succ, Array.replicate_zero, List.push_toArray, List.append_toArray, List.nil_append, List.cons_append]
  obtain ⟨Wa, hWa⟩ : ∃ Wa : World, Wa = ((w.alloc (.cells #[.int .i64 n] 3)).alloc (.cells #[.string ⟨#[]⟩] 9)).alloc (.cells #[.int .i64 0] 27) := ⟨_, rfl⟩
  have q0 : Row Wa w.heap.size 3 #[.int .i64 n] := by rw [hWa]; exact ((row_new rfl).alloc _).alloc _
  have q1 : Row Wa (w.heap.size + 1) 9 #[.string ⟨#[]⟩] := by rw [hWa]; exact (row_new (by simp)).alloc _
  have q2 : Row Wa (w.heap.size + 1 + 1) 27 #[.int .i64 0] := by rw [hWa]; exact row_new (by simp)
  have qb : Below w.heap.size w Wa := by rw [hWa]; exact (by (exact bl))
  have qz : w.heap.size + 1 + 1 < Wa.heap.size := q2.lt
  gi_upto_region 1 with fail
  rw [← hWa]
  clear hWa
  have c0 := q0.cell 0
  have i3 : IntKind.i64.wrap (L : Int) = (L : Int) := IntWalk.i64_in _ (by omega)
  simp at c0
  have l0 := q0.lt
  have l1 := q1.lt
  gi_cut [17] from 8 (fun v17 wr => v17 = .bool true ∧ ∃ W1, (W1 = Wa ∨ W1 = Wa.alloc (.cells #[.int .u8 10] 5)) ∧ wr = W1.drew)
  case first =>
    by_cases hn : n < 1
    · have i1 : (n < 1) = True := by simp; omega
      first | gi_region_with (refine ⟨trivial, ?_⟩) | fail
      all_goals gi_wp2
      all_goals gi_meet
      all_goals exact ⟨rfl, _, .inl rfl, rfl⟩
    · have i1 : (n < 1) = False := by simp; omega
      have i2 : ((L : Int) < n) = True := by simp; omega
      first | gi_region_with (refine ⟨trivial, ?_⟩; gi_at_call 64; (with_reducible refine (callsIn_wide.2 (HC.out _ (by (exact bl)) _ _ (ten_cell _))).mono ?_); rintro e w1 ⟨rfl, rfl⟩) | fail
      all_goals gi_wp2
      all_goals gi_meet
      all_goals exact ⟨rfl, _, .inr rfl, rfl⟩
  case rest =>
    obtain ⟨rfl, W1, hW1, rfl⟩ := hcut
    have q1 : Row W1 (w.heap.size + 1) 9 #[.string ⟨#[]⟩] := by rcases hW1 with rfl | rfl; exact q1; exact q1.alloc _
    have q2 : Row W1 (w.heap.size + 1 + 1) 27 #[.int .i64 0] := by rcases hW1 with rfl | rfl; exact q2; exact q2.alloc _
    have qb : Below w.heap.size w W1 := by rcases hW1 with rfl | rfl; exact qb; exact qb.alloc (by omega) _
    clear hW1 c0 l0 l1 q0 HC
    have c1 := q1.cell 0
    have c2 := q2.cell 0
    have f1 := q1.free 0
    have f2 := q2.free 0
    have k1 := q1.lt
    have k2 := q2.lt
    simp at c1 c2
    gi_wp2
    have g1 := (((row_put1 q1 (.string ⟨#[]⟩)).far (p := ⟨w.heap.size + 1 + 1, 0, none⟩) (by simp) (.int .i64 11)).drew).cell 0
    have g2 := ((row_put1 (q2.far (p := ⟨w.heap.size + 1, 0, none⟩) (by simp) (.string ⟨#[]⟩)) (.int .i64 11)).drew).cell 0
    simp at g1 g2
    exact ⟨.tuple #[.string ⟨#[]⟩, .int .i64 11], by simp [results, Tryz.f43, go_sem, g1, g2], rfl, ((qb.setCell (p := ⟨w.heap.size + 1, 0, none⟩) (by simp) _).setCell (p := ⟨w.heap.size + 1 + 1, 0, none⟩) (by simp; omega) _).drew⟩
theorem Line_off (s : ByteArray) (A : Option Addr) (c : Nat) (hs : s.size ≤ 1099511627776) (w : World) (h : Rd w w.heap.size A s.size (byteC s)) (n : Int) (h1 : n < 1 ∨ ((linesF s 0).length : Int) < n) :
    Calls Tryz.prog 43 #[.slice A s.size c, .int .i64 n] w fun e w' => e = .returned (.tuple #[.string ⟨#[]⟩, .int .i64 11]) ∧ Below w.heap.size w w' := callsIn_wide.1 (Line_off_in s A c hs w h n h1)
theorem Line_any (s : ByteArray) (A : Option Addr) (c : Nat) (hs : s.size ≤ 1099511627776) (w : World) (h : Rd w w.heap.size A s.size (byteC s)) (n : Nat) (h1 : 1 ≤ n) (h2 : n ≤ (linesF s 0).length) :
    Calls Tryz.prog 43 #[.slice A s.size c, .int .i64 (n : Int)] w fun e w' => e = .returned (.tuple #[.string (lnT s (n - 1)), .int .i64 0]) ∧ Below w.heap.size w w' := callsIn_wide.1 (Line_in s A c hs w h n h1 h2)
end
end Go.Proofs.YtcphkdooemengaaGreatDoor
