/- The walks of chapter 1's Line, of a number that is none. -/
import Derived.Test.YtcphkdooemengaaDoorW14
namespace Go.Proofs.YtcphkdooemengaaDoor
set_option linter.unusedVariables false
set_option linter.unusedSimpArgs false
set_option linter.unnecessarySimpa false
open Go.RowKit
attribute [local go_sem] cell_alloc_add cell_set_add lt_more Oper.semAt_some
set_option maxRecDepth 100000 in
set_option maxHeartbeats 4000000 in
theorem Line_off_in (s : ByteArray) (A : Option Addr) (c : Nat) (hs : s.size ≤ 1099511627776) (w : World) (h : Rd w w.heap.size A s.size (byteC s)) (n : Int) (h1 : n < 1 ∨ ((linesF s 0).length : Int) < n) :
    CallsIn Fence.wide 10 Tryd.prog 14 #[.slice A s.size c, .int .i64 n] w fun e w' => e = .returned (.tuple #[.string ⟨#[]⟩, .int .i64 11]) ∧ Below w.heap.size w w' := by
  have hll := lines_len s
  have HC := Lib.hid (fun W (hb : Below w.heap.size w W) b2 d => bCount s A s.size c rfl W (h.below hb) b2 d)
  generalize (linesF s 0).length = L at *
  clear h
  refine callsIn_of_wp_marks Tryd.func14 rfl trivial ?_ rfl
  simp only [Tryd.ntmps14, List.size_toArray, List.length_cons, List.length_nil, Nat.reduceAdd, Nat.reduceSub, Array.replicate_succ, Array.replicate_zero, List.push_toArray, List.append_toArray, List.nil_append, List.cons_append]
  obtain ⟨Wa, hWa⟩ : ∃ Wa : World, Wa = ((w.alloc (.cells #[.int .i64 n] 3)).alloc (.cells #[.string ⟨#[]⟩] 9)).alloc (.cells #[.int .i64 0] 23) := ⟨_, rfl⟩
  have q0 : Row Wa w.heap.size 3 #[.int .i64 n] := by rw [hWa]; exact ((row_new rfl).alloc _).alloc _
  have q1 : Row Wa (w.heap.size + 1) 9 #[.string ⟨#[]⟩] := by rw [hWa]; exact (row_new (by simp)).alloc _
  have q2 : Row Wa (w.heap.size + 1 + 1) 23 #[.int .i64 0] := by rw [hWa]; exact row_new (by simp)
  have qb : Below w.heap.size w Wa := by rw [hWa]; exact (by (repeat (first | (with_reducible exact Below.refl _ _) | (with_reducible assumption) | (with_reducible refine Below.setCell ?_ (by first | omega | (simp <;> omega)) _) | (with_reducible refine Below.alloc ?_ (by first | omega | (simp <;> omega)) _) | (with_reducible refine Below.drew ?_) | (with_reducible refine below_drewN ?_ _) | (with_reducible refine Below.trans ?_ (Below.mono (by with_reducible assumption) (by first | omega | (simp <;> omega)))))))
  have qz : w.heap.size + 1 + 1 < Wa.heap.size := q2.lt
  gi_upto_region 1 with fail
  rw [← hWa]
  clear hWa
  have c0 := q0.cell 0
  have i3 : IntKind.i64.wrap (L : Int) = (L : Int) := IntWalk.i64_in _ (by omega)
  simp at c0
  have l0 := q0.lt
  have l1 := q1.lt
  gi_cut [17] from 8 (fun v17 wr => v17 = .bool true ∧ ∃ W1, (W1 = Wa ∨ W1 = Wa.alloc (.cells #[.int .u8 10] 5)) ∧ wr = W1.drew)
  case first =>
    by_cases hn : n < 1
    · have i1 : (n < 1) = True := by simp; omega
      first | gi_region_with (refine ⟨trivial, ?_⟩) | fail
      all_goals gi_wp2
      all_goals gi_meet
      all_goals exact ⟨rfl, _, .inl rfl, rfl⟩
    · have i1 : (n < 1) = False := by simp; omega
      have i2 : ((L : Int) < n) = True := by simp; omega
      first | gi_region_with (refine ⟨trivial, ?_⟩; gi_at_call 30; (with_reducible refine (callsIn_wide.2 (HC.out _ (by (repeat (first | (with_reducible exact Below.refl _ _) | (with_reducible assumption) | (with_reducible refine Below.setCell ?_ (by first | omega | (simp <;> omega)) _) | (with_reducible refine Below.alloc ?_ (by first | omega | (simp <;> omega)) _) | (with_reducible refine Below.drew ?_) | (with_reducible refine below_drewN ?_ _) | (with_reducible refine Below.trans ?_ (Below.mono (by with_reducible assumption) (by first | omega | (simp <;> omega))))))) _ _ (ten_cell _))).mono ?_); rintro e w1 ⟨rfl, rfl⟩) | fail
      all_goals gi_wp2
      all_goals gi_meet
      all_goals exact ⟨rfl, _, .inr rfl, rfl⟩
  case rest =>
    obtain ⟨rfl, W1, hW1, rfl⟩ := hcut
    have q1 : Row W1 (w.heap.size + 1) 9 #[.string ⟨#[]⟩] := by rcases hW1 with rfl | rfl; exact q1; exact q1.alloc _
    have q2 : Row W1 (w.heap.size + 1 + 1) 23 #[.int .i64 0] := by rcases hW1 with rfl | rfl; exact q2; exact q2.alloc _
    have qb : Below w.heap.size w W1 := by rcases hW1 with rfl | rfl; exact qb; exact qb.alloc (by omega) _
    clear hW1 c0 l0 l1 q0 HC
    have c1 := q1.cell 0
    have c2 := q2.cell 0
    have f1 := q1.free 0
    have f2 := q2.free 0
    have k1 := q1.lt
    have k2 := q2.lt
    simp at c1 c2
    gi_wp2
    have g1 := (((row_put1 q1 (.string ⟨#[]⟩)).far (p := ⟨w.heap.size + 1 + 1, 0, none⟩) (by simp) (.int .i64 11)).drew).cell 0
    have g2 := ((row_put1 (q2.far (p := ⟨w.heap.size + 1, 0, none⟩) (by simp) (.string ⟨#[]⟩)) (.int .i64 11)).drew).cell 0
    simp at g1 g2
    exact ⟨.tuple #[.string ⟨#[]⟩, .int .i64 11], by simp [results, Tryd.f14, go_sem, g1, g2], rfl, ((qb.setCell (p := ⟨w.heap.size + 1, 0, none⟩) (by simp) _).setCell (p := ⟨w.heap.size + 1 + 1, 0, none⟩) (by simp; omega) _).drew⟩
theorem Line_off (s : ByteArray) (A : Option Addr) (c : Nat) (hs : s.size ≤ 1099511627776) (w : World) (h : Rd w w.heap.size A s.size (byteC s)) (n : Int) (h1 : n < 1 ∨ ((linesF s 0).length : Int) < n) :
    Calls Tryd.prog 14 #[.slice A s.size c, .int .i64 n] w fun e w' => e = .returned (.tuple #[.string ⟨#[]⟩, .int .i64 11]) ∧ Below w.heap.size w w' := callsIn_wide.1 (Line_off_in s A c hs w h n h1)
theorem Line_any (s : ByteArray) (A : Option Addr) (c : Nat) (hs : s.size ≤ 1099511627776) (w : World) (h : Rd w w.heap.size A s.size (byteC s)) (n : Nat) (h1 : 1 ≤ n) (h2 : n ≤ (linesF s 0).length) :
    Calls Tryd.prog 14 #[.slice A s.size c, .int .i64 (n : Int)] w fun e w' => e = .returned (.tuple #[.string (lnT s (n - 1)), .int .i64 0]) ∧ Below w.heap.size w w' := callsIn_wide.1 (Line_in s A c hs w h n h1 h2)
end Go.Proofs.YtcphkdooemengaaDoor
