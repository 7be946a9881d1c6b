/- The walk of chapter 1's reference Place. -/
import Derived.Test.YtcphkdooemengaaDoorW3
import Derived.Test.YtcphkdooemengaaDoorW5
namespace Go.Proofs.YtcphkdooemengaaDoor
set_option linter.unusedVariables false
set_option linter.unusedSimpArgs false
set_option linter.unnecessarySimpa false
open Go.RowKit
attribute [local go_sem] cell_alloc_add cell_set_add lt_more

theorem Place_any (s : ByteArray) (A : Option Addr) (c : Nat) (hs : s.size ≤ 140737488351232) (hcap : s.size ≤ c) (w : World) (h : Rd w w.heap.size A s.size (byteC s)) (at_ : Int) :
    Calls Tryd.prog 13 #[.slice A s.size c, .int .i64 at_] w fun e w' => e = .returned (.tuple #[.int .i64 ((lnF s (clampA s at_)).1 : Int), .int .i64 (colS s (lnF s (clampA s at_)).2 (clampA s at_) : Int)]) ∧ Below w.heap.size w w' := callsIn_wide.1 (Place_in s A c hs hcap w h at_)

theorem Decode_b (s : ByteArray) (A : Option Addr) (c : Nat) (i : Int) (hs : s.size ≤ 140737488351232) (hcap : s.size ≤ c) (w : World) {B : Nat} (h : Rd w B A s.size (byteC s)) :
    Calls Tryd.prog 33 #[.slice A s.size c, .int .i64 i] w fun e w' => e = .returned (.tuple #[.int .i32 (decR s i), .int .i64 (decN s i), .bool (decG s i)]) ∧ w' = w := Decode_any s A c i hs hcap w h
theorem rDecode_b (s : ByteArray) (A : Option Addr) (c : Nat) (i : Int) (hs : s.size ≤ 140737488351232) (hcap : s.size ≤ c) (w : World) {B : Nat} (hB : B ≤ w.heap.size) (h : Rd w B A s.size (byteC s)) :
    Calls Tryd.prog 43 #[.slice A s.size c, .int .i64 i] w fun e w' => e = .returned (.agg #[.int .i64 i, .int .i32 (decR s i), .int .i64 (decN s i), .bool (decG s i)]) ∧ Below w.heap.size w w' := rDecode_any s A c i hs hcap w hB h
theorem rDecode_in (s : ByteArray) (A : Option Addr) (c : Nat) (i : Nat) (hi : i < s.size) (hs : s.size ≤ 140737488351232) (hcap : s.size ≤ c) (w : World) {B : Nat} (hB : B ≤ w.heap.size) (h : Rd w B A s.size (byteC s)) :
    Calls Tryd.prog 43 #[.slice A s.size c, .int .i64 i] w fun e w' => e = .returned (.agg #[.int .i64 i, .int .i32 (rn s i : Int), .int .i64 (wd s i : Int), .bool (gd s i)]) ∧ Below w.heap.size w w' := by
  have := rDecode_any s A c i hs hcap w hB h
  rwa [decR_in hi, decN_in hi, decG_in hi] at this

set_option maxRecDepth 100000 in
set_option maxHeartbeats 2000000 in
theorem rPlace_mid (s : ByteArray) (A : Option Addr) (c : Nat) (hs : s.size ≤ 140737488351232) (hcap : s.size ≤ c) (w : World) (h : Rd w w.heap.size A s.size (byteC s)) (at_ : Int) (a : Nat) (ha : a ≤ s.size) (hat : at_ = a) :
    Calls Tryd.prog 22 #[.slice A s.size c, .int .i64 at_] w fun e w' => e = .returned (.tuple #[.int .i64 ((lnF s (a)).1 : Int), .int .i64 (colS s (lnF s (a)).2 (a) : Int)]) ∧ Below w.heap.size w w' := by
  subst hat
  go_enter Tryd.func22, Tryd.ntmps22
  go_wp2
  go_loop [6, 7, 8] (fun l f i => ∃ k : Nat, k ≤ a ∧ i = .int .i64 k ∧ l = .int .i64 ((lnF s k).1 : Int) ∧ f = .int .i64 ((lnF s k).2 : Int)) (fun _ _ i => a - (intOf i).toNat)
  case atStart => exact ⟨0, Nat.zero_le _, rfl, rfl, rfl⟩
  case round =>
    obtain ⟨k, hk, rfl, rfl, rfl⟩ := hrel
    have hbd := lnF_bd s k
    by_cases hlt : k < a
    · obtain ⟨ad, rfl, hblt, hc⟩ := h k (by omega)
      unfold byteC at hc
      by_cases h10 : bt s k = 10
      · try (exfalso; omega)
        all_goals
          have HL := Lib.hid (lnF_hit h10)
          go_wp2
          go_round
          case rel => exact ⟨k + 1, by omega, by go_num, by rw [HL.out]; go_num, by rw [HL.out]; go_num⟩
          case measure => simp [intOf]; omega
      · try (exfalso; omega)
        all_goals
          have HL := Lib.hid (lnF_miss h10)
          have h10' : ((bt s k : Int) == 10) = false := by simp; omega
          go_wp2
          go_round
          case rel => exact ⟨k + 1, by omega, by go_num, by rw [HL.out], by rw [HL.out]⟩
          case measure => simp [intOf]; omega
    · obtain rfl : k = a := by omega
      go_wp2
      go_loopw [7, 9] (fun f cl wr => ∃ i col : Nat, i ≤ s.size ∧ f = .int .i64 i ∧ cl = .int .i64 col ∧ colS s (lnF s k).2 k = col + cnt s i k ∧ col ≤ i + 1 ∧ Below w.heap.size w wr) (fun f _ _ => s.size - (intOf f).toNat)
      case atStart => exact ⟨(lnF s k).2, 1, by omega, rfl, rfl, rfl, by omega, Below.refl _ _⟩
      case round =>
        obtain ⟨i, col, hi, rfl, rfl, hco, hcb, hb⟩ := hrel
        have HC := Lib.hid hco
        clear hco
        have hz := hb.size
        by_cases hik : i < k
        · have hwd := wd_bd (s := s) (i := i) (by omega)
          have HS := Lib.hid (cnt_step (s := s) (i := i) (a := k) (by omega))
          by_cases hle : i + wd s i ≤ k
          · try (exfalso; omega)
            all_goals
              go_wp2_with (go_at_call 43; (with_reducible refine (rDecode_in s A c i (by omega) hs hcap wr hz (h.below hb)).mono ?_); rintro e w1 ⟨rfl, hb1⟩; have hz1 := Below.size hb1)
              go_roundw
              case rel => exact ⟨i + wd s i, col + 1, by omega, by go_num, by go_num, by rw [HC.out, HS.out, if_pos hle]; omega, by omega, (by (repeat (first | (with_reducible exact Below.refl _ _) | (with_reducible assumption) | (with_reducible refine Below.setCell ?_ (by first | omega | (simp <;> omega)) _) | (with_reducible refine Below.alloc ?_ (by first | omega | (simp <;> omega)) _) | (with_reducible refine Below.drew ?_) | (with_reducible refine below_drewN ?_ _) | (with_reducible refine Below.trans ?_ (Below.mono (by with_reducible assumption) (by first | omega | (simp <;> omega)))))))⟩
              case measure => simp [intOf]; omega
          · try (exfalso; omega)
            all_goals
              go_wp2_with (go_at_call 43; (with_reducible refine (rDecode_in s A c i (by omega) hs hcap wr hz (h.below hb)).mono ?_); rintro e w1 ⟨rfl, hb1⟩; have hz1 := Below.size hb1)
              go_roundw
              case rel => exact ⟨i + wd s i, col, by omega, by go_num, by go_num, by rw [HC.out, HS.out, if_neg hle]; omega, by omega, (by (repeat (first | (with_reducible exact Below.refl _ _) | (with_reducible assumption) | (with_reducible refine Below.setCell ?_ (by first | omega | (simp <;> omega)) _) | (with_reducible refine Below.alloc ?_ (by first | omega | (simp <;> omega)) _) | (with_reducible refine Below.drew ?_) | (with_reducible refine below_drewN ?_ _) | (with_reducible refine Below.trans ?_ (Below.mono (by with_reducible assumption) (by first | omega | (simp <;> omega)))))))⟩
              case measure => simp [intOf]; omega
        · have h0 := cnt_zero (s := s) (i := i) (a := k) (by omega)
          have HZ := Lib.hid h0
          clear h0
          go_wp2
          go_ret2
          exact ⟨ret_ints rfl (by rw [HC.out, HZ.out]; omega), hb⟩

set_option maxRecDepth 100000 in
set_option maxHeartbeats 2000000 in
theorem rPlace_neg (s : ByteArray) (A : Option Addr) (c : Nat) (hs : s.size ≤ 140737488351232) (hcap : s.size ≤ c) (w : World) (h : Rd w w.heap.size A s.size (byteC s)) (at_ : Int) (hat : at_ < 0) :
    Calls Tryd.prog 22 #[.slice A s.size c, .int .i64 at_] w fun e w' => e = .returned (.tuple #[.int .i64 ((lnF s (0)).1 : Int), .int .i64 (colS s (lnF s (0)).2 (0) : Int)]) ∧ Below w.heap.size w w' := by
  go_enter Tryd.func22, Tryd.ntmps22
  go_wp2
  go_loop [6, 7, 8] (fun l f i => ∃ k : Nat, k ≤ 0 ∧ i = .int .i64 k ∧ l = .int .i64 ((lnF s k).1 : Int) ∧ f = .int .i64 ((lnF s k).2 : Int)) (fun _ _ i => 0 - (intOf i).toNat)
  case atStart => exact ⟨0, Nat.zero_le _, rfl, rfl, rfl⟩
  case round =>
    obtain ⟨k, hk, rfl, rfl, rfl⟩ := hrel
    have hbd := lnF_bd s k
    by_cases hlt : k < 0
    · obtain ⟨ad, rfl, hblt, hc⟩ := h k (by omega)
      unfold byteC at hc
      by_cases h10 : bt s k = 10
      · try (exfalso; omega)
        all_goals
          have HL := Lib.hid (lnF_hit h10)
          go_wp2
          go_round
          case rel => exact ⟨k + 1, by omega, by go_num, by rw [HL.out]; go_num, by rw [HL.out]; go_num⟩
          case measure => simp [intOf]; omega
      · try (exfalso; omega)
        all_goals
          have HL := Lib.hid (lnF_miss h10)
          have h10' : ((bt s k : Int) == 10) = false := by simp; omega
          go_wp2
          go_round
          case rel => exact ⟨k + 1, by omega, by go_num, by rw [HL.out], by rw [HL.out]⟩
          case measure => simp [intOf]; omega
    · obtain rfl : k = 0 := by omega
      go_wp2
      go_loopw [7, 9] (fun f cl wr => ∃ i col : Nat, i ≤ s.size ∧ f = .int .i64 i ∧ cl = .int .i64 col ∧ colS s (lnF s (0)).2 (0) = col + cnt s i (0) ∧ col ≤ i + 1 ∧ Below w.heap.size w wr) (fun f _ _ => s.size - (intOf f).toNat)
      case atStart => exact ⟨(lnF s (0)).2, 1, by omega, rfl, rfl, rfl, by omega, Below.refl _ _⟩
      case round =>
        obtain ⟨i, col, hi, rfl, rfl, hco, hcb, hb⟩ := hrel
        have HC := Lib.hid hco
        clear hco
        have hz := hb.size
        by_cases hik : i < 0
        · have hwd := wd_bd (s := s) (i := i) (by omega)
          have HS := Lib.hid (cnt_step (s := s) (i := i) (a := 0) (by omega))
          by_cases hle : i + wd s i ≤ 0
          · try (exfalso; omega)
            all_goals
              go_wp2_with (go_at_call 43; (with_reducible refine (rDecode_in s A c i (by omega) hs hcap wr hz (h.below hb)).mono ?_); rintro e w1 ⟨rfl, hb1⟩; have hz1 := Below.size hb1)
              go_roundw
              case rel => exact ⟨i + wd s i, col + 1, by omega, by go_num, by go_num, by rw [HC.out, HS.out, if_pos hle]; omega, by omega, (by (repeat (first | (with_reducible exact Below.refl _ _) | (with_reducible assumption) | (with_reducible refine Below.setCell ?_ (by first | omega | (simp <;> omega)) _) | (with_reducible refine Below.alloc ?_ (by first | omega | (simp <;> omega)) _) | (with_reducible refine Below.drew ?_) | (with_reducible refine below_drewN ?_ _) | (with_reducible refine Below.trans ?_ (Below.mono (by with_reducible assumption) (by first | omega | (simp <;> omega)))))))⟩
              case measure => simp [intOf]; omega
          · try (exfalso; omega)
            all_goals
              go_wp2_with (go_at_call 43; (with_reducible refine (rDecode_in s A c i (by omega) hs hcap wr hz (h.below hb)).mono ?_); rintro e w1 ⟨rfl, hb1⟩; have hz1 := Below.size hb1)
              go_roundw
              case rel => exact ⟨i + wd s i, col, by omega, by go_num, by go_num, by rw [HC.out, HS.out, if_neg hle]; omega, by omega, (by (repeat (first | (with_reducible exact Below.refl _ _) | (with_reducible assumption) | (with_reducible refine Below.setCell ?_ (by first | omega | (simp <;> omega)) _) | (with_reducible refine Below.alloc ?_ (by first | omega | (simp <;> omega)) _) | (with_reducible refine Below.drew ?_) | (with_reducible refine below_drewN ?_ _) | (with_reducible refine Below.trans ?_ (Below.mono (by with_reducible assumption) (by first | omega | (simp <;> omega)))))))⟩
              case measure => simp [intOf]; omega
        · have h0 := cnt_zero (s := s) (i := i) (a := 0) (by omega)
          have HZ := Lib.hid h0
          clear h0
          go_wp2
          go_ret2
          exact ⟨ret_ints rfl (by rw [HC.out, HZ.out]; omega), hb⟩

set_option maxRecDepth 100000 in
set_option maxHeartbeats 2000000 in
theorem rPlace_big (s : ByteArray) (A : Option Addr) (c : Nat) (hs : s.size ≤ 140737488351232) (hcap : s.size ≤ c) (w : World) (h : Rd w w.heap.size A s.size (byteC s)) (at_ : Int) (hat : (s.size : Int) < at_) :
    Calls Tryd.prog 22 #[.slice A s.size c, .int .i64 at_] w fun e w' => e = .returned (.tuple #[.int .i64 ((lnF s (s.size)).1 : Int), .int .i64 (colS s (lnF s (s.size)).2 (s.size) : Int)]) ∧ Below w.heap.size w w' := by
  go_enter Tryd.func22, Tryd.ntmps22
  go_wp2
  go_loop [6, 7, 8] (fun l f i => ∃ k : Nat, k ≤ s.size ∧ i = .int .i64 k ∧ l = .int .i64 ((lnF s k).1 : Int) ∧ f = .int .i64 ((lnF s k).2 : Int)) (fun _ _ i => s.size - (intOf i).toNat)
  case atStart => exact ⟨0, Nat.zero_le _, rfl, rfl, rfl⟩
  case round =>
    obtain ⟨k, hk, rfl, rfl, rfl⟩ := hrel
    have hbd := lnF_bd s k
    by_cases hlt : k < s.size
    · obtain ⟨ad, rfl, hblt, hc⟩ := h k (by omega)
      unfold byteC at hc
      by_cases h10 : bt s k = 10
      · try (exfalso; omega)
        all_goals
          have HL := Lib.hid (lnF_hit h10)
          go_wp2
          go_round
          case rel => exact ⟨k + 1, by omega, by go_num, by rw [HL.out]; go_num, by rw [HL.out]; go_num⟩
          case measure => simp [intOf]; omega
      · try (exfalso; omega)
        all_goals
          have HL := Lib.hid (lnF_miss h10)
          have h10' : ((bt s k : Int) == 10) = false := by simp; omega
          go_wp2
          go_round
          case rel => exact ⟨k + 1, by omega, by go_num, by rw [HL.out], by rw [HL.out]⟩
          case measure => simp [intOf]; omega
    · obtain rfl : k = s.size := by omega
      go_wp2
      go_loopw [7, 9] (fun f cl wr => ∃ i col : Nat, i ≤ s.size ∧ f = .int .i64 i ∧ cl = .int .i64 col ∧ colS s (lnF s (s.size)).2 (s.size) = col + cnt s i (s.size) ∧ col ≤ i + 1 ∧ Below w.heap.size w wr) (fun f _ _ => s.size - (intOf f).toNat)
      case atStart => exact ⟨(lnF s (s.size)).2, 1, by omega, rfl, rfl, rfl, by omega, Below.refl _ _⟩
      case round =>
        obtain ⟨i, col, hi, rfl, rfl, hco, hcb, hb⟩ := hrel
        have HC := Lib.hid hco
        clear hco
        have hz := hb.size
        by_cases hik : i < s.size
        · have hwd := wd_bd (s := s) (i := i) (by omega)
          have HS := Lib.hid (cnt_step (s := s) (i := i) (a := s.size) (by omega))
          by_cases hle : i + wd s i ≤ s.size
          · try (exfalso; omega)
            all_goals
              go_wp2_with (go_at_call 43; (with_reducible refine (rDecode_in s A c i (by omega) hs hcap wr hz (h.below hb)).mono ?_); rintro e w1 ⟨rfl, hb1⟩; have hz1 := Below.size hb1)
              go_roundw
              case rel => exact ⟨i + wd s i, col + 1, by omega, by go_num, by go_num, by rw [HC.out, HS.out, if_pos hle]; omega, by omega, (by (repeat (first | (with_reducible exact Below.refl _ _) | (with_reducible assumption) | (with_reducible refine Below.setCell ?_ (by first | omega | (simp <;> omega)) _) | (with_reducible refine Below.alloc ?_ (by first | omega | (simp <;> omega)) _) | (with_reducible refine Below.drew ?_) | (with_reducible refine below_drewN ?_ _) | (with_reducible refine Below.trans ?_ (Below.mono (by with_reducible assumption) (by first | omega | (simp <;> omega)))))))⟩
              case measure => simp [intOf]; omega
          · try (exfalso; omega)
            all_goals
              go_wp2_with (go_at_call 43; (with_reducible refine (rDecode_in s A c i (by omega) hs hcap wr hz (h.below hb)).mono ?_); rintro e w1 ⟨rfl, hb1⟩; have hz1 := Below.size hb1)
              go_roundw
              case rel => exact ⟨i + wd s i, col, by omega, by go_num, by go_num, by rw [HC.out, HS.out, if_neg hle]; omega, by omega, (by (repeat (first | (with_reducible exact Below.refl _ _) | (with_reducible assumption) | (with_reducible refine Below.setCell ?_ (by first | omega | (simp <;> omega)) _) | (with_reducible refine Below.alloc ?_ (by first | omega | (simp <;> omega)) _) | (with_reducible refine Below.drew ?_) | (with_reducible refine below_drewN ?_ _) | (with_reducible refine Below.trans ?_ (Below.mono (by with_reducible assumption) (by first | omega | (simp <;> omega)))))))⟩
              case measure => simp [intOf]; omega
        · have h0 := cnt_zero (s := s) (i := i) (a := s.size) (by omega)
          have HZ := Lib.hid h0
          clear h0
          go_wp2
          go_ret2
          exact ⟨ret_ints rfl (by rw [HC.out, HZ.out]; omega), hb⟩

theorem rPlace_any (s : ByteArray) (A : Option Addr) (c : Nat) (hs : s.size ≤ 140737488351232) (hcap : s.size ≤ c) (w : World) (h : Rd w w.heap.size A s.size (byteC s)) (at_ : Int) :
    Calls Tryd.prog 22 #[.slice A s.size c, .int .i64 at_] w fun e w' => e = .returned (.tuple #[.int .i64 ((lnF s (clampA s at_)).1 : Int), .int .i64 (colS s (lnF s (clampA s at_)).2 (clampA s at_) : Int)]) ∧ Below w.heap.size w w' := by
  by_cases h1 : at_ < 0
  · rw [show clampA s at_ = 0 by unfold clampA; omega]; exact rPlace_neg s A c hs hcap w h at_ h1
  · by_cases h2 : (s.size : Int) < at_
    · rw [show clampA s at_ = s.size by unfold clampA; omega]; exact rPlace_big s A c hs hcap w h at_ h2
    · exact rPlace_mid s A c hs hcap w h at_ (clampA s at_) (clampA_le s at_) (by unfold clampA; omega)
end Go.Proofs.YtcphkdooemengaaDoor
