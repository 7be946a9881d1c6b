/- The walks of chapter 1's wide, fits, Decode (for other chapters). Printed by genpd.py. -/
import Derived.Test.YtpkdhciokiomlaaDoorHRefDec
import Derived.Test.YtpkdhciokiomlaaDoorProg
import Derived.WalkKit
import Derived.WalkSpells
import Derived.WalkLawsBesides
import Derived.Outline
import Derived.LoopTactic
namespace Go.Proofs.YtpkdhciokiomlaaDoor
set_option linter.unusedVariables false
set_option linter.unusedSimpArgs false
set_option linter.unnecessarySimpa false
open Go.RowKit

/-- How many bytes a first byte asks for, and its digits. -/
def wideN (c : Int) : Int := if c < 128 then 1 else if c / 32 = 6 then 2 else if c / 16 = 14 then 3 else if c / 8 = 30 then 4 else 0
def wideR (c : Int) : Int := if c < 128 then c else if c / 32 = 6 then c % 32 else if c / 16 = 14 then c % 16 else if c / 8 = 30 then c % 8 else 0
def fitsN (r n : Int) : Bool := if n = 1 then true else if n = 2 then decide (128 ≤ r) else if n = 3 then decide (2048 ≤ r ∧ (r < 55296 ∨ 57343 < r)) else decide (65536 ≤ r ∧ r ≤ 1114111)

set_option maxRecDepth 100000 in
set_option maxHeartbeats 1000000 in
theorem wide_any (c : Int) (hc0 : 0 ≤ c) (hc : c < 256) (w : World) :
    Calls Tryd.prog 61 #[.int .u8 c] w fun e w' => e = .returned (.tuple #[.int .i64 (wideN c), .int .i32 (wideR c)]) ∧ w' = w := by
  go_enter Tryd.func61, Tryd.ntmps61
  go_wp2
  all_goals go_ret2
  all_goals refine ⟨ret_ints ?_ ?_, rfl⟩
  all_goals (try simp only [beq_iff_eq, beq_eq_false_iff_ne, bne_iff_ne, bne_eq_false_iff_eq, ne_eq, decide_eq_true_eq, decide_eq_false_iff_not, Bool.and_eq_true, Bool.or_eq_true, Bool.not_eq_true, Bool.not_eq_false, Bool.false_eq_true, Decidable.not_not, Bool.not_eq_eq_eq_not, Bool.not_true, Bool.not_false] at *)
  all_goals (simp only [wideN, wideR]; (repeat' split) <;> omega)

set_option maxRecDepth 100000 in
set_option maxHeartbeats 1000000 in
theorem fits_any (r n : Int) (w : World) :
    Calls Tryd.prog 62 #[.int .i32 r, .int .i64 n] w fun e w' => e = .returned (.bool (fitsN r n)) ∧ w' = w := by
  go_enter Tryd.func62, Tryd.ntmps62
  go_wp2
  all_goals go_ret
  all_goals refine ⟨ret_bool (Bool.eq_iff_iff.2 ?_), rfl⟩
  all_goals (try simp only [beq_iff_eq, beq_eq_false_iff_ne, bne_iff_ne, bne_eq_false_iff_eq, ne_eq, decide_eq_true_eq, decide_eq_false_iff_not, Bool.and_eq_true, Bool.or_eq_true, Bool.not_eq_true, Bool.not_eq_false, Bool.false_eq_true, Decidable.not_not, Bool.not_eq_eq_eq_not, Bool.not_true, Bool.not_false] at *)
  all_goals (simp only [fitsN]; (repeat' split) <;> (first | (exfalso; omega) | simp <;> omega))

theorem fitsA1 (r : Int) : fitsN r 1 = true := rfl
theorem fits2 (r : Int) : fitsN r 2 = decide (128 ≤ r) := rfl
theorem fits3 (r : Int) : fitsN r 3 = decide (2048 ≤ r ∧ (r < 55296 ∨ 57343 < r)) := rfl
theorem fits4 (r : Int) : fitsN r 4 = decide (65536 ≤ r ∧ r ≤ 1114111) := rfl

set_option maxRecDepth 100000 in
set_option maxHeartbeats 1000000 in
theorem Decode_out (s : ByteArray) (A : Option Addr) (c : Nat) (i : Int) (hi : i < 0 ∨ (s.size : Int) ≤ i) (w : World) : Calls Tryd.prog 50 #[.slice A s.size c, .int .i64 i] w fun e w' => e = .returned (.tuple #[.int .i32 (decR s i), .int .i64 (decN s i), .bool (decG s i)]) ∧ w' = w := by
  rw [decR_out hi, decN_out hi, decG_out hi]
  go_enter Tryd.func50, Tryd.ntmps50
  rcases hi with hi | hi
  all_goals go_wp2
  all_goals go_ret3
  all_goals exact ⟨rfl, rfl⟩

theorem wide_one (c : Int) (h : c < 128) (h0 : 0 ≤ c ∧ c < 256) (w : World) : Calls Tryd.prog 61 #[.int .u8 c] w fun e w' => e = .returned (.tuple #[.int .i64 1, .int .i32 (c)]) ∧ w' = w :=
  (wide_any c h0.1 h0.2 w).mono fun e w' ⟨he, hw⟩ => ⟨by rw [he]; exact ret_ints (by unfold wideN; (repeat' split) <;> omega) (by unfold wideR; (repeat' split) <;> omega), hw⟩
set_option maxRecDepth 100000 in
set_option maxHeartbeats 1000000 in
theorem Decode_one (s : ByteArray) (A : Option Addr) (c : Nat) (i : Nat) (hi : i < s.size) (hs : s.size ≤ 140737488351232) (hcap : s.size ≤ c) (w : World) {B : Nat} (h : Rd w B A s.size (fun j => .int .u8 (bt s j : Int))) (h0 : bt s i < 128) : Calls Tryd.prog 50 #[.slice A s.size c, .int .i64 (i : Int)] w fun e w' => e = .returned (.tuple #[.int .i32 (decR s (i : Int)), .int .i64 (decN s (i : Int)), .bool (decG s (i : Int))]) ∧ w' = w := by
  obtain ⟨ad, rfl, _, hc0⟩ := h i hi
  have hb0 := bt_lt s i
  by_cases hce : c = i + 1
  all_goals
    try subst hce
    go_enter Tryd.func50, Tryd.ntmps50
    go_wp2_with (go_at_call 61; refine (wide_one _ (by omega) (by omega) _).mono ?_; rintro e w1 ⟨rfl, rfl⟩)
    refine wp_loop_rounds 1 ?_
    rw [rounds_succ]
    go_wp2_with (first
      | (go_at_call 62; refine (fits_any _ _ _).mono ?_; rintro e w1 ⟨rfl, rfl⟩))
    all_goals go_ret3
    all_goals refine ⟨?_, rfl⟩
    all_goals (try simp only [fitsA1, fits2, fits3, fits4] at *)
    all_goals first
      | refine dec_ret hi (dec3_bad ?_ ?_ ?_ ?_) ?_ ?_ rfl
      | refine dec_ret hi (dec3_one ?_) ?_ ?_ rfl
    all_goals (try simp only [beq_iff_eq, beq_eq_false_iff_ne, bne_iff_ne, bne_eq_false_iff_eq, ne_eq, decide_eq_true_eq, decide_eq_false_iff_not, Bool.and_eq_true, Bool.or_eq_true, Bool.not_eq_true, Bool.not_eq_false, Bool.false_eq_true, Decidable.not_not, Bool.not_eq_eq_eq_not, Bool.not_true, Bool.not_false] at *)
    all_goals omega

theorem wide_two (c : Int) (h : c / 32 = 6) (h0 : 0 ≤ c ∧ c < 256) (w : World) : Calls Tryd.prog 61 #[.int .u8 c] w fun e w' => e = .returned (.tuple #[.int .i64 2, .int .i32 (c % 32)]) ∧ w' = w :=
  (wide_any c h0.1 h0.2 w).mono fun e w' ⟨he, hw⟩ => ⟨by rw [he]; exact ret_ints (by unfold wideN; (repeat' split) <;> omega) (by unfold wideR; (repeat' split) <;> omega), hw⟩
set_option maxRecDepth 100000 in
set_option maxHeartbeats 1000000 in
theorem Decode_two (s : ByteArray) (A : Option Addr) (c : Nat) (i : Nat) (hi : i < s.size) (hs : s.size ≤ 140737488351232) (hcap : s.size ≤ c) (w : World) {B : Nat} (h : Rd w B A s.size (fun j => .int .u8 (bt s j : Int))) (h0 : bt s i / 32 = 6) : Calls Tryd.prog 50 #[.slice A s.size c, .int .i64 (i : Int)] w fun e w' => e = .returned (.tuple #[.int .i32 (decR s (i : Int)), .int .i64 (decN s (i : Int)), .bool (decG s (i : Int))]) ∧ w' = w := by
  obtain ⟨ad, rfl, _, hc0⟩ := h i hi
  have hb0 := bt_lt s i
  by_cases hn : i + 1 < s.size
  · have hc1 : w.cell? ⟨ad.block, ad.off + (i + 1), none⟩ = some (.int .u8 (bt s (i + 1) : Int)) := by
      have := cell_off (h.at_ rfl (show i + 1 < s.size by omega)) (by omega)
      rw [show ad.off + (i + 1) = ad.off + (i + 1) by omega]; exact this
    have hb1 := bt_lt s (i + 1)
    go_enter Tryd.func50, Tryd.ntmps50
    go_wp2_with (go_at_call 61; refine (wide_two _ (by omega) (by omega) _).mono ?_; rintro e w1 ⟨rfl, rfl⟩)
    refine wp_loop_rounds 2 ?_
    rw [rounds_succ]
    go_wp2
    all_goals (try rw [rounds_succ])
    all_goals (go_wp2_with (first
      | (go_at_call 62; refine (fits_any _ _ _).mono ?_; rintro e w1 ⟨rfl, rfl⟩)))
    all_goals go_ret3
    all_goals refine ⟨?_, rfl⟩
    all_goals (try simp only [fitsA1, fits2, fits3, fits4] at *)
    all_goals first
      | refine dec_ret hi (dec3_bad ?_ ?_ ?_ ?_) ?_ ?_ rfl
      | refine dec_ret hi (dec3_two ?_ ?_ ?_ ?_) ?_ ?_ rfl
    all_goals (try simp only [beq_iff_eq, beq_eq_false_iff_ne, bne_iff_ne, bne_eq_false_iff_eq, ne_eq, decide_eq_true_eq, decide_eq_false_iff_not, Bool.and_eq_true, Bool.or_eq_true, Bool.not_eq_true, Bool.not_eq_false, Bool.false_eq_true, Decidable.not_not, Bool.not_eq_eq_eq_not, Bool.not_true, Bool.not_false] at *)
    all_goals omega
  ·
    go_enter Tryd.func50, Tryd.ntmps50
    go_wp2_with (go_at_call 61; refine (wide_two _ (by omega) (by omega) _).mono ?_; rintro e w1 ⟨rfl, rfl⟩)
    all_goals go_ret3
    all_goals refine ⟨?_, rfl⟩
    all_goals (try simp only [fitsA1, fits2, fits3, fits4] at *)
    all_goals first
      | refine dec_ret hi (dec3_bad ?_ ?_ ?_ ?_) ?_ ?_ rfl
      | refine dec_ret hi (dec3_one ?_) ?_ ?_ rfl
    all_goals (try simp only [beq_iff_eq, beq_eq_false_iff_ne, bne_iff_ne, bne_eq_false_iff_eq, ne_eq, decide_eq_true_eq, decide_eq_false_iff_not, Bool.and_eq_true, Bool.or_eq_true, Bool.not_eq_true, Bool.not_eq_false, Bool.false_eq_true, Decidable.not_not, Bool.not_eq_eq_eq_not, Bool.not_true, Bool.not_false] at *)
    all_goals omega

theorem wide_three (c : Int) (h : c / 16 = 14) (h0 : 0 ≤ c ∧ c < 256) (w : World) : Calls Tryd.prog 61 #[.int .u8 c] w fun e w' => e = .returned (.tuple #[.int .i64 3, .int .i32 (c % 16)]) ∧ w' = w :=
  (wide_any c h0.1 h0.2 w).mono fun e w' ⟨he, hw⟩ => ⟨by rw [he]; exact ret_ints (by unfold wideN; (repeat' split) <;> omega) (by unfold wideR; (repeat' split) <;> omega), hw⟩
set_option maxRecDepth 100000 in
set_option maxHeartbeats 1000000 in
theorem Decode_three (s : ByteArray) (A : Option Addr) (c : Nat) (i : Nat) (hi : i < s.size) (hs : s.size ≤ 140737488351232) (hcap : s.size ≤ c) (w : World) {B : Nat} (h : Rd w B A s.size (fun j => .int .u8 (bt s j : Int))) (h0 : bt s i / 16 = 14) : Calls Tryd.prog 50 #[.slice A s.size c, .int .i64 (i : Int)] w fun e w' => e = .returned (.tuple #[.int .i32 (decR s (i : Int)), .int .i64 (decN s (i : Int)), .bool (decG s (i : Int))]) ∧ w' = w := by
  obtain ⟨ad, rfl, _, hc0⟩ := h i hi
  have hb0 := bt_lt s i
  by_cases hn : i + 2 < s.size
  · have hc1 : w.cell? ⟨ad.block, ad.off + (i + 1), none⟩ = some (.int .u8 (bt s (i + 1) : Int)) := by
      have := cell_off (h.at_ rfl (show i + 1 < s.size by omega)) (by omega)
      rw [show ad.off + (i + 1) = ad.off + (i + 1) by omega]; exact this
    have hb1 := bt_lt s (i + 1)
    have hc2 : w.cell? ⟨ad.block, ad.off + (i + 1) + 1, none⟩ = some (.int .u8 (bt s (i + 2) : Int)) := by
      have := cell_off (h.at_ rfl (show i + 2 < s.size by omega)) (by omega)
      rw [show ad.off + (i + 1) + 1 = ad.off + (i + 2) by omega]; exact this
    have hb2 := bt_lt s (i + 2)
    go_enter Tryd.func50, Tryd.ntmps50
    go_wp2_with (go_at_call 61; refine (wide_three _ (by omega) (by omega) _).mono ?_; rintro e w1 ⟨rfl, rfl⟩)
    refine wp_loop_rounds 3 ?_
    rw [rounds_succ]
    go_wp2
    all_goals (try rw [rounds_succ])
    all_goals (go_wp2_with (first
      | (go_at_call 62; refine (fits_any _ _ _).mono ?_; rintro e w1 ⟨rfl, rfl⟩)))
    all_goals (try rw [rounds_succ])
    all_goals (go_wp2_with (first
      | (go_at_call 62; refine (fits_any _ _ _).mono ?_; rintro e w1 ⟨rfl, rfl⟩)))
    all_goals go_ret3
    all_goals refine ⟨?_, rfl⟩
    all_goals (try simp only [fitsA1, fits2, fits3, fits4] at *)
    all_goals first
      | refine dec_ret hi (dec3_bad ?_ ?_ ?_ ?_) ?_ ?_ rfl
      | refine dec_ret hi (dec3_three ?_ ?_ ?_ ?_ ?_ ?_) ?_ ?_ rfl
    all_goals (try simp only [beq_iff_eq, beq_eq_false_iff_ne, bne_iff_ne, bne_eq_false_iff_eq, ne_eq, decide_eq_true_eq, decide_eq_false_iff_not, Bool.and_eq_true, Bool.or_eq_true, Bool.not_eq_true, Bool.not_eq_false, Bool.false_eq_true, Decidable.not_not, Bool.not_eq_eq_eq_not, Bool.not_true, Bool.not_false] at *)
    all_goals omega
  ·
    go_enter Tryd.func50, Tryd.ntmps50
    go_wp2_with (go_at_call 61; refine (wide_three _ (by omega) (by omega) _).mono ?_; rintro e w1 ⟨rfl, rfl⟩)
    all_goals go_ret3
    all_goals refine ⟨?_, rfl⟩
    all_goals (try simp only [fitsA1, fits2, fits3, fits4] at *)
    all_goals first
      | refine dec_ret hi (dec3_bad ?_ ?_ ?_ ?_) ?_ ?_ rfl
      | refine dec_ret hi (dec3_one ?_) ?_ ?_ rfl
    all_goals (try simp only [beq_iff_eq, beq_eq_false_iff_ne, bne_iff_ne, bne_eq_false_iff_eq, ne_eq, decide_eq_true_eq, decide_eq_false_iff_not, Bool.and_eq_true, Bool.or_eq_true, Bool.not_eq_true, Bool.not_eq_false, Bool.false_eq_true, Decidable.not_not, Bool.not_eq_eq_eq_not, Bool.not_true, Bool.not_false] at *)
    all_goals omega

theorem wide_four (c : Int) (h : c / 8 = 30) (h0 : 0 ≤ c ∧ c < 256) (w : World) : Calls Tryd.prog 61 #[.int .u8 c] w fun e w' => e = .returned (.tuple #[.int .i64 4, .int .i32 (c % 8)]) ∧ w' = w :=
  (wide_any c h0.1 h0.2 w).mono fun e w' ⟨he, hw⟩ => ⟨by rw [he]; exact ret_ints (by unfold wideN; (repeat' split) <;> omega) (by unfold wideR; (repeat' split) <;> omega), hw⟩
set_option maxRecDepth 100000 in
set_option maxHeartbeats 1000000 in
theorem Decode_four (s : ByteArray) (A : Option Addr) (c : Nat) (i : Nat) (hi : i < s.size) (hs : s.size ≤ 140737488351232) (hcap : s.size ≤ c) (w : World) {B : Nat} (h : Rd w B A s.size (fun j => .int .u8 (bt s j : Int))) (h0 : bt s i / 8 = 30) : Calls Tryd.prog 50 #[.slice A s.size c, .int .i64 (i : Int)] w fun e w' => e = .returned (.tuple #[.int .i32 (decR s (i : Int)), .int .i64 (decN s (i : Int)), .bool (decG s (i : Int))]) ∧ w' = w := by
  obtain ⟨ad, rfl, _, hc0⟩ := h i hi
  have hb0 := bt_lt s i
  by_cases hn : i + 3 < s.size
  · have hc1 : w.cell? ⟨ad.block, ad.off + (i + 1), none⟩ = some (.int .u8 (bt s (i + 1) : Int)) := by
      have := cell_off (h.at_ rfl (show i + 1 < s.size by omega)) (by omega)
      rw [show ad.off + (i + 1) = ad.off + (i + 1) by omega]; exact this
    have hb1 := bt_lt s (i + 1)
    have hc2 : w.cell? ⟨ad.block, ad.off + (i + 1) + 1, none⟩ = some (.int .u8 (bt s (i + 2) : Int)) := by
      have := cell_off (h.at_ rfl (show i + 2 < s.size by omega)) (by omega)
      rw [show ad.off + (i + 1) + 1 = ad.off + (i + 2) by omega]; exact this
    have hb2 := bt_lt s (i + 2)
    have hc3 : w.cell? ⟨ad.block, ad.off + (i + 1) + 2, none⟩ = some (.int .u8 (bt s (i + 3) : Int)) := by
      have := cell_off (h.at_ rfl (show i + 3 < s.size by omega)) (by omega)
      rw [show ad.off + (i + 1) + 2 = ad.off + (i + 3) by omega]; exact this
    have hb3 := bt_lt s (i + 3)
    go_enter Tryd.func50, Tryd.ntmps50
    go_wp2_with (go_at_call 61; refine (wide_four _ (by omega) (by omega) _).mono ?_; rintro e w1 ⟨rfl, rfl⟩)
    refine wp_loop_rounds 4 ?_
    rw [rounds_succ]
    go_wp2
    all_goals (try rw [rounds_succ])
    all_goals (go_wp2_with (first
      | (go_at_call 62; refine (fits_any _ _ _).mono ?_; rintro e w1 ⟨rfl, rfl⟩)))
    all_goals (try rw [rounds_succ])
    all_goals (go_wp2_with (first
      | (go_at_call 62; refine (fits_any _ _ _).mono ?_; rintro e w1 ⟨rfl, rfl⟩)))
    all_goals (try rw [rounds_succ])
    all_goals (go_wp2_with (first
      | (go_at_call 62; refine (fits_any _ _ _).mono ?_; rintro e w1 ⟨rfl, rfl⟩)))
    all_goals go_ret3
    all_goals refine ⟨?_, rfl⟩
    all_goals (try simp only [fitsA1, fits2, fits3, fits4] at *)
    all_goals first
      | refine dec_ret hi (dec3_bad ?_ ?_ ?_ ?_) ?_ ?_ rfl
      | refine dec_ret hi (dec3_four ?_ ?_ ?_ ?_ ?_ ?_ ?_) ?_ ?_ rfl
    all_goals (try simp only [beq_iff_eq, beq_eq_false_iff_ne, bne_iff_ne, bne_eq_false_iff_eq, ne_eq, decide_eq_true_eq, decide_eq_false_iff_not, Bool.and_eq_true, Bool.or_eq_true, Bool.not_eq_true, Bool.not_eq_false, Bool.false_eq_true, Decidable.not_not, Bool.not_eq_eq_eq_not, Bool.not_true, Bool.not_false] at *)
    all_goals omega
  ·
    go_enter Tryd.func50, Tryd.ntmps50
    go_wp2_with (go_at_call 61; refine (wide_four _ (by omega) (by omega) _).mono ?_; rintro e w1 ⟨rfl, rfl⟩)
    all_goals go_ret3
    all_goals refine ⟨?_, rfl⟩
    all_goals (try simp only [fitsA1, fits2, fits3, fits4] at *)
    all_goals first
      | refine dec_ret hi (dec3_bad ?_ ?_ ?_ ?_) ?_ ?_ rfl
      | refine dec_ret hi (dec3_one ?_) ?_ ?_ rfl
    all_goals (try simp only [beq_iff_eq, beq_eq_false_iff_ne, bne_iff_ne, bne_eq_false_iff_eq, ne_eq, decide_eq_true_eq, decide_eq_false_iff_not, Bool.and_eq_true, Bool.or_eq_true, Bool.not_eq_true, Bool.not_eq_false, Bool.false_eq_true, Decidable.not_not, Bool.not_eq_eq_eq_not, Bool.not_true, Bool.not_false] at *)
    all_goals omega

theorem wide_none (c : Int) (h : 128 ≤ c ∧ c / 32 ≠ 6 ∧ c / 16 ≠ 14 ∧ c / 8 ≠ 30) (h0 : 0 ≤ c ∧ c < 256) (w : World) : Calls Tryd.prog 61 #[.int .u8 c] w fun e w' => e = .returned (.tuple #[.int .i64 0, .int .i32 (0)]) ∧ w' = w :=
  (wide_any c h0.1 h0.2 w).mono fun e w' ⟨he, hw⟩ => ⟨by rw [he]; exact ret_ints (by unfold wideN; (repeat' split) <;> omega) (by unfold wideR; (repeat' split) <;> omega), hw⟩
set_option maxRecDepth 100000 in
set_option maxHeartbeats 1000000 in
theorem Decode_none (s : ByteArray) (A : Option Addr) (c : Nat) (i : Nat) (hi : i < s.size) (hs : s.size ≤ 140737488351232) (hcap : s.size ≤ c) (w : World) {B : Nat} (h : Rd w B A s.size (fun j => .int .u8 (bt s j : Int))) (h0 : 128 ≤ bt s i ∧ bt s i / 32 ≠ 6 ∧ bt s i / 16 ≠ 14 ∧ bt s i / 8 ≠ 30) : Calls Tryd.prog 50 #[.slice A s.size c, .int .i64 (i : Int)] w fun e w' => e = .returned (.tuple #[.int .i32 (decR s (i : Int)), .int .i64 (decN s (i : Int)), .bool (decG s (i : Int))]) ∧ w' = w := by
  obtain ⟨ad, rfl, _, hc0⟩ := h i hi
  have hb0 := bt_lt s i
  ·
    go_enter Tryd.func50, Tryd.ntmps50
    go_wp2_with (go_at_call 61; refine (wide_none _ (by omega) (by omega) _).mono ?_; rintro e w1 ⟨rfl, rfl⟩)
    all_goals go_ret3
    all_goals refine ⟨?_, rfl⟩
    all_goals (try simp only [fitsA1, fits2, fits3, fits4] at *)
    all_goals first
      | refine dec_ret hi (dec3_bad ?_ ?_ ?_ ?_) ?_ ?_ rfl
      | refine dec_ret hi (dec3_one ?_) ?_ ?_ rfl
    all_goals (try simp only [beq_iff_eq, beq_eq_false_iff_ne, bne_iff_ne, bne_eq_false_iff_eq, ne_eq, decide_eq_true_eq, decide_eq_false_iff_not, Bool.and_eq_true, Bool.or_eq_true, Bool.not_eq_true, Bool.not_eq_false, Bool.false_eq_true, Decidable.not_not, Bool.not_eq_eq_eq_not, Bool.not_true, Bool.not_false] at *)
    all_goals omega

theorem Decode_any (s : ByteArray) (A : Option Addr) (c : Nat) (i : Int) (hs : s.size ≤ 140737488351232) (hcap : s.size ≤ c) (w : World) {B : Nat} (h : Rd w B A s.size (fun j => .int .u8 (bt s j : Int))) : Calls Tryd.prog 50 #[.slice A s.size c, .int .i64 i] w fun e w' => e = .returned (.tuple #[.int .i32 (decR s i), .int .i64 (decN s i), .bool (decG s i)]) ∧ w' = w := by
  by_cases hi : 0 ≤ i ∧ i < s.size
  · obtain ⟨k, rfl⟩ := Int.eq_ofNat_of_zero_le hi.1
    have hk : k < s.size := by omega
    have hb := bt_lt s k
    rcases (by omega : bt s k < 128 ∨ bt s k / 32 = 6 ∨ bt s k / 16 = 14 ∨ bt s k / 8 = 30 ∨ (128 ≤ bt s k ∧ bt s k / 32 ≠ 6 ∧ bt s k / 16 ≠ 14 ∧ bt s k / 8 ≠ 30)) with h0 | h0 | h0 | h0 | h0
    · exact Decode_one s A c k hk hs hcap w h h0
    · exact Decode_two s A c k hk hs hcap w h h0
    · exact Decode_three s A c k hk hs hcap w h h0
    · exact Decode_four s A c k hk hs hcap w h h0
    · exact Decode_none s A c k hk hs hcap w h h0
  · exact Decode_out s A c i (by omega) w
end Go.Proofs.YtpkdhciokiomlaaDoor
