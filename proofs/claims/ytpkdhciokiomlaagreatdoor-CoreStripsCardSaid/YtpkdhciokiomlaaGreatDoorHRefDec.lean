/- The walks of chapter 1's reference: cont, Decode (for other chapters). -/
import Derived.Test.YtpkdhciokiomlaaGreatDoorHBZ1
import Derived.Test.YtpkdhciokiomlaaGreatDoorProg
import Derived.WalkKit
import Derived.WalkSpells
import Derived.WalkLawsBesides
import Derived.Outline
import Derived.LoopTactic
namespace Go.Proofs.YtpkdhciokiomlaaGreatDoor
set_option linter.unusedVariables false
set_option linter.unusedSimpArgs false
set_option linter.unnecessarySimpa false
open Go.RowKit
attribute [local go_sem] cell_alloc_add cell_set_add lt_more

theorem cell_off {w : World} {ad : Addr} {j : Nat} {u : Option Value} (h : w.cell? (ad.add j) = u) (hj : j ≠ 0) : w.cell? ⟨ad.block, ad.off + j, none⟩ = u := by
  rw [← h]; unfold Addr.add; rw [if_neg hj]
def contB (s : ByteArray) (i : Nat) : Bool := decide (i < s.size) && decide (128 ≤ bt s i) && decide (bt s i ≤ 191)
set_option maxRecDepth 100000 in
set_option maxHeartbeats 1000000 in
theorem cont_any (s : ByteArray) (A : Option Addr) (c : Nat) (i : Nat) (hi : i ≤ 140737488351232) (w : World) {B : Nat} (h : Rd w B A s.size (fun j => .int .u8 (bt s j : Int))) :
    Calls Tryz.prog 120 #[.slice A s.size c, .int .i64 i] w fun e w' => e = .returned (.bool (contB s i)) ∧ w' = w := by
  by_cases hlt : i < s.size
  · obtain ⟨ad, rfl, _, hc⟩ := h i hlt
    go_enter Tryz.func120, Tryz.ntmps120
    go_wp2
    all_goals go_ret
    all_goals refine ⟨ret_bool (Bool.eq_iff_iff.2 ?_), rfl⟩
    all_goals (try simp only [beq_iff_eq, beq_eq_false_iff_ne, bne_iff_ne, bne_eq_false_iff_eq, ne_eq, decide_eq_true_eq, decide_eq_false_iff_not, Bool.and_eq_true, Bool.or_eq_true, Bool.not_eq_true, Bool.not_eq_false, Bool.false_eq_true, Decidable.not_not, Bool.not_eq_eq_eq_not, Bool.not_true, Bool.not_false] at *)
    all_goals (simp [contB] <;> omega)
  · go_enter Tryz.func120, Tryz.ntmps120
    go_wp2
    all_goals go_ret
    all_goals refine ⟨ret_bool (Bool.eq_iff_iff.2 ?_), rfl⟩
    all_goals (try simp only [beq_iff_eq, beq_eq_false_iff_ne, bne_iff_ne, bne_eq_false_iff_eq, ne_eq, decide_eq_true_eq, decide_eq_false_iff_not, Bool.and_eq_true, Bool.or_eq_true, Bool.not_eq_true, Bool.not_eq_false, Bool.false_eq_true, Decidable.not_not, Bool.not_eq_eq_eq_not, Bool.not_true, Bool.not_false] at *)
    all_goals (simp [contB] <;> omega)
theorem cont_is {s : ByteArray} {i : Nat} (h : contB s i = true) : i < s.size ∧ 128 ≤ bt s i ∧ bt s i ≤ 191 := by unfold contB at h; simp at h; omega
theorem cont_not {s : ByteArray} {i : Nat} (h : contB s i = false) : i < s.size → bt s i / 64 ≠ 2 := by
  intro hi
  have hb := bt_lt s i
  intro h2
  have : contB s i = true := by unfold contB; simp; omega
  rw [h] at this; cases this
theorem cont_yes (s : ByteArray) (A : Option Addr) (c : Nat) (i : Nat) (x : Int) (hx : x = (i : Int)) (hi : i ≤ 140737488351232) (hc : contB s i = true) (w : World) {B : Nat} (h : Rd w B A s.size (fun j => .int .u8 (bt s j : Int))) :
    Calls Tryz.prog 120 #[.slice A s.size c, .int .i64 x] w fun e w' => e = .returned (.bool true) ∧ w' = w := by
  subst hx; have := cont_any s A c i hi w h; rwa [hc] at this
theorem cont_no (s : ByteArray) (A : Option Addr) (c : Nat) (i : Nat) (x : Int) (hx : x = (i : Int)) (hi : i ≤ 140737488351232) (hc : contB s i = false) (w : World) {B : Nat} (h : Rd w B A s.size (fun j => .int .u8 (bt s j : Int))) :
    Calls Tryz.prog 120 #[.slice A s.size c, .int .i64 x] w fun e w' => e = .returned (.bool false) ∧ w' = w := by
  subst hx; have := cont_any s A c i hi w h; rwa [hc] at this
theorem row_bad {s : ByteArray} {i : Nat} {m k j : IntKind} (hi : i < s.size) (h : dec3 (s.size - i) (bt s i) (bt s (i + 1)) (bt s (i + 2)) (bt s (i + 3)) = (65533, 1, false)) :
    (.agg #[.int m i, .int k (decR s i), .int j (decN s i), .bool (decG s i)] : Value) = .agg #[.int m i, .int k 65533, .int j 1, .bool false] := by
  obtain ⟨e1, e2, e3⟩ := dec_is hi h; rw [← e1, ← e2, ← e3]; rfl
theorem row_good {s : ByteArray} {i : Nat} {m k j : IntKind} (hi : i < s.size) {R N : Nat} (h : dec3 (s.size - i) (bt s i) (bt s (i + 1)) (bt s (i + 2)) (bt s (i + 3)) = (R, N, true)) {r n : Int} (hr : r = (R : Int)) (hn : n = (N : Int)) :
    (.agg #[.int m i, .int k (decR s i), .int j (decN s i), .bool (decG s i)] : Value) = .agg #[.int m i, .int k r, .int j n, .bool true] := by
  obtain ⟨e1, e2, e3⟩ := dec_is hi h; rw [← e1, ← e2, ← e3, hr, hn]

set_option maxRecDepth 100000 in
set_option maxHeartbeats 1000000 in
theorem rDecode_out (s : ByteArray) (A : Option Addr) (c : Nat) (i : Int) (hi : i < 0 ∨ (s.size : Int) ≤ i) (w : World) : Calls Tryz.prog 113 #[.slice A s.size c, .int .i64 i] w fun e w' => e = .returned (.agg #[.int .i64 i, .int .i32 (decR s i), .int .i64 (decN s i), .bool (decG s i)]) ∧ Below w.heap.size w w' := by
  rw [decR_out hi, decN_out hi, decG_out hi]
  go_enter Tryz.func113, Tryz.ntmps113
  rcases hi with hi | hi
  all_goals go_wp2
  all_goals refine bodyPost_ret (v := .agg #[.int .i64 i, .int .i32 0, .int .i64 0, .bool false]) (by simp [results, Tryz.results113, go_sem]) rfl ⟨rfl, (by (exact bl))⟩

set_option maxRecDepth 100000 in
set_option maxHeartbeats 1000000 in
theorem rDecode_one_all (s : ByteArray) (A : Option Addr) (c : Nat) (i : Nat) (hi : i < s.size) (hs : s.size ≤ 140737488351232) (hcap : s.size ≤ c) (w : World) {B : Nat} (hB : B ≤ w.heap.size) (h : Rd w B A s.size (fun j => .int .u8 (bt s j : Int))) (h0 : bt s i < 128) : Calls Tryz.prog 113 #[.slice A s.size c, .int .i64 (i : Int)] w fun e w' => e = .returned (.agg #[.int .i64 (i : Int), .int .i32 (decR s (i : Int)), .int .i64 (decN s (i : Int)), .bool (decG s (i : Int))]) ∧ Below w.heap.size w w' := by
  obtain ⟨ad, rfl, hlt0, hc0⟩ := h i hi
  have hlt : ad.block < w.heap.size := by omega
  have hb0 := bt_lt s i
  go_enter Tryz.func113, Tryz.ntmps113
  go_wp2
  all_goals first
    | (rw [row_good hi (r := (bt s i : Int)) (n := 1) (dec3_one (by omega)) (by omega) rfl]; refine bodyPost_ret (v := .agg #[.int .i64 ↑i, .int .i32 ((bt s i : Int)), .int .i64 1, .bool true]) (by simp [results, Tryz.results113, go_sem, *]) rfl ⟨rfl, (by (exact bl))⟩)
    | (rw [row_bad hi (dec3_bad (by omega) (by omega) (by omega) (by omega))]; refine bodyPost_ret (v := .agg #[.int .i64 ↑i, .int .i32 65533, .int .i64 1, .bool false]) (by simp [results, Tryz.results113, go_sem, *]) rfl ⟨rfl, (by (exact bl))⟩)

set_option maxRecDepth 100000 in
set_option maxHeartbeats 1000000 in
theorem rDecode_two_1 (s : ByteArray) (A : Option Addr) (c : Nat) (i : Nat) (hi : i < s.size) (hs : s.size ≤ 140737488351232) (hcap : s.size ≤ c) (w : World) {B : Nat} (hB : B ≤ w.heap.size) (h : Rd w B A s.size (fun j => .int .u8 (bt s j : Int))) (h0 : bt s i / 32 = 6) (h1 : contB s (i + 1) = false) : Calls Tryz.prog 113 #[.slice A s.size c, .int .i64 (i : Int)] w fun e w' => e = .returned (.agg #[.int .i64 (i : Int), .int .i32 (decR s (i : Int)), .int .i64 (decN s (i : Int)), .bool (decG s (i : Int))]) ∧ Below w.heap.size w w' := by
  obtain ⟨ad, rfl, hlt0, hc0⟩ := h i hi
  have hlt : ad.block < w.heap.size := by omega
  have hb0 := bt_lt s i
  have hq := Lib.hid (cont_not h1)
  have H1 := Lib.hid h1
  clear h1
  go_enter Tryz.func113, Tryz.ntmps113
  go_wp2
  refine wp_loop_rounds 1 ?_
  rw [rounds_succ]
  go_wp2_with (first
      | (go_at_call 120; (with_reducible refine (cont_no s (some ad) c (i + 1) _ (by omega) (by omega) H1.out _ (B := B) (by (repeat (first | (with_reducible assumption) | (with_reducible refine Rd.setCell ?_ (by first | omega | (simp <;> omega)) _) | (with_reducible refine Rd.alloc ?_ (by first | omega | (simp <;> omega)) _) | (with_reducible refine Rd.drew ?_) | (with_reducible refine Rd.drewN ?_ _) | (with_reducible refine Rd.below ?_ (by with_reducible assumption)))))).mono ?_); rintro e w1 ⟨rfl, rfl⟩))
  all_goals have hq := hq.out
  all_goals (rw [row_bad hi (dec3_bad (by omega) (by omega) (by omega) (by omega))]; refine bodyPost_ret (v := .agg #[.int .i64 ↑i, .int .i32 65533, .int .i64 1, .bool false]) (by simp [results, Tryz.results113, go_sem, *]) rfl ⟨rfl, (by (exact bl))⟩)

set_option maxRecDepth 100000 in
set_option maxHeartbeats 1000000 in
theorem rDecode_two_all (s : ByteArray) (A : Option Addr) (c : Nat) (i : Nat) (hi : i < s.size) (hs : s.size ≤ 140737488351232) (hcap : s.size ≤ c) (w : World) {B : Nat} (hB : B ≤ w.heap.size) (h : Rd w B A s.size (fun j => .int .u8 (bt s j : Int))) (h0 : bt s i / 32 = 6) (h1 : contB s (i + 1) = true) : Calls Tryz.prog 113 #[.slice A s.size c, .int .i64 (i : Int)] w fun e w' => e = .returned (.agg #[.int .i64 (i : Int), .int .i32 (decR s (i : Int)), .int .i64 (decN s (i : Int)), .bool (decG s (i : Int))]) ∧ Below w.heap.size w w' := by
  obtain ⟨ad, rfl, hlt0, hc0⟩ := h i hi
  have hlt : ad.block < w.heap.size := by omega
  have hb0 := bt_lt s i
  obtain ⟨hx1, hy1, hz1⟩ := cont_is h1
  have hc1 := cell_off (h.at_ rfl hx1) (by omega)
  have H1 := Lib.hid h1
  clear h1
  go_enter Tryz.func113, Tryz.ntmps113
  go_wp2
  refine wp_loop_rounds 2 ?_
  rw [rounds_succ]
  go_wp2_with (first
      | (go_at_call 120; (with_reducible refine (cont_yes s (some ad) c (i + 1) _ (by omega) (by omega) H1.out _ (B := B) (by (repeat (first | (with_reducible assumption) | (with_reducible refine Rd.setCell ?_ (by first | omega | (simp <;> omega)) _) | (with_reducible refine Rd.alloc ?_ (by first | omega | (simp <;> omega)) _) | (with_reducible refine Rd.drew ?_) | (with_reducible refine Rd.drewN ?_ _) | (with_reducible refine Rd.below ?_ (by with_reducible assumption)))))).mono ?_); rintro e w1 ⟨rfl, rfl⟩))
  all_goals (try rw [rounds_succ])
  all_goals (go_wp2_with (first
      | (go_at_call 120; (with_reducible refine (cont_yes s (some ad) c (i + 1) _ (by omega) (by omega) H1.out _ (B := B) (by (repeat (first | (with_reducible assumption) | (with_reducible refine Rd.setCell ?_ (by first | omega | (simp <;> omega)) _) | (with_reducible refine Rd.alloc ?_ (by first | omega | (simp <;> omega)) _) | (with_reducible refine Rd.drew ?_) | (with_reducible refine Rd.drewN ?_ _) | (with_reducible refine Rd.below ?_ (by with_reducible assumption)))))).mono ?_); rintro e w1 ⟨rfl, rfl⟩)))
  all_goals first
    | (rw [row_good hi (r := ((bt s i : Int) - 192) * 64 + (bt s (i + 1) : Int) - 128) (n := 2) (dec3_two (by omega) (by omega) (by omega) (by omega)) (by omega) rfl]; refine bodyPost_ret (v := .agg #[.int .i64 ↑i, .int .i32 (((bt s i : Int) - 192) * 64 + (bt s (i + 1) : Int) - 128), .int .i64 2, .bool true]) (by simp [results, Tryz.results113, go_sem, *]) rfl ⟨rfl, (by (exact bl))⟩)
    | (rw [row_bad hi (dec3_bad (by omega) (by omega) (by omega) (by omega))]; refine bodyPost_ret (v := .agg #[.int .i64 ↑i, .int .i32 65533, .int .i64 1, .bool false]) (by simp [results, Tryz.results113, go_sem, *]) rfl ⟨rfl, (by (exact bl))⟩)

set_option maxRecDepth 100000 in
set_option maxHeartbeats 1000000 in
theorem rDecode_three_1 (s : ByteArray) (A : Option Addr) (c : Nat) (i : Nat) (hi : i < s.size) (hs : s.size ≤ 140737488351232) (hcap : s.size ≤ c) (w : World) {B : Nat} (hB : B ≤ w.heap.size) (h : Rd w B A s.size (fun j => .int .u8 (bt s j : Int))) (h0 : bt s i / 16 = 14) (h1 : contB s (i + 1) = false) : Calls Tryz.prog 113 #[.slice A s.size c, .int .i64 (i : Int)] w fun e w' => e = .returned (.agg #[.int .i64 (i : Int), .int .i32 (decR s (i : Int)), .int .i64 (decN s (i : Int)), .bool (decG s (i : Int))]) ∧ Below w.heap.size w w' := by
  obtain ⟨ad, rfl, hlt0, hc0⟩ := h i hi
  have hlt : ad.block < w.heap.size := by omega
  have hb0 := bt_lt s i
  have hq := Lib.hid (cont_not h1)
  have H1 := Lib.hid h1
  clear h1
  go_enter Tryz.func113, Tryz.ntmps113
  go_wp2
  refine wp_loop_rounds 1 ?_
  rw [rounds_succ]
  go_wp2_with (first
      | (go_at_call 120; (with_reducible refine (cont_no s (some ad) c (i + 1) _ (by omega) (by omega) H1.out _ (B := B) (by (repeat (first | (with_reducible assumption) | (with_reducible refine Rd.setCell ?_ (by first | omega | (simp <;> omega)) _) | (with_reducible refine Rd.alloc ?_ (by first | omega | (simp <;> omega)) _) | (with_reducible refine Rd.drew ?_) | (with_reducible refine Rd.drewN ?_ _) | (with_reducible refine Rd.below ?_ (by with_reducible assumption)))))).mono ?_); rintro e w1 ⟨rfl, rfl⟩))
  all_goals have hq := hq.out
  all_goals (rw [row_bad hi (dec3_bad (by omega) (by omega) (by omega) (by omega))]; refine bodyPost_ret (v := .agg #[.int .i64 ↑i, .int .i32 65533, .int .i64 1, .bool false]) (by simp [results, Tryz.results113, go_sem, *]) rfl ⟨rfl, (by (exact bl))⟩)

set_option maxRecDepth 100000 in
set_option maxHeartbeats 1000000 in
theorem rDecode_three_2 (s : ByteArray) (A : Option Addr) (c : Nat) (i : Nat) (hi : i < s.size) (hs : s.size ≤ 140737488351232) (hcap : s.size ≤ c) (w : World) {B : Nat} (hB : B ≤ w.heap.size) (h : Rd w B A s.size (fun j => .int .u8 (bt s j : Int))) (h0 : bt s i / 16 = 14) (h1 : contB s (i + 1) = true) (h2 : contB s (i + 2) = false) : Calls Tryz.prog 113 #[.slice A s.size c, .int .i64 (i : Int)] w fun e w' => e = .returned (.agg #[.int .i64 (i : Int), .int .i32 (decR s (i : Int)), .int .i64 (decN s (i : Int)), .bool (decG s (i : Int))]) ∧ Below w.heap.size w w' := by
  obtain ⟨ad, rfl, hlt0, hc0⟩ := h i hi
  have hlt : ad.block < w.heap.size := by omega
  have hb0 := bt_lt s i
  obtain ⟨hx1, hy1, hz1⟩ := cont_is h1
  have hc1 := cell_off (h.at_ rfl hx1) (by omega)
  have H1 := Lib.hid h1
  clear h1
  have hq := Lib.hid (cont_not h2)
  have H2 := Lib.hid h2
  clear h2
  go_enter Tryz.func113, Tryz.ntmps113
  go_wp2
  refine wp_loop_rounds 2 ?_
  rw [rounds_succ]
  go_wp2_with (first
      | (go_at_call 120; (with_reducible refine (cont_yes s (some ad) c (i + 1) _ (by omega) (by omega) H1.out _ (B := B) (by (repeat (first | (with_reducible assumption) | (with_reducible refine Rd.setCell ?_ (by first | omega | (simp <;> omega)) _) | (with_reducible refine Rd.alloc ?_ (by first | omega | (simp <;> omega)) _) | (with_reducible refine Rd.drew ?_) | (with_reducible refine Rd.drewN ?_ _) | (with_reducible refine Rd.below ?_ (by with_reducible assumption)))))).mono ?_); rintro e w1 ⟨rfl, rfl⟩)
      | (go_at_call 120; (with_reducible refine (cont_no s (some ad) c (i + 2) _ (by omega) (by omega) H2.out _ (B := B) (by (repeat (first | (with_reducible assumption) | (with_reducible refine Rd.setCell ?_ (by first | omega | (simp <;> omega)) _) | (with_reducible refine Rd.alloc ?_ (by first | omega | (simp <;> omega)) _) | (with_reducible refine Rd.drew ?_) | (with_reducible refine Rd.drewN ?_ _) | (with_reducible refine Rd.below ?_ (by with_reducible assumption)))))).mono ?_); rintro e w2 ⟨rfl, rfl⟩))
  all_goals (try rw [rounds_succ])
  all_goals (go_wp2_with (first
      | (go_at_call 120; (with_reducible refine (cont_yes s (some ad) c (i + 1) _ (by omega) (by omega) H1.out _ (B := B) (by (repeat (first | (with_reducible assumption) | (with_reducible refine Rd.setCell ?_ (by first | omega | (simp <;> omega)) _) | (with_reducible refine Rd.alloc ?_ (by first | omega | (simp <;> omega)) _) | (with_reducible refine Rd.drew ?_) | (with_reducible refine Rd.drewN ?_ _) | (with_reducible refine Rd.below ?_ (by with_reducible assumption)))))).mono ?_); rintro e w1 ⟨rfl, rfl⟩)
      | (go_at_call 120; (with_reducible refine (cont_no s (some ad) c (i + 2) _ (by omega) (by omega) H2.out _ (B := B) (by (repeat (first | (with_reducible assumption) | (with_reducible refine Rd.setCell ?_ (by first | omega | (simp <;> omega)) _) | (with_reducible refine Rd.alloc ?_ (by first | omega | (simp <;> omega)) _) | (with_reducible refine Rd.drew ?_) | (with_reducible refine Rd.drewN ?_ _) | (with_reducible refine Rd.below ?_ (by with_reducible assumption)))))).mono ?_); rintro e w2 ⟨rfl, rfl⟩)))
  all_goals have hq := hq.out
  all_goals (rw [row_bad hi (dec3_bad (by omega) (by omega) (by omega) (by omega))]; refine bodyPost_ret (v := .agg #[.int .i64 ↑i, .int .i32 65533, .int .i64 1, .bool false]) (by simp [results, Tryz.results113, go_sem, *]) rfl ⟨rfl, (by (exact bl))⟩)

set_option maxRecDepth 100000 in
set_option maxHeartbeats 1000000 in
theorem rDecode_three_all (s : ByteArray) (A : Option Addr) (c : Nat) (i : Nat) (hi : i < s.size) (hs : s.size ≤ 140737488351232) (hcap : s.size ≤ c) (w : World) {B : Nat} (hB : B ≤ w.heap.size) (h : Rd w B A s.size (fun j => .int .u8 (bt s j : Int))) (h0 : bt s i / 16 = 14) (h1 : contB s (i + 1) = true) (h2 : contB s (i + 2) = true) : Calls Tryz.prog 113 #[.slice A s.size c, .int .i64 (i : Int)] w fun e w' => e = .returned (.agg #[.int .i64 (i : Int), .int .i32 (decR s (i : Int)), .int .i64 (decN s (i : Int)), .bool (decG s (i : Int))]) ∧ Below w.heap.size w w' := by
  obtain ⟨ad, rfl, hlt0, hc0⟩ := h i hi
  have hlt : ad.block < w.heap.size := by omega
  have hb0 := bt_lt s i
  obtain ⟨hx1, hy1, hz1⟩ := cont_is h1
  have hc1 := cell_off (h.at_ rfl hx1) (by omega)
  have H1 := Lib.hid h1
  clear h1
  obtain ⟨hx2, hy2, hz2⟩ := cont_is h2
  have hc2 := cell_off (h.at_ rfl hx2) (by omega)
  have H2 := Lib.hid h2
  clear h2
  go_enter Tryz.func113, Tryz.ntmps113
  go_wp2
  refine wp_loop_rounds 3 ?_
  rw [rounds_succ]
  go_wp2_with (first
      | (go_at_call 120; (with_reducible refine (cont_yes s (some ad) c (i + 1) _ (by omega) (by omega) H1.out _ (B := B) (by (repeat (first | (with_reducible assumption) | (with_reducible refine Rd.setCell ?_ (by first | omega | (simp <;> omega)) _) | (with_reducible refine Rd.alloc ?_ (by first | omega | (simp <;> omega)) _) | (with_reducible refine Rd.drew ?_) | (with_reducible refine Rd.drewN ?_ _) | (with_reducible refine Rd.below ?_ (by with_reducible assumption)))))).mono ?_); rintro e w1 ⟨rfl, rfl⟩)
      | (go_at_call 120; (with_reducible refine (cont_yes s (some ad) c (i + 2) _ (by omega) (by omega) H2.out _ (B := B) (by (repeat (first | (with_reducible assumption) | (with_reducible refine Rd.setCell ?_ (by first | omega | (simp <;> omega)) _) | (with_reducible refine Rd.alloc ?_ (by first | omega | (simp <;> omega)) _) | (with_reducible refine Rd.drew ?_) | (with_reducible refine Rd.drewN ?_ _) | (with_reducible refine Rd.below ?_ (by with_reducible assumption)))))).mono ?_); rintro e w2 ⟨rfl, rfl⟩))
  all_goals (try rw [rounds_succ])
  all_goals (go_wp2_with (first
      | (go_at_call 120; (with_reducible refine (cont_yes s (some ad) c (i + 1) _ (by omega) (by omega) H1.out _ (B := B) (by (repeat (first | (with_reducible assumption) | (with_reducible refine Rd.setCell ?_ (by first | omega | (simp <;> omega)) _) | (with_reducible refine Rd.alloc ?_ (by first | omega | (simp <;> omega)) _) | (with_reducible refine Rd.drew ?_) | (with_reducible refine Rd.drewN ?_ _) | (with_reducible refine Rd.below ?_ (by with_reducible assumption)))))).mono ?_); rintro e w1 ⟨rfl, rfl⟩)
      | (go_at_call 120; (with_reducible refine (cont_yes s (some ad) c (i + 2) _ (by omega) (by omega) H2.out _ (B := B) (by (repeat (first | (with_reducible assumption) | (with_reducible refine Rd.setCell ?_ (by first | omega | (simp <;> omega)) _) | (with_reducible refine Rd.alloc ?_ (by first | omega | (simp <;> omega)) _) | (with_reducible refine Rd.drew ?_) | (with_reducible refine Rd.drewN ?_ _) | (with_reducible refine Rd.below ?_ (by with_reducible assumption)))))).mono ?_); rintro e w2 ⟨rfl, rfl⟩)))
  all_goals (try rw [rounds_succ])
  all_goals (go_wp2_with (first
      | (go_at_call 120; (with_reducible refine (cont_yes s (some ad) c (i + 1) _ (by omega) (by omega) H1.out _ (B := B) (by (repeat (first | (with_reducible assumption) | (with_reducible refine Rd.setCell ?_ (by first | omega | (simp <;> omega)) _) | (with_reducible refine Rd.alloc ?_ (by first | omega | (simp <;> omega)) _) | (with_reducible refine Rd.drew ?_) | (with_reducible refine Rd.drewN ?_ _) | (with_reducible refine Rd.below ?_ (by with_reducible assumption)))))).mono ?_); rintro e w1 ⟨rfl, rfl⟩)
      | (go_at_call 120; (with_reducible refine (cont_yes s (some ad) c (i + 2) _ (by omega) (by omega) H2.out _ (B := B) (by (repeat (first | (with_reducible assumption) | (with_reducible refine Rd.setCell ?_ (by first | omega | (simp <;> omega)) _) | (with_reducible refine Rd.alloc ?_ (by first | omega | (simp <;> omega)) _) | (with_reducible refine Rd.drew ?_) | (with_reducible refine Rd.drewN ?_ _) | (with_reducible refine Rd.below ?_ (by with_reducible assumption)))))).mono ?_); rintro e w2 ⟨rfl, rfl⟩)))
  all_goals first
    | (rw [row_good hi (r := (((bt s i : Int) - 224) * 64 + (bt s (i + 1) : Int) - 128) * 64 + (bt s (i + 2) : Int) - 128) (n := 3) (dec3_three (by omega) (by omega) (by omega) (by omega) (by omega) (by omega)) (by omega) rfl]; refine bodyPost_ret (v := .agg #[.int .i64 ↑i, .int .i32 ((((bt s i : Int) - 224) * 64 + (bt s (i + 1) : Int) - 128) * 64 + (bt s (i + 2) : Int) - 128), .int .i64 3, .bool true]) (by simp [results, Tryz.results113, go_sem, *]) rfl ⟨rfl, (by (exact bl))⟩)
    | (rw [row_bad hi (dec3_bad (by omega) (by omega) (by omega) (by omega))]; refine bodyPost_ret (v := .agg #[.int .i64 ↑i, .int .i32 65533, .int .i64 1, .bool false]) (by simp [results, Tryz.results113, go_sem, *]) rfl ⟨rfl, (by (exact bl))⟩)

set_option maxRecDepth 100000 in
set_option maxHeartbeats 1000000 in
theorem rDecode_four_1 (s : ByteArray) (A : Option Addr) (c : Nat) (i : Nat) (hi : i < s.size) (hs : s.size ≤ 140737488351232) (hcap : s.size ≤ c) (w : World) {B : Nat} (hB : B ≤ w.heap.size) (h : Rd w B A s.size (fun j => .int .u8 (bt s j : Int))) (h0 : bt s i / 8 = 30) (h1 : contB s (i + 1) = false) : Calls Tryz.prog 113 #[.slice A s.size c, .int .i64 (i : Int)] w fun e w' => e = .returned (.agg #[.int .i64 (i : Int), .int .i32 (decR s (i : Int)), .int .i64 (decN s (i : Int)), .bool (decG s (i : Int))]) ∧ Below w.heap.size w w' := by
  obtain ⟨ad, rfl, hlt0, hc0⟩ := h i hi
  have hlt : ad.block < w.heap.size := by omega
  have hb0 := bt_lt s i
  have hq := Lib.hid (cont_not h1)
  have H1 := Lib.hid h1
  clear h1
  go_enter Tryz.func113, Tryz.ntmps113
  go_wp2
  refine wp_loop_rounds 1 ?_
  rw [rounds_succ]
  go_wp2_with (first
      | (go_at_call 120; (with_reducible refine (cont_no s (some ad) c (i + 1) _ (by omega) (by omega) H1.out _ (B := B) (by (repeat (first | (with_reducible assumption) | (with_reducible refine Rd.setCell ?_ (by first | omega | (simp <;> omega)) _) | (with_reducible refine Rd.alloc ?_ (by first | omega | (simp <;> omega)) _) | (with_reducible refine Rd.drew ?_) | (with_reducible refine Rd.drewN ?_ _) | (with_reducible refine Rd.below ?_ (by with_reducible assumption)))))).mono ?_); rintro e w1 ⟨rfl, rfl⟩))
  all_goals have hq := hq.out
  all_goals (rw [row_bad hi (dec3_bad (by omega) (by omega) (by omega) (by omega))]; refine bodyPost_ret (v := .agg #[.int .i64 ↑i, .int .i32 65533, .int .i64 1, .bool false]) (by simp [results, Tryz.results113, go_sem, *]) rfl ⟨rfl, (by (exact bl))⟩)

set_option maxRecDepth 100000 in
set_option maxHeartbeats 1000000 in
theorem rDecode_four_2 (s : ByteArray) (A : Option Addr) (c : Nat) (i : Nat) (hi : i < s.size) (hs : s.size ≤ 140737488351232) (hcap : s.size ≤ c) (w : World) {B : Nat} (hB : B ≤ w.heap.size) (h : Rd w B A s.size (fun j => .int .u8 (bt s j : Int))) (h0 : bt s i / 8 = 30) (h1 : contB s (i + 1) = true) (h2 : contB s (i + 2) = false) : Calls Tryz.prog 113 #[.slice A s.size c, .int .i64 (i : Int)] w fun e w' => e = .returned (.agg #[.int .i64 (i : Int), .int .i32 (decR s (i : Int)), .int .i64 (decN s (i : Int)), .bool (decG s (i : Int))]) ∧ Below w.heap.size w w' := by
  obtain ⟨ad, rfl, hlt0, hc0⟩ := h i hi
  have hlt : ad.block < w.heap.size := by omega
  have hb0 := bt_lt s i
  obtain ⟨hx1, hy1, hz1⟩ := cont_is h1
  have hc1 := cell_off (h.at_ rfl hx1) (by omega)
  have H1 := Lib.hid h1
  clear h1
  have hq := Lib.hid (cont_not h2)
  have H2 := Lib.hid h2
  clear h2
  go_enter Tryz.func113, Tryz.ntmps113
  go_wp2
  refine wp_loop_rounds 2 ?_
  rw [rounds_succ]
  go_wp2_with (first
      | (go_at_call 120; (with_reducible refine (cont_yes s (some ad) c (i + 1) _ (by omega) (by omega) H1.out _ (B := B) (by (repeat (first | (with_reducible assumption) | (with_reducible refine Rd.setCell ?_ (by first | omega | (simp <;> omega)) _) | (with_reducible refine Rd.alloc ?_ (by first | omega | (simp <;> omega)) _) | (with_reducible refine Rd.drew ?_) | (with_reducible refine Rd.drewN ?_ _) | (with_reducible refine Rd.below ?_ (by with_reducible assumption)))))).mono ?_); rintro e w1 ⟨rfl, rfl⟩)
      | (go_at_call 120; (with_reducible refine (cont_no s (some ad) c (i + 2) _ (by omega) (by omega) H2.out _ (B := B) (by (repeat (first | (with_reducible assumption) | (with_reducible refine Rd.setCell ?_ (by first | omega | (simp <;> omega)) _) | (with_reducible refine Rd.alloc ?_ (by first | omega | (simp <;> omega)) _) | (with_reducible refine Rd.drew ?_) | (with_reducible refine Rd.drewN ?_ _) | (with_reducible refine Rd.below ?_ (by with_reducible assumption)))))).mono ?_); rintro e w2 ⟨rfl, rfl⟩))
  all_goals (try rw [rounds_succ])
  all_goals (go_wp2_with (first
      | (go_at_call 120; (with_reducible refine (cont_yes s (some ad) c (i + 1) _ (by omega) (by omega) H1.out _ (B := B) (by (repeat (first | (with_reducible assumption) | (with_reducible refine Rd.setCell ?_ (by first | omega | (simp <;> omega)) _) | (with_reducible refine Rd.alloc ?_ (by first | omega | (simp <;> omega)) _) | (with_reducible refine Rd.drew ?_) | (with_reducible refine Rd.drewN ?_ _) | (with_reducible refine Rd.below ?_ (by with_reducible assumption)))))).mono ?_); rintro e w1 ⟨rfl, rfl⟩)
      | (go_at_call 120; (with_reducible refine (cont_no s (some ad) c (i + 2) _ (by omega) (by omega) H2.out _ (B := B) (by (repeat (first | (with_reducible assumption) | (with_reducible refine Rd.setCell ?_ (by first | omega | (simp <;> omega)) _) | (with_reducible refine Rd.alloc ?_ (by first | omega | (simp <;> omega)) _) | (with_reducible refine Rd.drew ?_) | (with_reducible refine Rd.drewN ?_ _) | (with_reducible refine Rd.below ?_ (by with_reducible assumption)))))).mono ?_); rintro e w2 ⟨rfl, rfl⟩)))
  all_goals have hq := hq.out
  all_goals (rw [row_bad hi (dec3_bad (by omega) (by omega) (by omega) (by omega))]; refine bodyPost_ret (v := .agg #[.int .i64 ↑i, .int .i32 65533, .int .i64 1, .bool false]) (by simp [results, Tryz.results113, go_sem, *]) rfl ⟨rfl, (by (exact bl))⟩)

set_option maxRecDepth 100000 in
set_option maxHeartbeats 1000000 in
theorem rDecode_four_3 (s : ByteArray) (A : Option Addr) (c : Nat) (i : Nat) (hi : i < s.size) (hs : s.size ≤ 140737488351232) (hcap : s.size ≤ c) (w : World) {B : Nat} (hB : B ≤ w.heap.size) (h : Rd w B A s.size (fun j => .int .u8 (bt s j : Int))) (h0 : bt s i / 8 = 30) (h1 : contB s (i + 1) = true) (h2 : contB s (i + 2) = true) (h3 : contB s (i + 3) = false) : Calls Tryz.prog 113 #[.slice A s.size c, .int .i64 (i : Int)] w fun e w' => e = .returned (.agg #[.int .i64 (i : Int), .int .i32 (decR s (i : Int)), .int .i64 (decN s (i : Int)), .bool (decG s (i : Int))]) ∧ Below w.heap.size w w' := by
  obtain ⟨ad, rfl, hlt0, hc0⟩ := h i hi
  have hlt : ad.block < w.heap.size := by omega
  have hb0 := bt_lt s i
  obtain ⟨hx1, hy1, hz1⟩ := cont_is h1
  have hc1 := cell_off (h.at_ rfl hx1) (by omega)
  have H1 := Lib.hid h1
  clear h1
  obtain ⟨hx2, hy2, hz2⟩ := cont_is h2
  have hc2 := cell_off (h.at_ rfl hx2) (by omega)
  have H2 := Lib.hid h2
  clear h2
  have hq := Lib.hid (cont_not h3)
  have H3 := Lib.hid h3
  clear h3
  go_enter Tryz.func113, Tryz.ntmps113
  go_wp2
  refine wp_loop_rounds 3 ?_
  rw [rounds_succ]
  go_wp2_with (first
      | (go_at_call 120; (with_reducible refine (cont_yes s (some ad) c (i + 1) _ (by omega) (by omega) H1.out _ (B := B) (by (repeat (first | (with_reducible assumption) | (with_reducible refine Rd.setCell ?_ (by first | omega | (simp <;> omega)) _) | (with_reducible refine Rd.alloc ?_ (by first | omega | (simp <;> omega)) _) | (with_reducible refine Rd.drew ?_) | (with_reducible refine Rd.drewN ?_ _) | (with_reducible refine Rd.below ?_ (by with_reducible assumption)))))).mono ?_); rintro e w1 ⟨rfl, rfl⟩)
      | (go_at_call 120; (with_reducible refine (cont_yes s (some ad) c (i + 2) _ (by omega) (by omega) H2.out _ (B := B) (by (repeat (first | (with_reducible assumption) | (with_reducible refine Rd.setCell ?_ (by first | omega | (simp <;> omega)) _) | (with_reducible refine Rd.alloc ?_ (by first | omega | (simp <;> omega)) _) | (with_reducible refine Rd.drew ?_) | (with_reducible refine Rd.drewN ?_ _) | (with_reducible refine Rd.below ?_ (by with_reducible assumption)))))).mono ?_); rintro e w2 ⟨rfl, rfl⟩)
      | (go_at_call 120; (with_reducible refine (cont_no s (some ad) c (i + 3) _ (by omega) (by omega) H3.out _ (B := B) (by (repeat (first | (with_reducible assumption) | (with_reducible refine Rd.setCell ?_ (by first | omega | (simp <;> omega)) _) | (with_reducible refine Rd.alloc ?_ (by first | omega | (simp <;> omega)) _) | (with_reducible refine Rd.drew ?_) | (with_reducible refine Rd.drewN ?_ _) | (with_reducible refine Rd.below ?_ (by with_reducible assumption)))))).mono ?_); rintro e w3 ⟨rfl, rfl⟩))
  all_goals (try rw [rounds_succ])
  all_goals (go_wp2_with (first
      | (go_at_call 120; (with_reducible refine (cont_yes s (some ad) c (i + 1) _ (by omega) (by omega) H1.out _ (B := B) (by (repeat (first | (with_reducible assumption) | (with_reducible refine Rd.setCell ?_ (by first | omega | (simp <;> omega)) _) | (with_reducible refine Rd.alloc ?_ (by first | omega | (simp <;> omega)) _) | (with_reducible refine Rd.drew ?_) | (with_reducible refine Rd.drewN ?_ _) | (with_reducible refine Rd.below ?_ (by with_reducible assumption)))))).mono ?_); rintro e w1 ⟨rfl, rfl⟩)
      | (go_at_call 120; (with_reducible refine (cont_yes s (some ad) c (i + 2) _ (by omega) (by omega) H2.out _ (B := B) (by (repeat (first | (with_reducible assumption) | (with_reducible refine Rd.setCell ?_ (by first | omega | (simp <;> omega)) _) | (with_reducible refine Rd.alloc ?_ (by first | omega | (simp <;> omega)) _) | (with_reducible refine Rd.drew ?_) | (with_reducible refine Rd.drewN ?_ _) | (with_reducible refine Rd.below ?_ (by with_reducible assumption)))))).mono ?_); rintro e w2 ⟨rfl, rfl⟩)
      | (go_at_call 120; (with_reducible refine (cont_no s (some ad) c (i + 3) _ (by omega) (by omega) H3.out _ (B := B) (by (repeat (first | (with_reducible assumption) | (with_reducible refine Rd.setCell ?_ (by first | omega | (simp <;> omega)) _) | (with_reducible refine Rd.alloc ?_ (by first | omega | (simp <;> omega)) _) | (with_reducible refine Rd.drew ?_) | (with_reducible refine Rd.drewN ?_ _) | (with_reducible refine Rd.below ?_ (by with_reducible assumption)))))).mono ?_); rintro e w3 ⟨rfl, rfl⟩)))
  all_goals (try rw [rounds_succ])
  all_goals (go_wp2_with (first
      | (go_at_call 120; (with_reducible refine (cont_yes s (some ad) c (i + 1) _ (by omega) (by omega) H1.out _ (B := B) (by (repeat (first | (with_reducible assumption) | (with_reducible refine Rd.setCell ?_ (by first | omega | (simp <;> omega)) _) | (with_reducible refine Rd.alloc ?_ (by first | omega | (simp <;> omega)) _) | (with_reducible refine Rd.drew ?_) | (with_reducible refine Rd.drewN ?_ _) | (with_reducible refine Rd.below ?_ (by with_reducible assumption)))))).mono ?_); rintro e w1 ⟨rfl, rfl⟩)
      | (go_at_call 120; (with_reducible refine (cont_yes s (some ad) c (i + 2) _ (by omega) (by omega) H2.out _ (B := B) (by (repeat (first | (with_reducible assumption) | (with_reducible refine Rd.setCell ?_ (by first | omega | (simp <;> omega)) _) | (with_reducible refine Rd.alloc ?_ (by first | omega | (simp <;> omega)) _) | (with_reducible refine Rd.drew ?_) | (with_reducible refine Rd.drewN ?_ _) | (with_reducible refine Rd.below ?_ (by with_reducible assumption)))))).mono ?_); rintro e w2 ⟨rfl, rfl⟩)
      | (go_at_call 120; (with_reducible refine (cont_no s (some ad) c (i + 3) _ (by omega) (by omega) H3.out _ (B := B) (by (repeat (first | (with_reducible assumption) | (with_reducible refine Rd.setCell ?_ (by first | omega | (simp <;> omega)) _) | (with_reducible refine Rd.alloc ?_ (by first | omega | (simp <;> omega)) _) | (with_reducible refine Rd.drew ?_) | (with_reducible refine Rd.drewN ?_ _) | (with_reducible refine Rd.below ?_ (by with_reducible assumption)))))).mono ?_); rintro e w3 ⟨rfl, rfl⟩)))
  all_goals have hq := hq.out
  all_goals (rw [row_bad hi (dec3_bad (by omega) (by omega) (by omega) (by omega))]; refine bodyPost_ret (v := .agg #[.int .i64 ↑i, .int .i32 65533, .int .i64 1, .bool false]) (by simp [results, Tryz.results113, go_sem, *]) rfl ⟨rfl, (by (exact bl))⟩)

set_option maxRecDepth 100000 in
set_option maxHeartbeats 1000000 in
theorem rDecode_four_all (s : ByteArray) (A : Option Addr) (c : Nat) (i : Nat) (hi : i < s.size) (hs : s.size ≤ 140737488351232) (hcap : s.size ≤ c) (w : World) {B : Nat} (hB : B ≤ w.heap.size) (h : Rd w B A s.size (fun j => .int .u8 (bt s j : Int))) (h0 : bt s i / 8 = 30) (h1 : contB s (i + 1) = true) (h2 : contB s (i + 2) = true) (h3 : contB s (i + 3) = true) : Calls Tryz.prog 113 #[.slice A s.size c, .int .i64 (i : Int)] w fun e w' => e = .returned (.agg #[.int .i64 (i : Int), .int .i32 (decR s (i : Int)), .int .i64 (decN s (i : Int)), .bool (decG s (i : Int))]) ∧ Below w.heap.size w w' := by
  obtain ⟨ad, rfl, hlt0, hc0⟩ := h i hi
  have hlt : ad.block < w.heap.size := by omega
  have hb0 := bt_lt s i
  obtain ⟨hx1, hy1, hz1⟩ := cont_is h1
  have hc1 := cell_off (h.at_ rfl hx1) (by omega)
  have H1 := Lib.hid h1
  clear h1
  obtain ⟨hx2, hy2, hz2⟩ := cont_is h2
  have hc2 := cell_off (h.at_ rfl hx2) (by omega)
  have H2 := Lib.hid h2
  clear h2
  obtain ⟨hx3, hy3, hz3⟩ := cont_is h3
  have hc3 := cell_off (h.at_ rfl hx3) (by omega)
  have H3 := Lib.hid h3
  clear h3
  go_enter Tryz.func113, Tryz.ntmps113
  go_wp2
  refine wp_loop_rounds 4 ?_
  rw [rounds_succ]
  go_wp2_with (first
      | (go_at_call 120; (with_reducible refine (cont_yes s (some ad) c (i + 1) _ (by omega) (by omega) H1.out _ (B := B) (by (repeat (first | (with_reducible assumption) | (with_reducible refine Rd.setCell ?_ (by first | omega | (simp <;> omega)) _) | (with_reducible refine Rd.alloc ?_ (by first | omega | (simp <;> omega)) _) | (with_reducible refine Rd.drew ?_) | (with_reducible refine Rd.drewN ?_ _) | (with_reducible refine Rd.below ?_ (by with_reducible assumption)))))).mono ?_); rintro e w1 ⟨rfl, rfl⟩)
      | (go_at_call 120; (with_reducible refine (cont_yes s (some ad) c (i + 2) _ (by omega) (by omega) H2.out _ (B := B) (by (repeat (first | (with_reducible assumption) | (with_reducible refine Rd.setCell ?_ (by first | omega | (simp <;> omega)) _) | (with_reducible refine Rd.alloc ?_ (by first | omega | (simp <;> omega)) _) | (with_reducible refine Rd.drew ?_) | (with_reducible refine Rd.drewN ?_ _) | (with_reducible refine Rd.below ?_ (by with_reducible assumption)))))).mono ?_); rintro e w2 ⟨rfl, rfl⟩)
      | (go_at_call 120; (with_reducible refine (cont_yes s (some ad) c (i + 3) _ (by omega) (by omega) H3.out _ (B := B) (by (repeat (first | (with_reducible assumption) | (with_reducible refine Rd.setCell ?_ (by first | omega | (simp <;> omega)) _) | (with_reducible refine Rd.alloc ?_ (by first | omega | (simp <;> omega)) _) | (with_reducible refine Rd.drew ?_) | (with_reducible refine Rd.drewN ?_ _) | (with_reducible refine Rd.below ?_ (by with_reducible assumption)))))).mono ?_); rintro e w3 ⟨rfl, rfl⟩))
  all_goals (try rw [rounds_succ])
  all_goals (go_wp2_with (first
      | (go_at_call 120; (with_reducible refine (cont_yes s (some ad) c (i + 1) _ (by omega) (by omega) H1.out _ (B := B) (by (repeat (first | (with_reducible assumption) | (with_reducible refine Rd.setCell ?_ (by first | omega | (simp <;> omega)) _) | (with_reducible refine Rd.alloc ?_ (by first | omega | (simp <;> omega)) _) | (with_reducible refine Rd.drew ?_) | (with_reducible refine Rd.drewN ?_ _) | (with_reducible refine Rd.below ?_ (by with_reducible assumption)))))).mono ?_); rintro e w1 ⟨rfl, rfl⟩)
      | (go_at_call 120; (with_reducible refine (cont_yes s (some ad) c (i + 2) _ (by omega) (by omega) H2.out _ (B := B) (by (repeat (first | (with_reducible assumption) | (with_reducible refine Rd.setCell ?_ (by first | omega | (simp <;> omega)) _) | (with_reducible refine Rd.alloc ?_ (by first | omega | (simp <;> omega)) _) | (with_reducible refine Rd.drew ?_) | (with_reducible refine Rd.drewN ?_ _) | (with_reducible refine Rd.below ?_ (by with_reducible assumption)))))).mono ?_); rintro e w2 ⟨rfl, rfl⟩)
      | (go_at_call 120; (with_reducible refine (cont_yes s (some ad) c (i + 3) _ (by omega) (by omega) H3.out _ (B := B) (by (repeat (first | (with_reducible assumption) | (with_reducible refine Rd.setCell ?_ (by first | omega | (simp <;> omega)) _) | (with_reducible refine Rd.alloc ?_ (by first | omega | (simp <;> omega)) _) | (with_reducible refine Rd.drew ?_) | (with_reducible refine Rd.drewN ?_ _) | (with_reducible refine Rd.below ?_ (by with_reducible assumption)))))).mono ?_); rintro e w3 ⟨rfl, rfl⟩)))
  all_goals (try rw [rounds_succ])
  all_goals (go_wp2_with (first
      | (go_at_call 120; (with_reducible refine (cont_yes s (some ad) c (i + 1) _ (by omega) (by omega) H1.out _ (B := B) (by (repeat (first | (with_reducible assumption) | (with_reducible refine Rd.setCell ?_ (by first | omega | (simp <;> omega)) _) | (with_reducible refine Rd.alloc ?_ (by first | omega | (simp <;> omega)) _) | (with_reducible refine Rd.drew ?_) | (with_reducible refine Rd.drewN ?_ _) | (with_reducible refine Rd.below ?_ (by with_reducible assumption)))))).mono ?_); rintro e w1 ⟨rfl, rfl⟩)
      | (go_at_call 120; (with_reducible refine (cont_yes s (some ad) c (i + 2) _ (by omega) (by omega) H2.out _ (B := B) (by (repeat (first | (with_reducible assumption) | (with_reducible refine Rd.setCell ?_ (by first | omega | (simp <;> omega)) _) | (with_reducible refine Rd.alloc ?_ (by first | omega | (simp <;> omega)) _) | (with_reducible refine Rd.drew ?_) | (with_reducible refine Rd.drewN ?_ _) | (with_reducible refine Rd.below ?_ (by with_reducible assumption)))))).mono ?_); rintro e w2 ⟨rfl, rfl⟩)
      | (go_at_call 120; (with_reducible refine (cont_yes s (some ad) c (i + 3) _ (by omega) (by omega) H3.out _ (B := B) (by (repeat (first | (with_reducible assumption) | (with_reducible refine Rd.setCell ?_ (by first | omega | (simp <;> omega)) _) | (with_reducible refine Rd.alloc ?_ (by first | omega | (simp <;> omega)) _) | (with_reducible refine Rd.drew ?_) | (with_reducible refine Rd.drewN ?_ _) | (with_reducible refine Rd.below ?_ (by with_reducible assumption)))))).mono ?_); rintro e w3 ⟨rfl, rfl⟩)))
  all_goals (try rw [rounds_succ])
  all_goals (go_wp2_with (first
      | (go_at_call 120; (with_reducible refine (cont_yes s (some ad) c (i + 1) _ (by omega) (by omega) H1.out _ (B := B) (by (repeat (first | (with_reducible assumption) | (with_reducible refine Rd.setCell ?_ (by first | omega | (simp <;> omega)) _) | (with_reducible refine Rd.alloc ?_ (by first | omega | (simp <;> omega)) _) | (with_reducible refine Rd.drew ?_) | (with_reducible refine Rd.drewN ?_ _) | (with_reducible refine Rd.below ?_ (by with_reducible assumption)))))).mono ?_); rintro e w1 ⟨rfl, rfl⟩)
      | (go_at_call 120; (with_reducible refine (cont_yes s (some ad) c (i + 2) _ (by omega) (by omega) H2.out _ (B := B) (by (repeat (first | (with_reducible assumption) | (with_reducible refine Rd.setCell ?_ (by first | omega | (simp <;> omega)) _) | (with_reducible refine Rd.alloc ?_ (by first | omega | (simp <;> omega)) _) | (with_reducible refine Rd.drew ?_) | (with_reducible refine Rd.drewN ?_ _) | (with_reducible refine Rd.below ?_ (by with_reducible assumption)))))).mono ?_); rintro e w2 ⟨rfl, rfl⟩)
      | (go_at_call 120; (with_reducible refine (cont_yes s (some ad) c (i + 3) _ (by omega) (by omega) H3.out _ (B := B) (by (repeat (first | (with_reducible assumption) | (with_reducible refine Rd.setCell ?_ (by first | omega | (simp <;> omega)) _) | (with_reducible refine Rd.alloc ?_ (by first | omega | (simp <;> omega)) _) | (with_reducible refine Rd.drew ?_) | (with_reducible refine Rd.drewN ?_ _) | (with_reducible refine Rd.below ?_ (by with_reducible assumption)))))).mono ?_); rintro e w3 ⟨rfl, rfl⟩)))
  all_goals first
    | (rw [row_good hi (r := ((((bt s i : Int) - 240) * 64 + (bt s (i + 1) : Int) - 128) * 64 + (bt s (i + 2) : Int) - 128) * 64 + (bt s (i + 3) : Int) - 128) (n := 4) (dec3_four (by omega) (by omega) (by omega) (by omega) (by omega) (by omega) (by omega)) (by omega) rfl]; refine bodyPost_ret (v := .agg #[.int .i64 ↑i, .int .i32 (((((bt s i : Int) - 240) * 64 + (bt s (i + 1) : Int) - 128) * 64 + (bt s (i + 2) : Int) - 128) * 64 + (bt s (i + 3) : Int) - 128), .int .i64 4, .bool true]) (by simp [results, Tryz.results113, go_sem, *]) rfl ⟨rfl, (by (exact bl))⟩)
    | (rw [row_bad hi (dec3_bad (by omega) (by omega) (by omega) (by omega))]; refine bodyPost_ret (v := .agg #[.int .i64 ↑i, .int .i32 65533, .int .i64 1, .bool false]) (by simp [results, Tryz.results113, go_sem, *]) rfl ⟨rfl, (by (exact bl))⟩)

set_option maxRecDepth 100000 in
set_option maxHeartbeats 1000000 in
theorem rDecode_none_none (s : ByteArray) (A : Option Addr) (c : Nat) (i : Nat) (hi : i < s.size) (hs : s.size ≤ 140737488351232) (hcap : s.size ≤ c) (w : World) {B : Nat} (hB : B ≤ w.heap.size) (h : Rd w B A s.size (fun j => .int .u8 (bt s j : Int))) (h0 : 128 ≤ bt s i ∧ bt s i / 32 ≠ 6 ∧ bt s i / 16 ≠ 14 ∧ bt s i / 8 ≠ 30) : Calls Tryz.prog 113 #[.slice A s.size c, .int .i64 (i : Int)] w fun e w' => e = .returned (.agg #[.int .i64 (i : Int), .int .i32 (decR s (i : Int)), .int .i64 (decN s (i : Int)), .bool (decG s (i : Int))]) ∧ Below w.heap.size w w' := by
  obtain ⟨ad, rfl, hlt0, hc0⟩ := h i hi
  have hlt : ad.block < w.heap.size := by omega
  have hb0 := bt_lt s i
  go_enter Tryz.func113, Tryz.ntmps113
  go_wp2
  all_goals (rw [row_bad hi (dec3_bad (by omega) (by omega) (by omega) (by omega))]; refine bodyPost_ret (v := .agg #[.int .i64 ↑i, .int .i32 65533, .int .i64 1, .bool false]) (by simp [results, Tryz.results113, go_sem, *]) rfl ⟨rfl, (by (exact bl))⟩)

theorem rDecode_any (s : ByteArray) (A : Option Addr) (c : Nat) (i : Int) (hs : s.size ≤ 140737488351232) (hcap : s.size ≤ c) (w : World) {B : Nat} (hB : B ≤ w.heap.size) (h : Rd w B A s.size (fun j => .int .u8 (bt s j : Int))) : Calls Tryz.prog 113 #[.slice A s.size c, .int .i64 i] w fun e w' => e = .returned (.agg #[.int .i64 i, .int .i32 (decR s i), .int .i64 (decN s i), .bool (decG s i)]) ∧ Below w.heap.size w w' := by
  by_cases hi : 0 ≤ i ∧ i < s.size
  · obtain ⟨k, rfl⟩ := Int.eq_ofNat_of_zero_le hi.1
    have hk : k < s.size := by omega
    have hb := bt_lt s k
    rcases (by omega : bt s k < 128 ∨ bt s k / 32 = 6 ∨ bt s k / 16 = 14 ∨ bt s k / 8 = 30 ∨ (128 ≤ bt s k ∧ bt s k / 32 ≠ 6 ∧ bt s k / 16 ≠ 14 ∧ bt s k / 8 ≠ 30)) with h0 | h0 | h0 | h0 | h0
    · exact rDecode_one_all s A c k hk hs hcap w hB h h0
    · cases h1 : contB s (k + 1)
      · exact rDecode_two_1 s A c k hk hs hcap w hB h h0 h1
      · exact rDecode_two_all s A c k hk hs hcap w hB h h0 h1
    · cases h1 : contB s (k + 1)
      · exact rDecode_three_1 s A c k hk hs hcap w hB h h0 h1
      · cases h2 : contB s (k + 2)
        · exact rDecode_three_2 s A c k hk hs hcap w hB h h0 h1 h2
        · exact rDecode_three_all s A c k hk hs hcap w hB h h0 h1 h2
    · cases h1 : contB s (k + 1)
      · exact rDecode_four_1 s A c k hk hs hcap w hB h h0 h1
      · cases h2 : contB s (k + 2)
        · exact rDecode_four_2 s A c k hk hs hcap w hB h h0 h1 h2
        · cases h3 : contB s (k + 3)
          · exact rDecode_four_3 s A c k hk hs hcap w hB h h0 h1 h2 h3
          · exact rDecode_four_all s A c k hk hs hcap w hB h h0 h1 h2 h3
    · exact rDecode_none_none s A c k hk hs hcap w hB h h0
  · exact rDecode_out s A c i (by omega) w
theorem rDecode_in (s : ByteArray) (A : Option Addr) (c : Nat) (i : Nat) (hi : i < s.size) (hs : s.size ≤ 140737488351232) (hcap : s.size ≤ c) (w : World) {B : Nat} (hB : B ≤ w.heap.size) (h : Rd w B A s.size (byteC s)) :
    Calls Tryz.prog 113 #[.slice A s.size c, .int .i64 i] w fun e w' => e = .returned (.agg #[.int .i64 i, .int .i32 (rn s i : Int), .int .i64 (wd s i : Int), .bool (gd s i)]) ∧ Below w.heap.size w w' := by
  have := rDecode_any s A c i hs hcap w hB h
  rwa [decR_in hi, decN_in hi, decG_in hi] at this

end Go.Proofs.YtpkdhciokiomlaaGreatDoor
