/- The walks of chapter 14's small functions, of the program and of the reference. -/
import Derived.Test.YtkfpomkfgdkjdaaDoorAr
import Derived.Test.YtkfpomkfgdkjdaaDoorProg
import Derived.WalkKit
import Derived.WalkSpells
import Derived.WalkLawsBesides
import Derived.Outline
namespace Go.Proofs.YtkfpomkfgdkjdaaDoor
set_option linter.unusedVariables false
set_option linter.unusedSimpArgs false
open Go.RowKit

set_option maxHeartbeats 400000 in
theorem truth_any (b : Bool) (w : World) :
    Calls Tryd.prog 27 #[.bool b] w fun e w' => e = .returned (.agg #[.int .i64 2, .int .i64 (b2i b), .string ⟨#[]⟩]) ∧ Below w.heap.size w w' := by
  cases b <;>
  · go_enter Tryd.func27, Tryd.ntmps27
    go_wp2
    exact bodyPost_ret (v := .agg #[.int .i64 2, .int .i64 _, .string ⟨#[]⟩]) (by simp [b2i, results, Tryd.results27, go_sem]) rfl ⟨rfl, (Below.refl _ _).alloc (Nat.le_refl _) _⟩

set_option maxHeartbeats 400000 in
theorem number_any (n : Int) (w : World) :
    Calls Tryd.prog 29 #[.int .i64 n] w fun e w' => e = .returned (.agg #[.int .i64 3, .int .i64 n, .string ⟨#[]⟩]) ∧ Below w.heap.size w w' := by
  go_enter Tryd.func29, Tryd.ntmps29
  go_wp2
  exact bodyPost_ret (v := .agg #[.int .i64 3, .int .i64 n, .string ⟨#[]⟩]) (by simp [results, Tryd.results29, go_sem]) rfl ⟨rfl, (Below.refl _ _).alloc (Nat.le_refl _) _⟩

set_option maxHeartbeats 400000 in
theorem throws_any (s : ByteArray) (w : World) :
    Calls Tryd.prog 28 #[.string s] w fun e w' => e = .returned (.tuple #[.agg #[.int .i64 0, .int .i64 0, .string ⟨#[]⟩], .string s, .int .i64 1]) ∧ Below w.heap.size w w' := by
  go_enter Tryd.func28, Tryd.ntmps28
  go_wp2
  exact bodyPost_ret (v := .tuple #[.agg #[.int .i64 0, .int .i64 0, .string ⟨#[]⟩], .string s, .int .i64 1]) (by simp [results, Tryd.results28, go_sem]) rfl ⟨rfl, (by (repeat (first | (with_reducible exact Below.refl _ _) | (with_reducible assumption) | (with_reducible refine Below.setCell ?_ (by first | omega | (simp <;> omega)) _) | (with_reducible refine Below.alloc ?_ (by first | omega | (simp <;> omega)) _) | (with_reducible refine Below.drew ?_) | (with_reducible refine below_drewN ?_ _) | (with_reducible refine Below.trans ?_ (Below.mono (by with_reducible assumption) (by first | omega | (simp <;> omega)))))))⟩

set_option maxHeartbeats 400000 in
theorem done_any (k n : Int) (s : ByteArray) (w : World) :
    Calls Tryd.prog 26 #[.agg #[.int .i64 k, .int .i64 n, .string s]] w fun e w' => e = .returned (.tuple #[.agg #[.int .i64 k, .int .i64 n, .string s], .string ⟨#[]⟩, .int .i64 0]) ∧ Below w.heap.size w w' := by
  go_enter Tryd.func26, Tryd.ntmps26
  go_wp2
  exact bodyPost_ret (v := .tuple #[.agg #[.int .i64 k, .int .i64 n, .string s], .string ⟨#[]⟩, .int .i64 0]) (by simp [results, Tryd.results26, go_sem]) rfl ⟨rfl, (by (repeat (first | (with_reducible exact Below.refl _ _) | (with_reducible assumption) | (with_reducible refine Below.setCell ?_ (by first | omega | (simp <;> omega)) _) | (with_reducible refine Below.alloc ?_ (by first | omega | (simp <;> omega)) _) | (with_reducible refine Below.drew ?_) | (with_reducible refine below_drewN ?_ _) | (with_reducible refine Below.trans ?_ (Below.mono (by with_reducible assumption) (by first | omega | (simp <;> omega)))))))⟩

set_option maxHeartbeats 400000 in
theorem plain_any (k n : Int) (s : ByteArray) (w : World) :
    Calls Tryd.prog 25 #[.agg #[.int .i64 k, .int .i64 n, .string s]] w fun e w' => e = .returned (.agg #[.int .i64 (sane ⟨k, n, s⟩).k, .int .i64 (sane ⟨k, n, s⟩).n, .string (sane ⟨k, n, s⟩).s]) ∧ Below w.heap.size w w' := by
  go_enter Tryd.func25, Tryd.ntmps25
  go_wp2_with (first
    | (go_at_call 27; refine (truth_any _ _).mono ?_; rintro e wb1 ⟨rfl, b1⟩; have zb1 : w.heap.size + 2 ≤ wb1.heap.size := (by have hzz := Below.size b1; first | omega | (simp at hzz; omega)); replace b1 := Below.mono (B' := w.heap.size + 2) b1 (by first | omega | (simp <;> omega)); obtain ⟨hcb1, hfb1⟩ := bcell b1)
    | (go_at_call 29; refine (number_any _ _).mono ?_; rintro e wb1 ⟨rfl, b1⟩; have zb1 : w.heap.size + 2 ≤ wb1.heap.size := (by have hzz := Below.size b1; first | omega | (simp at hzz; omega)); replace b1 := Below.mono (B' := w.heap.size + 2) b1 (by first | omega | (simp <;> omega)); obtain ⟨hcb1, hfb1⟩ := bcell b1))
  all_goals refine bodyPost_ret (v := .agg #[.int .i64 (sane ⟨k, n, s⟩).k, .int .i64 (sane ⟨k, n, s⟩).n, .string (sane ⟨k, n, s⟩).s]) ?_ rfl ⟨rfl, (by (repeat (first | (with_reducible exact Below.refl _ _) | (with_reducible assumption) | (with_reducible refine Below.setCell ?_ (by first | omega | (simp <;> omega)) _) | (with_reducible refine Below.alloc ?_ (by first | omega | (simp <;> omega)) _) | (with_reducible refine Below.drew ?_) | (with_reducible refine below_drewN ?_ _) | (with_reducible refine Below.trans ?_ (Below.mono (by with_reducible assumption) (by first | omega | (simp <;> omega)))))))⟩
  all_goals simp [results, Tryd.results25, go_sem, *]
  all_goals simp_all [sane, vb, vn, vs, vu, clamp, big, b2i]
  all_goals omega

set_option maxHeartbeats 400000 in
theorem exact_any (n : Int) (ok : Bool) (w : World) :
    Calls Tryd.prog 37 #[.int .i64 n, .bool ok] w fun e w' => e = .returned (.tuple #[.agg #[.int .i64 (exactO n ok).v.k, .int .i64 (exactO n ok).v.n, .string (exactO n ok).v.s], .string (exactO n ok).t, .int .i64 (exactO n ok).f]) ∧ Below w.heap.size w w' := by
  cases ok <;>
  · go_enter Tryd.func37, Tryd.ntmps37
    go_wp2_with (first
      | (go_at_call 26; refine (done_any _ _ _ _).mono ?_; rintro e wb2 ⟨rfl, b2⟩; have zb2 : w.heap.size + 1 ≤ wb2.heap.size := (by have hzz := Below.size b2; first | omega | (simp at hzz; omega)); replace b2 := Below.mono (B' := w.heap.size + 1) b2 (by first | omega | (simp <;> omega)); obtain ⟨hcb2, hfb2⟩ := bcell b2)
      | (go_at_call 29; refine (number_any _ _).mono ?_; rintro e wb1 ⟨rfl, b1⟩; have zb1 : w.heap.size + 1 ≤ wb1.heap.size := (by have hzz := Below.size b1; first | omega | (simp at hzz; omega)); replace b1 := Below.mono (B' := w.heap.size + 1) b1 (by first | omega | (simp <;> omega)); obtain ⟨hcb1, hfb1⟩ := bcell b1))
    all_goals refine bodyPost_ret (v := .tuple #[.agg #[.int .i64 (exactO n _).v.k, .int .i64 (exactO n _).v.n, .string (exactO n _).v.s], .string (exactO n _).t, .int .i64 (exactO n _).f]) ?_ rfl ⟨rfl, (by (repeat (first | (with_reducible exact Below.refl _ _) | (with_reducible assumption) | (with_reducible refine Below.setCell ?_ (by first | omega | (simp <;> omega)) _) | (with_reducible refine Below.alloc ?_ (by first | omega | (simp <;> omega)) _) | (with_reducible refine Below.drew ?_) | (with_reducible refine below_drewN ?_ _) | (with_reducible refine Below.trans ?_ (Below.mono (by with_reducible assumption) (by first | omega | (simp <;> omega)))))))⟩
    all_goals simp [results, Tryd.results37, go_sem, *]
    all_goals first
      | (rw [exactO_out (by first | (left; rfl) | (right; omega))]; simp [vu]; done)
      | (rw [exactO_in rfl (by omega) (by omega)]; simp [done, vn])


set_option maxHeartbeats 400000 in
theorem low_any (n : Int) (w : World) :
    Calls Tryd.prog 30 #[.int .i64 n] w fun e w' => e = .returned (.int .i64 (s32 n)) ∧ w' = w := by
  go_enter Tryd.func30, Tryd.ntmps30
  go_wp2
  go_ret
  exact ⟨by simp [low_form], rfl⟩
set_option maxHeartbeats 400000 in
theorem sub_any (a b : Int) (w : World) (ha : -9007199254740991 ≤ a ∧ a ≤ 9007199254740991) (hb : -9007199254740991 ≤ b ∧ b ≤ 9007199254740991) : Calls Tryd.prog 51 #[.int .i64 a, .int .i64 b] w fun e w' => e = .returned (.int .i64 (a - b)) ∧ w' = w := by
  go_enter Tryd.func51, Tryd.ntmps51
  go_wp2
  go_ret
  exact ⟨rfl, rfl⟩
set_option maxHeartbeats 400000 in
theorem rem_any (a b : Int) (w : World) (hb : b ≠ 0) (ha : -9007199254740991 ≤ a ∧ a ≤ 9007199254740991) : Calls Tryd.prog 53 #[.int .i64 a, .int .i64 b] w fun e w' => e = .returned (.tuple #[.int .i64 (a.tmod b), .bool true]) ∧ w' = w := by
  have hz : (b == 0) = false := by simpa using hb
  go_enter Tryd.func53, Tryd.ntmps53
  go_wp2
  go_ret2
  exact ⟨rfl, rfl⟩
set_option maxHeartbeats 400000 in
theorem rem_none (a : Int) (w : World) : Calls Tryd.prog 53 #[.int .i64 a, .int .i64 0] w fun e w' => e = .returned (.tuple #[.int .i64 0, .bool false]) ∧ w' = w := by
  go_enter Tryd.func53, Tryd.ntmps53
  go_wp2
  go_ret2
  exact ⟨rfl, rfl⟩
set_option maxHeartbeats 400000 in
theorem and_any (a b : Int) (w : World) : Calls Tryd.prog 54 #[.int .i64 a, .int .i64 b] w fun e w' => e = .returned (.int .i64 (b32 .and a b)) ∧ w' = w := by
  go_enter Tryd.func54, Tryd.ntmps54
  go_wp2_with (go_at_call 30; refine (low_any _ _).mono ?_; rintro e w1 ⟨rfl, rfl⟩)
  go_ret
  exact ⟨by simp [and_ss], rfl⟩
set_option maxHeartbeats 400000 in
theorem or_any (a b : Int) (w : World) : Calls Tryd.prog 55 #[.int .i64 a, .int .i64 b] w fun e w' => e = .returned (.int .i64 (b32 .or a b)) ∧ w' = w := by
  go_enter Tryd.func55, Tryd.ntmps55
  go_wp2_with (go_at_call 30; refine (low_any _ _).mono ?_; rintro e w1 ⟨rfl, rfl⟩)
  go_ret
  exact ⟨by simp [or_ss], rfl⟩
set_option maxHeartbeats 400000 in
theorem xor_any (a b : Int) (w : World) : Calls Tryd.prog 56 #[.int .i64 a, .int .i64 b] w fun e w' => e = .returned (.int .i64 (b32 .xor a b)) ∧ w' = w := by
  go_enter Tryd.func56, Tryd.ntmps56
  go_wp2_with (go_at_call 30; refine (low_any _ _).mono ?_; rintro e w1 ⟨rfl, rfl⟩)
  go_ret
  exact ⟨by simp [xor_ss], rfl⟩
set_option maxHeartbeats 400000 in
theorem shl32_any (a b : Int) (w : World) : Calls Tryd.prog 57 #[.int .i64 a, .int .i64 b] w fun e w' => e = .returned (.int .i64 (shl32 a (b % 32).toNat)) ∧ w' = w := by
  have hm := mask31 b
  have h0 : 0 ≤ b % 32 := by omega
  have h1 : b % 32 < 32 := by omega
  have hw := wrap_k (b % 32) h0 h1
  go_enter Tryd.func57, Tryd.ntmps57
  go_wp2_with (go_at_call 30; refine (low_any _ _).mono ?_; rintro e w1 ⟨rfl, rfl⟩)
  go_ret
  exact ⟨by simp [shl_fin], rfl⟩
set_option maxHeartbeats 400000 in
theorem shr32_any (a b : Int) (w : World) : Calls Tryd.prog 58 #[.int .i64 a, .int .i64 b] w fun e w' => e = .returned (.int .i64 (shr32 a (b % 32).toNat)) ∧ w' = w := by
  have hm := mask31 b
  have h0 : 0 ≤ b % 32 := by omega
  have h1 : b % 32 < 32 := by omega
  have hw := wrap_k (b % 32) h0 h1
  go_enter Tryd.func58, Tryd.ntmps58
  go_wp2_with (go_at_call 30; refine (low_any _ _).mono ?_; rintro e w1 ⟨rfl, rfl⟩)
  go_ret
  exact ⟨by simp [shr32], rfl⟩
set_option maxHeartbeats 400000 in
theorem ushr32_any (a b : Int) (w : World) : Calls Tryd.prog 59 #[.int .i64 a, .int .i64 b] w fun e w' => e = .returned (.int .i64 (ushr32 a (b % 32).toNat)) ∧ w' = w := by
  have hm := mask31 b
  have h0 : 0 ≤ b % 32 := by omega
  have h1 : b % 32 < 32 := by omega
  have hw := wrap_k (b % 32) h0 h1
  go_enter Tryd.func59, Tryd.ntmps59
  go_wp2_with (go_at_call 30; refine (low_any _ _).mono ?_; rintro e w1 ⟨rfl, rfl⟩)
  go_ret
  exact ⟨by simp [ushr_fin], rfl⟩
set_option maxHeartbeats 400000 in
theorem size_any (a : Int) (w : World) (ha : -9007199254740991 ≤ a ∧ a ≤ 9007199254740991) : Calls Tryd.prog 70 #[.int .i64 a] w fun e w' => e = .returned (.int .u64 (a.natAbs : Int)) ∧ w' = w := by
  go_enter Tryd.func70, Tryd.ntmps70
  go_wp2
  all_goals go_ret
  all_goals exact ⟨by simp [IntKind.wrap, IntKind.bits, IntKind.signed]; omega, rfl⟩
set_option maxHeartbeats 400000 in
theorem olt_any (c : Int) (w : World) : Calls Tryd.prog 60 #[.int .i64 c] w fun e w' => e = .returned (.bool (decide (c < 0))) ∧ w' = w := by
  go_enter Tryd.func60, Tryd.ntmps60
  go_wp2
  go_ret
  exact ⟨rfl, rfl⟩
set_option maxHeartbeats 400000 in
theorem ole_any (c : Int) (w : World) : Calls Tryd.prog 61 #[.int .i64 c] w fun e w' => e = .returned (.bool (decide (c ≤ 0))) ∧ w' = w := by
  go_enter Tryd.func61, Tryd.ntmps61
  go_wp2
  go_ret
  exact ⟨rfl, rfl⟩
set_option maxHeartbeats 400000 in
theorem ogt_any (c : Int) (w : World) : Calls Tryd.prog 62 #[.int .i64 c] w fun e w' => e = .returned (.bool (decide (0 < c))) ∧ w' = w := by
  go_enter Tryd.func62, Tryd.ntmps62
  go_wp2
  go_ret
  exact ⟨rfl, rfl⟩
set_option maxHeartbeats 400000 in
theorem oge_any (c : Int) (w : World) : Calls Tryd.prog 63 #[.int .i64 c] w fun e w' => e = .returned (.bool (decide (0 ≤ c))) ∧ w' = w := by
  go_enter Tryd.func63, Tryd.ntmps63
  go_wp2
  go_ret
  exact ⟨rfl, rfl⟩
end Go.Proofs.YtkfpomkfgdkjdaaDoor
