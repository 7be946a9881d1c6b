/- The walks of chapter 14's tables of operators. -/
import Derived.Test.YtkfpomkfgdkjdaaDoorW3
import Derived.Laws.EntriesVeiled
namespace Go.Proofs.YtkfpomkfgdkjdaaDoor
set_option linter.unusedVariables false
set_option linter.unusedSimpArgs false
open Go.RowKit

set_option maxHeartbeats 400000 in
theorem num_sub (w : World) : Calls Tryd.prog 38 #[.string ⟨#[45]⟩] w fun e w' => e = .returned (.func (.func 50) #[] #[.pointer (some ⟨w.heap.size, 0, none⟩)]) ∧ w'.cell? ⟨w.heap.size, 0, none⟩ = some (.func (.func 51) #[] #[]) ∧ Below w.heap.size w w' := by
  go_enter Tryd.func38, Tryd.ntmps38
  go_wp2
  go_ret
  exact ⟨rfl, by simp, (Below.refl _ _).alloc (Nat.le_refl _) _⟩
set_option maxHeartbeats 400000 in
theorem fine_sub (a b : Int) (w : World) (p : Addr) (hc : w.cell? p = some (.func (.func 51) #[] #[])) (ha : -9007199254740991 ≤ a ∧ a ≤ 9007199254740991) (hb : -9007199254740991 ≤ b ∧ b ≤ 9007199254740991) : Calls Tryd.prog 50 #[.int .i64 a, .int .i64 b, .pointer (some p)] w fun e w' => e = .returned (.tuple #[.int .i64 (a - b), .bool true]) ∧ w' = w := by
  go_enter Tryd.func50, Tryd.ntmps50
  go_wp2_with (go_at_call 51; refine (sub_any _ _ _ ha hb).mono ?_; rintro e w1 ⟨rfl, rfl⟩)
  go_ret2
  exact ⟨rfl, rfl⟩

set_option maxHeartbeats 400000 in
theorem num_and (w : World) : Calls Tryd.prog 38 #[.string ⟨#[38]⟩] w fun e w' => e = .returned (.func (.func 50) #[] #[.pointer (some ⟨w.heap.size, 0, none⟩)]) ∧ w'.cell? ⟨w.heap.size, 0, none⟩ = some (.func (.func 54) #[] #[]) ∧ Below w.heap.size w w' := by
  go_enter Tryd.func38, Tryd.ntmps38
  go_wp2
  go_ret
  exact ⟨rfl, by simp, (Below.refl _ _).alloc (Nat.le_refl _) _⟩
set_option maxHeartbeats 400000 in
theorem fine_and (a b : Int) (w : World) (p : Addr) (hc : w.cell? p = some (.func (.func 54) #[] #[]))  : Calls Tryd.prog 50 #[.int .i64 a, .int .i64 b, .pointer (some p)] w fun e w' => e = .returned (.tuple #[.int .i64 (b32 .and a b), .bool true]) ∧ w' = w := by
  go_enter Tryd.func50, Tryd.ntmps50
  go_wp2_with (go_at_call 54; refine (and_any _ _ _ ).mono ?_; rintro e w1 ⟨rfl, rfl⟩)
  go_ret2
  exact ⟨rfl, rfl⟩

set_option maxHeartbeats 400000 in
theorem num_or (w : World) : Calls Tryd.prog 38 #[.string ⟨#[124]⟩] w fun e w' => e = .returned (.func (.func 50) #[] #[.pointer (some ⟨w.heap.size, 0, none⟩)]) ∧ w'.cell? ⟨w.heap.size, 0, none⟩ = some (.func (.func 55) #[] #[]) ∧ Below w.heap.size w w' := by
  go_enter Tryd.func38, Tryd.ntmps38
  go_wp2
  go_ret
  exact ⟨rfl, by simp, (Below.refl _ _).alloc (Nat.le_refl _) _⟩
set_option maxHeartbeats 400000 in
theorem fine_or (a b : Int) (w : World) (p : Addr) (hc : w.cell? p = some (.func (.func 55) #[] #[]))  : Calls Tryd.prog 50 #[.int .i64 a, .int .i64 b, .pointer (some p)] w fun e w' => e = .returned (.tuple #[.int .i64 (b32 .or a b), .bool true]) ∧ w' = w := by
  go_enter Tryd.func50, Tryd.ntmps50
  go_wp2_with (go_at_call 55; refine (or_any _ _ _ ).mono ?_; rintro e w1 ⟨rfl, rfl⟩)
  go_ret2
  exact ⟨rfl, rfl⟩

set_option maxHeartbeats 400000 in
theorem num_xor (w : World) : Calls Tryd.prog 38 #[.string ⟨#[94]⟩] w fun e w' => e = .returned (.func (.func 50) #[] #[.pointer (some ⟨w.heap.size, 0, none⟩)]) ∧ w'.cell? ⟨w.heap.size, 0, none⟩ = some (.func (.func 56) #[] #[]) ∧ Below w.heap.size w w' := by
  go_enter Tryd.func38, Tryd.ntmps38
  go_wp2
  go_ret
  exact ⟨rfl, by simp, (Below.refl _ _).alloc (Nat.le_refl _) _⟩
set_option maxHeartbeats 400000 in
theorem fine_xor (a b : Int) (w : World) (p : Addr) (hc : w.cell? p = some (.func (.func 56) #[] #[]))  : Calls Tryd.prog 50 #[.int .i64 a, .int .i64 b, .pointer (some p)] w fun e w' => e = .returned (.tuple #[.int .i64 (b32 .xor a b), .bool true]) ∧ w' = w := by
  go_enter Tryd.func50, Tryd.ntmps50
  go_wp2_with (go_at_call 56; refine (xor_any _ _ _ ).mono ?_; rintro e w1 ⟨rfl, rfl⟩)
  go_ret2
  exact ⟨rfl, rfl⟩

set_option maxHeartbeats 400000 in
theorem num_shl32 (w : World) : Calls Tryd.prog 38 #[.string ⟨#[60, 60]⟩] w fun e w' => e = .returned (.func (.func 50) #[] #[.pointer (some ⟨w.heap.size, 0, none⟩)]) ∧ w'.cell? ⟨w.heap.size, 0, none⟩ = some (.func (.func 57) #[] #[]) ∧ Below w.heap.size w w' := by
  go_enter Tryd.func38, Tryd.ntmps38
  go_wp2
  go_ret
  exact ⟨rfl, by simp, (Below.refl _ _).alloc (Nat.le_refl _) _⟩
set_option maxHeartbeats 400000 in
theorem fine_shl32 (a b : Int) (w : World) (p : Addr) (hc : w.cell? p = some (.func (.func 57) #[] #[]))  : Calls Tryd.prog 50 #[.int .i64 a, .int .i64 b, .pointer (some p)] w fun e w' => e = .returned (.tuple #[.int .i64 (shl32 a (b % 32).toNat), .bool true]) ∧ w' = w := by
  go_enter Tryd.func50, Tryd.ntmps50
  go_wp2_with (go_at_call 57; refine (shl32_any _ _ _ ).mono ?_; rintro e w1 ⟨rfl, rfl⟩)
  go_ret2
  exact ⟨rfl, rfl⟩

set_option maxHeartbeats 400000 in
theorem num_shr32 (w : World) : Calls Tryd.prog 38 #[.string ⟨#[62, 62]⟩] w fun e w' => e = .returned (.func (.func 50) #[] #[.pointer (some ⟨w.heap.size, 0, none⟩)]) ∧ w'.cell? ⟨w.heap.size, 0, none⟩ = some (.func (.func 58) #[] #[]) ∧ Below w.heap.size w w' := by
  go_enter Tryd.func38, Tryd.ntmps38
  go_wp2
  go_ret
  exact ⟨rfl, by simp, (Below.refl _ _).alloc (Nat.le_refl _) _⟩
set_option maxHeartbeats 400000 in
theorem fine_shr32 (a b : Int) (w : World) (p : Addr) (hc : w.cell? p = some (.func (.func 58) #[] #[]))  : Calls Tryd.prog 50 #[.int .i64 a, .int .i64 b, .pointer (some p)] w fun e w' => e = .returned (.tuple #[.int .i64 (shr32 a (b % 32).toNat), .bool true]) ∧ w' = w := by
  go_enter Tryd.func50, Tryd.ntmps50
  go_wp2_with (go_at_call 58; refine (shr32_any _ _ _ ).mono ?_; rintro e w1 ⟨rfl, rfl⟩)
  go_ret2
  exact ⟨rfl, rfl⟩

set_option maxHeartbeats 400000 in
theorem num_ushr32 (w : World) : Calls Tryd.prog 38 #[.string ⟨#[62, 62, 62]⟩] w fun e w' => e = .returned (.func (.func 50) #[] #[.pointer (some ⟨w.heap.size, 0, none⟩)]) ∧ w'.cell? ⟨w.heap.size, 0, none⟩ = some (.func (.func 59) #[] #[]) ∧ Below w.heap.size w w' := by
  go_enter Tryd.func38, Tryd.ntmps38
  go_wp2
  go_ret
  exact ⟨rfl, by simp, (Below.refl _ _).alloc (Nat.le_refl _) _⟩
set_option maxHeartbeats 400000 in
theorem fine_ushr32 (a b : Int) (w : World) (p : Addr) (hc : w.cell? p = some (.func (.func 59) #[] #[]))  : Calls Tryd.prog 50 #[.int .i64 a, .int .i64 b, .pointer (some p)] w fun e w' => e = .returned (.tuple #[.int .i64 (ushr32 a (b % 32).toNat), .bool true]) ∧ w' = w := by
  go_enter Tryd.func50, Tryd.ntmps50
  go_wp2_with (go_at_call 59; refine (ushr32_any _ _ _ ).mono ?_; rintro e w1 ⟨rfl, rfl⟩)
  go_ret2
  exact ⟨rfl, rfl⟩

set_option maxHeartbeats 400000 in
theorem num_mul (w : World) : Calls Tryd.prog 38 #[.string ⟨#[42]⟩] w fun e w' => e = .returned (.func (.func 52) #[] #[]) ∧ w' = w := by
  go_enter Tryd.func38, Tryd.ntmps38
  go_wp2
  go_ret
  exact ⟨rfl, rfl⟩

set_option maxHeartbeats 400000 in
theorem num_rem (w : World) : Calls Tryd.prog 38 #[.string ⟨#[37]⟩] w fun e w' => e = .returned (.func (.func 53) #[] #[]) ∧ w' = w := by
  go_enter Tryd.func38, Tryd.ntmps38
  go_wp2
  go_ret
  exact ⟨rfl, rfl⟩

def NoNum (op : ByteArray) : Prop := (op.toList == [45]) = false ∧ (op.toList == [42]) = false ∧ (op.toList == [37]) = false ∧ (op.toList == [38]) = false ∧ (op.toList == [124]) = false ∧ (op.toList == [94]) = false ∧ (op.toList == [60, 60]) = false ∧ (op.toList == [62, 62]) = false ∧ (op.toList == [62, 62, 62]) = false
def NoOrd (op : ByteArray) : Prop := (op.toList == [60]) = false ∧ (op.toList == [60, 61]) = false ∧ (op.toList == [62]) = false ∧ (op.toList == [62, 61]) = false
set_option maxHeartbeats 400000 in
theorem num_none (op : ByteArray) (w : World) (h : NoNum op) : Calls Tryd.prog 38 #[.string op] w fun e w' => e = .returned .nilFunc ∧ w' = w := by
  obtain ⟨h1, h2, h3, h4, h5, h6, h7, h8, h9⟩ := h
  go_enter Tryd.func38, Tryd.ntmps38
  go_wp2
  go_ret
  exact ⟨rfl, rfl⟩
set_option maxHeartbeats 400000 in
theorem ord_none (op : ByteArray) (w : World) (h : NoOrd op) : Calls Tryd.prog 39 #[.string op] w fun e w' => e = .returned .nilFunc ∧ w' = w := by
  obtain ⟨h1, h2, h3, h4⟩ := h
  go_enter Tryd.func39, Tryd.ntmps39
  go_wp2
  go_ret
  exact ⟨rfl, rfl⟩

set_option maxHeartbeats 400000 in
theorem ord_olt (w : World) : Calls Tryd.prog 39 #[.string ⟨#[60]⟩] w fun e w' => e = .returned (.func (.func 60) #[] #[]) ∧ w' = w := by
  go_enter Tryd.func39, Tryd.ntmps39
  go_wp2
  go_ret
  exact ⟨rfl, rfl⟩

set_option maxHeartbeats 400000 in
theorem ord_ole (w : World) : Calls Tryd.prog 39 #[.string ⟨#[60, 61]⟩] w fun e w' => e = .returned (.func (.func 61) #[] #[]) ∧ w' = w := by
  go_enter Tryd.func39, Tryd.ntmps39
  go_wp2
  go_ret
  exact ⟨rfl, rfl⟩

set_option maxHeartbeats 400000 in
theorem ord_ogt (w : World) : Calls Tryd.prog 39 #[.string ⟨#[62]⟩] w fun e w' => e = .returned (.func (.func 62) #[] #[]) ∧ w' = w := by
  go_enter Tryd.func39, Tryd.ntmps39
  go_wp2
  go_ret
  exact ⟨rfl, rfl⟩

set_option maxHeartbeats 400000 in
theorem ord_oge (w : World) : Calls Tryd.prog 39 #[.string ⟨#[62, 61]⟩] w fun e w' => e = .returned (.func (.func 63) #[] #[]) ∧ w' = w := by
  go_enter Tryd.func39, Tryd.ntmps39
  go_wp2
  go_ret
  exact ⟨rfl, rfl⟩
end Go.Proofs.YtkfpomkfgdkjdaaDoor
