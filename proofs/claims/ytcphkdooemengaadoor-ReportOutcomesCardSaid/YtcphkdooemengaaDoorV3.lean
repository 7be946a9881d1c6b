/- The walks of strings.Repeat, of blanks. -/
import Derived.Test.YtcphkdooemengaaDoorV2
import Derived.Deep.CutBlock
import Derived.Deep.LoopGhost
import Derived.Deep.DeepCutAuto
namespace Go.Proofs.YtcphkdooemengaaDoor
set_option linter.unusedVariables false
set_option linter.unusedSimpArgs false
set_option linter.unnecessarySimpa false
open Go.RowKit
attribute [local go_sem] cell_alloc_add cell_set_add lt_more
theorem spaces_size (n : Nat) : (spaces n).size = n := by
  show (List.replicate n (32 : UInt8)).toArray.size = n
  simp
theorem spaces_cut {n m : Nat} (h : m ≤ n) : (spaces n).extract 0 m = spaces m := by
  unfold spaces
  apply ByteArray.ext
  simp [ByteArray.data_extract, h]
theorem spaces_app (n m : Nat) : spaces n ++ spaces m = spaces (n + m) := by
  unfold spaces
  apply ByteArray.ext
  simp [ByteArray.data_append, List.replicate_append_replicate]
theorem spaces_one : spaces 1 = ⟨#[32]⟩ := rfl
theorem spaces_cells (n : Nat) : Lib.strCells (spaces n) = Lib.byteCells (List.replicate n 32) := by rw [Lib.strCells_eq]; rfl
theorem mul_one (k : Nat) (hk : k < 18446744073709551616) (w : World) : Calls Tryd.prog 39 #[.int .u64 1, .int .u64 (k : Int)] w fun e w' => e = .returned (.tuple #[.int .u64 0, .int .u64 (k : Int)]) ∧ w' = w := by
  have hM := Tryd.bits_Mul 1 k (by omega) (by omega) w
  rw [Nat.one_mul, Nat.div_eq_of_lt (by omega : k < 18446744073709551616), Nat.mod_eq_of_lt (by omega : k < 18446744073709551616)] at hM
  exact hM
set_option maxRecDepth 100000 in
set_option maxHeartbeats 4000000 in
theorem repeat_few (k : Nat) (hk : k ≤ 128) (w : World) :
    Calls Tryd.prog 21 #[.string ⟨#[32]⟩, .int .i64 (k : Int)] w fun e w' => e = .returned (.string (spaces k)) ∧ Below w.heap.size w w' := by
  by_cases h0 : k = 0
  · subst h0
    go_enter Tryd.func21, Tryd.ntmps21
    go_wp2
    go_ret
    exact ⟨rfl, Below.refl _ _⟩
  by_cases h1 : k = 1
  · subst h1
    go_enter Tryd.func21, Tryd.ntmps21
    go_wp2
    go_ret
    exact ⟨rfl, Below.refl _ _⟩
  have hM := mul_one k (by omega) w
  have e0 : ((k : Int) == 0) = false := by simp; omega
  have e1 : ((k : Int) == 1) = false := by simp; omega
  have e2 : ¬ (k : Int) < 0 := by omega
  have e3 : (k : Int) ≤ 128 := by omega
  go_enter Tryd.func21, Tryd.ntmps21
  go_wp2_with (first
    | (go_at_call 39; (with_reducible refine hM.mono ?_); rintro e w1 ⟨rfl, rfl⟩)
    | (go_at_call 40; (with_reducible refine (Tryd.strings_HasPrefix _ _ _).mono ?_); rintro e w1 ⟨rfl, rfl⟩))
  go_ret
  exact ⟨ret_str ((congrArg (fun x : ByteArray => x.extract 0 k) (show _ = spaces 128 from rfl)).trans (spaces_cut hk)), Below.refl _ _⟩
theorem run_min3 {P : Program} {w : World} (ts : Array TypeId) (t : TypeId) (k k' k'' : IntKind) (x y z : Int) :
    (Builtin.min_ ts t #[.int k x, .int k' y, .int k'' z]).run P w = .ok (.int k (if z < (if y < x then y else x) then z else (if y < x then y else x))) w := by
  simp [Builtin.min_, Builtin.min2]
theorem bldF_of {T e : TypeId} {B b : Nat} {bs : List Value} {W : World} (h : Lib.BuilderAt T e B b (.pointer (some ⟨b, 0, none⟩)) bs W) : Lib.IsBuilderF T e B b bs W := Lib.IsBuilderF.of (Or.inr h)
set_option maxRecDepth 100000 in
set_option maxHeartbeats 4000000 in
theorem repeat_many (k : Nat) (hk1 : 128 < k) (hk : k ≤ 8192) (w : World) :
    Calls Tryd.prog 21 #[.string ⟨#[32]⟩, .int .i64 (k : Int)] w fun e w' => e = .returned (.string (spaces k)) ∧ Below w.heap.size w w' := by
  have hM := mul_one k (by omega) w
  have e0 : ((k : Int) == 0) = false := by simp; omega
  have e1 : ((k : Int) == 1) = false := by simp; omega
  have e2 : ¬ (k : Int) < 0 := by omega
  have e3 : ¬ (k : Int) ≤ 128 := by omega
  have e4 : ¬ (k : Int) ≤ 64 := by omega
  have e5 : ¬ (8192 : Int) < (k : Int) := by omega
  have b0 : Below w.heap.size w (w.alloc (.cells #[.pointer none, .slice none 0 0] 43)) := (Below.refl _ w).alloc (Nat.le_refl _) _
  have HZ := Lib.hid (show ([] : List Value).length + (⟨#[32]⟩ : ByteArray).size ≤ 140737488355328 by decide)
  have cG := Lib.hid (Tryd.Builder_Grow_fresh w.heap.size w.heap.size k (w.alloc (.cells #[.pointer none, .slice none 0 0] 43)) (Nat.le_refl _) (heap_alloc_new w _) b0.size (by omega))
  go_enter Tryd.func21, Tryd.ntmps21
  go_upto_region 38 with (first
    | (go_at_call 39; (with_reducible refine hM.mono ?_); rintro e w1 ⟨rfl, hw⟩; rw [hw])
    | (go_at_call 40; (with_reducible refine (Tryd.strings_HasPrefix _ _ _).mono ?_); rintro e w1 ⟨rfl, hw⟩; rw [hw])
    | (go_at_call 41; (with_reducible refine cG.out.mono ?_); rintro e W1 ⟨rfl, h1, b1⟩; have z1 := Below.size b1)
    | (go_at_call 36; (with_reducible refine (wStr_any w.heap.size w.heap.size [] ⟨#[32]⟩ W1 (bldF_of h1) HZ.out (by simp at z1; omega)).mono ?_); rintro e W2 ⟨rfl, h2, b2, k2⟩; have z2 := Below.size b2))
  have h2' : Lib.IsBuilderF 43 5 w.heap.size w.heap.size (Lib.byteCells (List.replicate 1 32)) W2 := Or.inr h2
  have b02 : Below w.heap.size w W2 := b0.trans (b1.trans b2)
  clear h1 h2 b0 b1 b2 cG k2 hM
  go_loopg [] (k - 1) (fun g wx => ∃ q : Nat, 1 ≤ q ∧ q + g = k ∧ Lib.IsBuilderF 43 5 w.heap.size w.heap.size (Lib.byteCells (List.replicate q 32)) wx ∧ Below w.heap.size w wx)
  case atStart => exact ⟨1, Nat.le_refl _, by omega, h2', b02⟩
  case round =>
    obtain ⟨q, hq1, hqg, hB, hbx⟩ := hrel
    have hlq : (Lib.byteCells (List.replicate q (32 : UInt8))).length = q := by rw [Lib.byteCells_length]; simp
    have cLen := Tryd.Builder_Len_f w.heap.size w.heap.size _ wr hB
    rw [hlq] at cLen
    have cStr := Tryd.Builder_String_any_f w.heap.size w.heap.size (List.replicate q 32) wr hB hbx.size
    have hS : (⟨(List.replicate q (32 : UInt8)).toArray⟩ : ByteArray) = spaces q := rfl
    rw [hS] at cStr
    have hqz := spaces_size q
    by_cases hqk : q = k
    · subst hqk
      go_wp2_with (first
        | (go_at_call 42; (with_reducible refine cLen.mono ?_); rintro e w' ⟨rfl, hw'⟩; rw [hw'])
        | (go_at_call 20; (with_reducible refine cStr.mono ?_); rintro e W3 ⟨rfl, h3, b3⟩))
      go_ret
      exact ⟨rfl, hbx.trans b3⟩
    · have i1 : (q : Int) < (k : Int) := by omega
      obtain ⟨ch, hch⟩ : ∃ ch, ch = min (k - q) q := ⟨_, rfl⟩
      have hmin3 : ∀ (ts : Array TypeId) (t : TypeId) (W : World), (Builtin.min_ ts t #[.int .i64 ((k : Int) - (q : Int)), .int .i64 (q : Int), .int .i64 (k : Int)]).run Tryd.prog W = .ok (.int .i64 (ch : Int)) W := fun ts t W => by
        rw [run_min3]
        congr 2
        rw [hch]
        split <;> split <;> omega
      have hc1 : 1 ≤ ch := by omega
      have hc2 : ch ≤ q := by omega
      have hc3 : q + ch ≤ k := by omega
      clear hch
      have hcut := spaces_cut hc2
      have hcz := spaces_size ch
      have HC := Lib.hid hcut
      go_wp2_with (first
        | (go_at_call 42; (with_reducible refine cLen.mono ?_); rintro e w' ⟨rfl, hw'⟩; rw [hw'])
        | (go_at_call 20; (with_reducible refine cStr.mono ?_); rintro e W3 ⟨rfl, h3, b3⟩; have z3 := Below.size b3)
        | (go_at_call 36; (with_reducible refine (wStr_any w.heap.size w.heap.size _ (spaces ch) W3 h3 (by rw [hlq, hcz]; omega) (by have := hbx.size; omega)).mono ?_); rintro e W4 ⟨rfl, h4, b4, k4⟩))
      go_roundg (k - (q + ch))
      case measure => omega
      case rel =>
        refine ⟨q + ch, by omega, by omega, Or.inr ?_, hbx.trans (b3.trans b4)⟩
        rw [spaces_cells, ← Lib.byteCells_append, List.replicate_append_replicate] at h4
        exact h4
theorem repeat_any (k : Nat) (hk : k ≤ 8192) (w : World) :
    Calls Tryd.prog 21 #[.string ⟨#[32]⟩, .int .i64 (k : Int)] w fun e w' => e = .returned (.string (spaces k)) ∧ Below w.heap.size w w' := by
  by_cases h : k ≤ 128
  · exact repeat_few k h w
  · exact repeat_many k (by omega) hk w
end Go.Proofs.YtcphkdooemengaaDoor
