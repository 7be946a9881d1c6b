/- Some texts of this claim, put together. -/
import Derived.Test.YtcphkdooemengaaGreatDoorHPgDec
import Derived.Test.YtcphkdooemengaaGreatDoorHBZ7
import Derived.Test.YtcphkdooemengaaGreatDoorHBZ28
import Derived.Lib.ItoaLen
import Derived.Test.YtcphkdooemengaaGreatDoorHW8
import Derived.Deep.CutBlock
import Derived.Deep.LoopGhost
import Derived.Deep.DeepCutAuto
namespace Go.Proofs.YtcphkdooemengaaGreatDoor
section
set_option linter.unusedVariables false
set_option linter.unusedSimpArgs false
set_option linter.unnecessarySimpa false
open Go.RowKit
attribute [local go_sem] cell_alloc_add cell_set_add lt_more
theorem dd_small {v : Nat} (h : v < 10) : Lib.decDigits v = [UInt8.ofNat (48 + v)] := by rw [Lib.decDigits, dif_pos h]
theorem dd_more {v : Nat} (h : ¬ v < 10) : Lib.decDigits v = Lib.decDigits (v / 10) ++ [UInt8.ofNat (48 + v % 10)] := by rw [Lib.decDigits, dif_neg h]
def digB (d : Nat) : ByteArray := ⟨#[UInt8.ofNat (48 + d)]⟩
theorem dig_str (d : Nat) (hd : d < 10) (w : World) (fr : Nat × Nat) (c : Nat) :
    (convert 40 9 (.slice (some ⟨w.heap.size, 0, none⟩) 1 c)).run Tryz.prog (w.alloc (.cells #[.int .u8 (48 + (d : Int))] 5 fr)) = .ok (.string (digB d)) (w.alloc (.cells #[.int .u8 (48 + (d : Int))] 5 fr)) := by
  have := run_convert_bytes_back (P := Tryz.prog) (w.alloc (.cells #[.int .u8 (48 + (d : Int))] 5 fr)) 40 9 5 ⟨w.heap.size, 0, none⟩ c [UInt8.ofNat (48 + d)] Tryz.underlying40 Tryz.underlying5 Tryz.underlying9 (fun j hj => by
    obtain rfl : j = 0 := by simp at hj; omega
    rw [add_row, World.cell?_alloc_mark]
    have e : (UInt8.ofNat (48 + d)).toNat = 48 + d := by rw [UInt8.toNat_ofNat']; omega
    rw [Nat.zero_add]
    show some (Value.int .u8 (48 + (d : Int))) = some (Value.int .u8 ((UInt8.ofNat (48 + d)).toNat : Int))
    rw [e]; congr 2)
  exact this
set_option maxRecDepth 100000 in
set_option maxHeartbeats 4000000 in
theorem natural_any (v : Nat) (hv : v < 18446744073709551616) (w : World) :
    Calls Tryz.prog 39 #[.int .u64 (v : Int)] w fun e w' => e = .returned (.string ⟨(Lib.decDigits v).toArray⟩) ∧ Below w.heap.size w w' := by
  go_enter Tryz.func39, Tryz.ntmps39
  go_wp2
  go_loopw [0, 3] (fun a s wr => ∃ (u : Nat) (t : List UInt8), u ≤ v ∧ a = .int .u64 (u : Int) ∧ s = .string ⟨t.toArray⟩ ∧ Hid (Lib.decDigits v = Lib.decDigits u ++ t) ∧ t.length + (Lib.decDigits u).length ≤ (Lib.decDigits v).length ∧ Below w.heap.size w wr) (fun a _ _ => (intOf a).toNat)
  case atStart => exact ⟨v, [], Nat.le_refl _, rfl, rfl, by show _ = _; simp, by simp, Below.refl _ _⟩
  case round =>
    obtain ⟨u, t, hu, rfl, rfl, HE, hl, hb⟩ := hrel
    have hz := hb.size
    have kc := dig_str (u % 10) (by omega) wr
    have hw : (48 + (u : Int) % 10) = (48 + ((u % 10 : Nat) : Int)) := by omega
    have h20 : (Lib.decDigits v).length ≤ 20 := by rw [Lib.decDigits_length]; exact Lib.nDigits_le20 v hv
    have ht : t.length ≤ 20 := by omega
    have hd1 : (digB (u % 10)).size = 1 := rfl
    by_cases c : u < 10
    · have c1 : ((u : Int) / 10 == 0) = true := by simp; omega
      go_wp2
      go_ret
      refine ⟨ret_str ?_, (by (exact bl))⟩
      rw [HE.out, dd_small c, Nat.mod_eq_of_lt c]
      apply ByteArray.ext
      simp [digB]
    · have c1 : ((u : Int) / 10 == 0) = false := by simp; omega
      go_wp2
      go_roundw
      case rel =>
        have hlen := congrArg List.length (dd_more c)
        simp at hlen
        refine ⟨u / 10, UInt8.ofNat (48 + u % 10) :: t, by omega, by go_num, ?_, ?_, by simp; omega, (by (exact bl))⟩
        · first | rfl | (congr 1; apply ByteArray.ext; simp [digB])
        · show _ = _
          rw [HE.out, dd_more c, List.append_assoc]; rfl
      case measure => simp [intOf]; omega
set_option maxRecDepth 100000 in
set_option maxHeartbeats 4000000 in
theorem Digits_any (n : Int) (h0 : -9223372036854775808 ≤ n) (h1 : n ≤ 9223372036854775807) (w : World) :
    Calls Tryz.prog 22 #[.int .i64 n] w fun e w' => e = .returned (.string (digits n)) ∧ Below w.heap.size w w' := by
  by_cases hn : n < 0
  · obtain ⟨u, rfl⟩ : ∃ u : Nat, n = -((u : Int) + 1) := ⟨(-n - 1).toNat, by omega⟩
    have hit : digits (-((u : Int) + 1)) = ⟨#[45]⟩ ++ ⟨(Lib.decDigits (u + 1)).toArray⟩ := by
      unfold digits
      rw [show -((u : Int) + 1) = -((u + 1 : Nat) : Int) by omega, Lib.itoa_neg _ (by omega)]
      apply ByteArray.ext; simp
    have hsz : (⟨(Lib.decDigits (u + 1)).toArray⟩ : ByteArray).size ≤ 20 := by
      show (Lib.decDigits (u + 1)).toArray.size ≤ 20
      rw [List.size_toArray, Lib.decDigits_length]; exact Lib.nDigits_le20 _ (by omega)
    have HN := Lib.hid (natural_any (u + 1) (by omega))
    rw [show ((u + 1 : Nat) : Int) = (u : Int) + 1 by omega] at HN
    rw [hit]
    generalize (⟨(Lib.decDigits (u + 1)).toArray⟩ : ByteArray) = tx at *
    clear hit
    have e1 : -((u : Int) + 1) < 0 := by omega
    have e2 : -((u : Int) + 1) + 1 = -(u : Int) := by omega
    go_enter Tryz.func22, Tryz.ntmps22
    go_wp2_with (go_at_call 39; (with_reducible refine (HN.out _).mono ?_); rintro e w1 ⟨rfl, b1⟩)
    go_ret
    exact ⟨rfl, b1⟩
  · obtain ⟨u, rfl⟩ : ∃ u : Nat, n = (u : Int) := ⟨n.toNat, by omega⟩
    have hit : digits (u : Int) = ⟨(Lib.decDigits u).toArray⟩ := by unfold digits; rw [Lib.itoa_nonneg]
    rw [hit]
    go_enter Tryz.func22, Tryz.ntmps22
    go_wp2_with (go_at_call 39; (with_reducible refine (natural_any u (by omega) _).mono ?_); rintro e w1 ⟨rfl, b1⟩)
    go_ret
    exact ⟨rfl, b1⟩
set_option maxRecDepth 100000 in
set_option maxHeartbeats 1000000 in
theorem word_any (n : Int) (w : World) : Calls Tryz.prog 44 #[.int .i64 n] w fun e w' => e = .returned (.string (wordB n)) ∧ w' = w := by
  go_enter Tryz.func44, Tryz.ntmps44
  go_wp2
  all_goals go_ret
  all_goals refine ⟨ret_str ?_, rfl⟩
  all_goals (try simp only [beq_iff_eq, beq_eq_false_iff_ne, bne_iff_ne, bne_eq_false_iff_eq, ne_eq, decide_eq_true_eq, decide_eq_false_iff_not, Bool.and_eq_true, Bool.or_eq_true, Bool.not_eq_true, Bool.not_eq_false, Bool.false_eq_true, Decidable.not_not, Bool.not_eq_eq_eq_not, Bool.not_true, Bool.not_false] at *)
  all_goals simp [wordB, *]
end
section
set_option linter.unusedVariables false
set_option linter.unusedSimpArgs false
set_option linter.unnecessarySimpa false
open Go.RowKit
attribute [local go_sem] cell_alloc_add cell_set_add lt_more
theorem rowsL_take {l : List ByteArray} {k : Nat} (h : k < l.length) : rowsL (l.take (k + 1)) = rowsL (l.take k) ++ ((l.getD k ⟨#[]⟩).data.toList ++ [10]) := by
  rw [List.take_add_one, List.getElem?_eq_getElem h, Option.toList_some, rowsL_snoc, List.getD_eq_getElem?_getD, List.getElem?_eq_getElem h]; rfl
theorem rowsL_le (l : List ByteArray) (k : Nat) : (rowsL (l.take k)).length ≤ (rowsL l).length := by
  have : rowsL l = rowsL (l.take k) ++ rowsL (l.drop k) := by
    unfold rowsL; rw [← List.flatMap_append, List.take_append_drop]
  rw [this, List.length_append]; omega
set_option maxRecDepth 100000 in
set_option maxHeartbeats 4000000 in
theorem rowsB_any (l : List ByteArray) (n : Nat) (hn : n = l.length) (A : Option Addr) (c : Nat) (w : World) (h : Rd w w.heap.size A n (fun j => .string (l.getD j ⟨#[]⟩))) (hz : (rowsL l).length ≤ 1099511627776) :
    Calls Tryz.prog 19 #[.slice A n c] w fun e w' => e = .returned (.string (rowsB l)) ∧ Below w.heap.size w w' := by
  have HN := Lib.hid hn
  have hnn : n ≤ 1099511627776 := by
    have : ∀ l : List ByteArray, l.length ≤ (rowsL l).length := by
      intro l
      induction l with
      | nil => simp [rowsL]
      | cons a l ih => have e : rowsL (a :: l) = (a.data.toList ++ [10]) ++ rowsL l := by simp [rowsL]
                       rw [e]; simp; omega
    have := this l
    omega
  clear hn
  go_enter Tryz.func19, Tryz.ntmps19
  go_wp2
  go_loopw [8] (fun i wr => ∃ k : Nat, k ≤ n ∧ i = .int .i64 k ∧ Lib.IsBuilderF 42 5 w.heap.size w.heap.size (Lib.byteCells (rowsL (l.take k))) wr ∧ Below w.heap.size w wr) (fun i _ => n - (intOf i).toNat)
  case atStart => exact ⟨0, Nat.zero_le _, rfl, Lib.IsBuilderF.of (Lib.fresh_isBuilder 42 5 w), (by (exact bl))⟩
  case round =>
    obtain ⟨k, hk, rfl, hI, hb⟩ := hrel
    have hzb := hb.size
    by_cases hlt : k < n
    · have hT := rowsL_take (l := l) (k := k) (by rw [← HN.out]; exact hlt)
      have hle := rowsL_le l (k + 1)
      obtain ⟨ad, rfl, hbl, hc⟩ := h.below hb k hlt
      replace hc : wr.cell? (ad.add k) = some (.string (l.getD k ⟨#[]⟩)) := hc
      generalize l.getD k ⟨#[]⟩ = x at *
      have HT := Lib.hid hT
      have hxs : x.data.size = x.size := rfl
      have hlen := congrArg List.length hT
      simp at hlen
      clear hT
      have i1 : (k : Int) < (n : Int) := by omega
      go_wp2_with (first
        | (go_at_call 18; (with_reducible refine (wStr_any w.heap.size w.heap.size _ x wr hI (by simp [Lib.byteCells_length]; omega) (by omega)).mono ?_); rintro e w3 ⟨rfl, h3, b3, k3⟩; have hz3 := Below.size b3)
        | (go_at_call 34; (with_reducible refine (wByte_any w.heap.size w.heap.size _ 10 w3 (bld_of h3) (by simp [Lib.byteCells_length, Lib.strCells_length]; omega) (by omega)).mono ?_); rintro e w4 ⟨rfl, h4, b4, k4⟩; have hz4 := Below.size b4))
      go_roundw
      case rel =>
        refine ⟨k + 1, by omega, by go_num, ?_, (hb.trans b3).trans b4⟩
        rw [HT.out]
        exact .inr (by simpa [Lib.byteCells, Lib.strCells_eq] using h4)
      case measure => simp [intOf]; omega
    · obtain rfl : k = n := by omega
      have HL := Lib.hid (show l.take k = l from List.take_of_length_le (by rw [← HN.out]; exact Nat.le_refl _))
      go_wp2_with (go_at_call 20; (with_reducible refine (Tryz.Builder_String_any_f w.heap.size w.heap.size _ wr hI hzb).mono ?_); rintro e w3 ⟨rfl, h3, b3⟩)
      go_ret
      refine ⟨?_, hb.trans b3⟩
      rw [HL.out]; rfl
end
section
set_option linter.unusedVariables false
set_option linter.unusedSimpArgs false
set_option linter.unnecessarySimpa false
open Go.RowKit
attribute [local go_sem] cell_alloc_add cell_set_add lt_more
theorem spaces_size (n : Nat) : (spaces n).size = n := by
  show (List.replicate n (32 : UInt8)).toArray.size = n
  simp
theorem spaces_cut {n m : Nat} (h : m ≤ n) : (spaces n).extract 0 m = spaces m := by
  unfold spaces
  apply ByteArray.ext
  simp [ByteArray.data_extract, h]
theorem spaces_app (n m : Nat) : spaces n ++ spaces m = spaces (n + m) := by
  unfold spaces
  apply ByteArray.ext
  simp [ByteArray.data_append, List.replicate_append_replicate]
theorem spaces_one : spaces 1 = ⟨#[32]⟩ := rfl
theorem spaces_cells (n : Nat) : Lib.strCells (spaces n) = Lib.byteCells (List.replicate n 32) := by rw [Lib.strCells_eq]; rfl
theorem mul_one (k : Nat) (hk : k < 18446744073709551616) (w : World) : Calls Tryz.prog 29 #[.int .u64 1, .int .u64 (k : Int)] w fun e w' => e = .returned (.tuple #[.int .u64 0, .int .u64 (k : Int)]) ∧ w' = w := by
  have hM := Tryz.bits_Mul 1 k (by omega) (by omega) w
  rw [Nat.one_mul, Nat.div_eq_of_lt (by omega : k < 18446744073709551616), Nat.mod_eq_of_lt (by omega : k < 18446744073709551616)] at hM
  exact hM
set_option maxRecDepth 100000 in
set_option maxHeartbeats 4000000 in
theorem repeat_few (k : Nat) (hk : k ≤ 128) (w : World) :
    Calls Tryz.prog 15 #[.string ⟨#[32]⟩, .int .i64 (k : Int)] w fun e w' => e = .returned (.string (spaces k)) ∧ Below w.heap.size w w' := by
  by_cases h0 : k = 0
  · subst h0
    go_enter Tryz.func15, Tryz.ntmps15
    go_wp2
    go_ret
    exact ⟨rfl, Below.refl _ _⟩
  by_cases h1 : k = 1
  · subst h1
    go_enter Tryz.func15, Tryz.ntmps15
    go_wp2
    go_ret
    exact ⟨rfl, Below.refl _ _⟩
  have hM := mul_one k (by omega) w
  have e0 : ((k : Int) == 0) = false := by simp; omega
  have e1 : ((k : Int) == 1) = false := by simp; omega
  have e2 : ¬ (k : Int) < 0 := by omega
  have e3 : (k : Int) ≤ 128 := by omega
  go_enter Tryz.func15, Tryz.ntmps15
  go_wp2_with (first
    | (go_at_call 29; (with_reducible refine hM.mono ?_); rintro e w1 ⟨rfl, rfl⟩)
    | (go_at_call 30; (with_reducible refine (Tryz.strings_HasPrefix _ _ _).mono ?_); rintro e w1 ⟨rfl, rfl⟩))
  go_ret
  exact ⟨ret_str ((congrArg (fun x : ByteArray => x.extract 0 k) (show _ = spaces 128 from rfl)).trans (spaces_cut hk)), Below.refl _ _⟩
theorem run_min3 {P : Program} {w : World} (ts : Array TypeId) (t : TypeId) (k k' k'' : IntKind) (x y z : Int) :
    (Builtin.min_ ts t #[.int k x, .int k' y, .int k'' z]).run P w = .ok (.int k (if z < (if y < x then y else x) then z else (if y < x then y else x))) w := by
  simp [Builtin.min_, Builtin.min2]
theorem bldF_of {T e : TypeId} {B b : Nat} {bs : List Value} {W : World} (h : Lib.BuilderAt T e B b (.pointer (some ⟨b, 0, none⟩)) bs W) : Lib.IsBuilderF T e B b bs W := Lib.IsBuilderF.of (Or.inr h)
set_option maxRecDepth 100000 in
set_option maxHeartbeats 4000000 in
theorem repeat_many (k : Nat) (hk1 : 128 < k) (hk : k ≤ 8192) (w : World) :
    Calls Tryz.prog 15 #[.string ⟨#[32]⟩, .int .i64 (k : Int)] w fun e w' => e = .returned (.string (spaces k)) ∧ Below w.heap.size w w' := by
  have hM := mul_one k (by omega) w
  have e0 : ((k : Int) == 0) = false := by simp; omega
  have e1 : ((k : Int) == 1) = false := by simp; omega
  have e2 : ¬ (k : Int) < 0 := by omega
  have e3 : ¬ (k : Int) ≤ 128 := by omega
  have e4 : ¬ (k : Int) ≤ 64 := by omega
  have e5 : ¬ (8192 : Int) < (k : Int) := by omega
  have b0 : Below w.heap.size w (w.alloc (.cells #[.pointer none, .slice none 0 0] 42)) := (Below.refl _ w).alloc (Nat.le_refl _) _
  have HZ := Lib.hid (show ([] : List Value).length + (⟨#[32]⟩ : ByteArray).size ≤ 140737488355328 by decide)
  have cG := Lib.hid (Tryz.Builder_Grow_fresh w.heap.size w.heap.size k (w.alloc (.cells #[.pointer none, .slice none 0 0] 42)) (Nat.le_refl _) (heap_alloc_new w _) b0.size (by omega))
  go_enter Tryz.func15, Tryz.ntmps15
  go_upto_region 38 with (first
    | (go_at_call 29; (with_reducible refine hM.mono ?_); rintro e w1 ⟨rfl, hw⟩; rw [hw])
    | (go_at_call 30; (with_reducible refine (Tryz.strings_HasPrefix _ _ _).mono ?_); rintro e w1 ⟨rfl, hw⟩; rw [hw])
    | (go_at_call 31; (with_reducible refine cG.out.mono ?_); rintro e W1 ⟨rfl, h1, b1⟩; have z1 := Below.size b1)
    | (go_at_call 18; (with_reducible refine (wStr_any w.heap.size w.heap.size [] ⟨#[32]⟩ W1 (bldF_of h1) HZ.out (by simp at z1; omega)).mono ?_); rintro e W2 ⟨rfl, h2, b2, k2⟩; have z2 := Below.size b2))
  have h2' : Lib.IsBuilderF 42 5 w.heap.size w.heap.size (Lib.byteCells (List.replicate 1 32)) W2 := Or.inr h2
  have b02 : Below w.heap.size w W2 := b0.trans (b1.trans b2)
  clear h1 h2 b0 b1 b2 cG k2 hM
  go_loopg [] (k - 1) (fun g wx => ∃ q : Nat, 1 ≤ q ∧ q + g = k ∧ Lib.IsBuilderF 42 5 w.heap.size w.heap.size (Lib.byteCells (List.replicate q 32)) wx ∧ Below w.heap.size w wx)
  case atStart => exact ⟨1, Nat.le_refl _, by omega, h2', b02⟩
  case round =>
    obtain ⟨q, hq1, hqg, hB, hbx⟩ := hrel
    have hlq : (Lib.byteCells (List.replicate q (32 : UInt8))).length = q := by rw [Lib.byteCells_length]; simp
    have cLen := Tryz.Builder_Len_f w.heap.size w.heap.size _ wr hB
    rw [hlq] at cLen
    have cStr := Tryz.Builder_String_any_f w.heap.size w.heap.size (List.replicate q 32) wr hB hbx.size
    have hS : (⟨(List.replicate q (32 : UInt8)).toArray⟩ : ByteArray) = spaces q := rfl
    rw [hS] at cStr
    have hqz := spaces_size q
    by_cases hqk : q = k
    · subst hqk
      go_wp2_with (first
        | (go_at_call 32; (with_reducible refine cLen.mono ?_); rintro e w' ⟨rfl, hw'⟩; rw [hw'])
        | (go_at_call 20; (with_reducible refine cStr.mono ?_); rintro e W3 ⟨rfl, h3, b3⟩))
      go_ret
      exact ⟨rfl, hbx.trans b3⟩
    · have i1 : (q : Int) < (k : Int) := by omega
      obtain ⟨ch, hch⟩ : ∃ ch, ch = min (k - q) q := ⟨_, rfl⟩
      have hmin3 : ∀ (ts : Array TypeId) (t : TypeId) (W : World), (Builtin.min_ ts t #[.int .i64 ((k : Int) - (q : Int)), .int .i64 (q : Int), .int .i64 (k : Int)]).run Tryz.prog W = .ok (.int .i64 (ch : Int)) W := fun ts t W => by
        rw [run_min3]
        congr 2
        rw [hch]
        split <;> split <;> omega
      have hc1 : 1 ≤ ch := by omega
      have hc2 : ch ≤ q := by omega
      have hc3 : q + ch ≤ k := by omega
      clear hch
      have hcut := spaces_cut hc2
      have hcz := spaces_size ch
      have HC := Lib.hid hcut
      go_wp2_with (first
        | (go_at_call 32; (with_reducible refine cLen.mono ?_); rintro e w' ⟨rfl, hw'⟩; rw [hw'])
        | (go_at_call 20; (with_reducible refine cStr.mono ?_); rintro e W3 ⟨rfl, h3, b3⟩; have z3 := Below.size b3)
        | (go_at_call 18; (with_reducible refine (wStr_any w.heap.size w.heap.size _ (spaces ch) W3 h3 (by rw [hlq, hcz]; omega) (by have := hbx.size; omega)).mono ?_); rintro e W4 ⟨rfl, h4, b4, k4⟩))
      go_roundg (k - (q + ch))
      case measure => omega
      case rel =>
        refine ⟨q + ch, by omega, by omega, Or.inr ?_, hbx.trans (b3.trans b4)⟩
        rw [spaces_cells, ← Lib.byteCells_append, List.replicate_append_replicate] at h4
        exact h4
theorem repeat_any (k : Nat) (hk : k ≤ 8192) (w : World) :
    Calls Tryz.prog 15 #[.string ⟨#[32]⟩, .int .i64 (k : Int)] w fun e w' => e = .returned (.string (spaces k)) ∧ Below w.heap.size w w' := by
  by_cases h : k ≤ 128
  · exact repeat_few k h w
  · exact repeat_many k (by omega) hk w
end
section
set_option linter.unusedVariables false
set_option linter.unusedSimpArgs false
set_option linter.unnecessarySimpa false
open Go.RowKit
attribute [local go_sem] cell_alloc_add cell_set_add lt_more
theorem spaces_two : spaces 2 = ⟨#[32, 32]⟩ := rfl
theorem mul_two (k n : Nat) (hn : n = 2 * k) (hk : k < 1000000) (w : World) : Calls Tryz.prog 29 #[.int .u64 2, .int .u64 (k : Int)] w fun e w' => e = .returned (.tuple #[.int .u64 0, .int .u64 (n : Int)]) ∧ w' = w := by
  have hM := Tryz.bits_Mul 2 k (by omega) (by omega) w
  rw [← hn, Nat.div_eq_of_lt (by omega : n < 18446744073709551616), Nat.mod_eq_of_lt (by omega : n < 18446744073709551616)] at hM
  exact hM
set_option maxRecDepth 100000 in
set_option maxHeartbeats 4000000 in
theorem repeat2_few (k n : Nat) (hn : n = 2 * k) (hk : n ≤ 128) (w : World) :
    Calls Tryz.prog 15 #[.string ⟨#[32, 32]⟩, .int .i64 (k : Int)] w fun e w' => e = .returned (.string (spaces n)) ∧ Below w.heap.size w w' := by
  by_cases h0 : k = 0
  · subst h0
    obtain rfl : n = 0 := by omega
    clear hn
    go_enter Tryz.func15, Tryz.ntmps15
    go_wp2
    go_ret
    exact ⟨rfl, Below.refl _ _⟩
  by_cases h1 : k = 1
  · subst h1
    obtain rfl : n = 2 := by omega
    clear hn
    go_enter Tryz.func15, Tryz.ntmps15
    go_wp2
    go_ret
    exact ⟨rfl, Below.refl _ _⟩
  have hM := mul_two k n hn (by omega) w
  have e0 : ((k : Int) == 0) = false := by simp; omega
  have e1 : ((k : Int) == 1) = false := by simp; omega
  have e2 : ¬ (k : Int) < 0 := by omega
  have e3 : (n : Int) ≤ 128 := by omega
  have hk2 : k ≤ 4096 := by omega
  clear hn
  go_enter Tryz.func15, Tryz.ntmps15
  go_wp2_with (first
    | (go_at_call 29; (with_reducible refine hM.mono ?_); rintro e w1 ⟨rfl, rfl⟩)
    | (go_at_call 30; (with_reducible refine (Tryz.strings_HasPrefix _ _ _).mono ?_); rintro e w1 ⟨rfl, rfl⟩))
  go_ret
  exact ⟨ret_str ((congrArg (fun x : ByteArray => x.extract 0 n) (show _ = spaces 128 from rfl)).trans (spaces_cut hk)), Below.refl _ _⟩
set_option maxRecDepth 100000 in
set_option maxHeartbeats 4000000 in
theorem repeat2_many (k n : Nat) (hn : n = 2 * k) (hk1 : 128 < n) (hk : n ≤ 8192) (w : World) :
    Calls Tryz.prog 15 #[.string ⟨#[32, 32]⟩, .int .i64 (k : Int)] w fun e w' => e = .returned (.string (spaces n)) ∧ Below w.heap.size w w' := by
  have hM := mul_two k n hn (by omega) w
  have e0 : ((k : Int) == 0) = false := by simp; omega
  have e1 : ((k : Int) == 1) = false := by simp; omega
  have e2 : ¬ (k : Int) < 0 := by omega
  have e3 : ¬ (n : Int) ≤ 128 := by omega
  have e4 : ¬ (n : Int) ≤ 64 := by omega
  have e5 : ¬ (8192 : Int) < (n : Int) := by omega
  have b0 : Below w.heap.size w (w.alloc (.cells #[.pointer none, .slice none 0 0] 42)) := (Below.refl _ w).alloc (Nat.le_refl _) _
  have HZ := Lib.hid (show ([] : List Value).length + (⟨#[32, 32]⟩ : ByteArray).size ≤ 140737488355328 by decide)
  have cG := Lib.hid (Tryz.Builder_Grow_fresh w.heap.size w.heap.size n (w.alloc (.cells #[.pointer none, .slice none 0 0] 42)) (Nat.le_refl _) (heap_alloc_new w _) b0.size (by omega))
  have hk2 : k ≤ 4096 := by omega
  clear hn
  go_enter Tryz.func15, Tryz.ntmps15
  go_upto_region 38 with (first
    | (go_at_call 29; (with_reducible refine hM.mono ?_); rintro e w1 ⟨rfl, hw⟩; rw [hw])
    | (go_at_call 30; (with_reducible refine (Tryz.strings_HasPrefix _ _ _).mono ?_); rintro e w1 ⟨rfl, hw⟩; rw [hw])
    | (go_at_call 31; (with_reducible refine cG.out.mono ?_); rintro e W1 ⟨rfl, h1, b1⟩; have z1 := Below.size b1)
    | (go_at_call 18; (with_reducible refine (wStr_any w.heap.size w.heap.size [] ⟨#[32, 32]⟩ W1 (bldF_of h1) HZ.out (by simp at z1; omega)).mono ?_); rintro e W2 ⟨rfl, h2, b2, k2⟩; have z2 := Below.size b2))
  have h2' : Lib.IsBuilderF 42 5 w.heap.size w.heap.size (Lib.byteCells (List.replicate 2 32)) W2 := Or.inr h2
  have b02 : Below w.heap.size w W2 := b0.trans (b1.trans b2)
  clear h1 h2 b0 b1 b2 cG k2 hM
  go_loopg [] (n - 2) (fun g wx => ∃ q : Nat, 2 ≤ q ∧ q + g = n ∧ Lib.IsBuilderF 42 5 w.heap.size w.heap.size (Lib.byteCells (List.replicate q 32)) wx ∧ Below w.heap.size w wx)
  case atStart => exact ⟨2, Nat.le_refl _, by omega, h2', b02⟩
  case round =>
    obtain ⟨q, hq1, hqg, hB, hbx⟩ := hrel
    have hlq : (Lib.byteCells (List.replicate q (32 : UInt8))).length = q := by rw [Lib.byteCells_length]; simp
    have cLen := Tryz.Builder_Len_f w.heap.size w.heap.size _ wr hB
    rw [hlq] at cLen
    have cStr := Tryz.Builder_String_any_f w.heap.size w.heap.size (List.replicate q 32) wr hB hbx.size
    have hS : (⟨(List.replicate q (32 : UInt8)).toArray⟩ : ByteArray) = spaces q := rfl
    rw [hS] at cStr
    have hqz := spaces_size q
    by_cases hqk : q = n
    · subst hqk
      go_wp2_with (first
        | (go_at_call 32; (with_reducible refine cLen.mono ?_); rintro e w' ⟨rfl, hw'⟩; rw [hw'])
        | (go_at_call 20; (with_reducible refine cStr.mono ?_); rintro e W3 ⟨rfl, h3, b3⟩))
      go_ret
      exact ⟨rfl, hbx.trans b3⟩
    · have i1 : (q : Int) < (n : Int) := by omega
      obtain ⟨ch, hch⟩ : ∃ ch, ch = min (n - q) q := ⟨_, rfl⟩
      have hmin3 : ∀ (ts : Array TypeId) (t : TypeId) (W : World), (Builtin.min_ ts t #[.int .i64 ((n : Int) - (q : Int)), .int .i64 (q : Int), .int .i64 (n : Int)]).run Tryz.prog W = .ok (.int .i64 (ch : Int)) W := fun ts t W => by
        rw [run_min3]
        congr 2
        rw [hch]
        split <;> split <;> omega
      have hc1 : 1 ≤ ch := by omega
      have hc2 : ch ≤ q := by omega
      have hc3 : q + ch ≤ n := by omega
      clear hch
      have hcut := spaces_cut hc2
      have hcz := spaces_size ch
      have HC := Lib.hid hcut
      go_wp2_with (first
        | (go_at_call 32; (with_reducible refine cLen.mono ?_); rintro e w' ⟨rfl, hw'⟩; rw [hw'])
        | (go_at_call 20; (with_reducible refine cStr.mono ?_); rintro e W3 ⟨rfl, h3, b3⟩; have z3 := Below.size b3)
        | (go_at_call 18; (with_reducible refine (wStr_any w.heap.size w.heap.size _ (spaces ch) W3 h3 (by rw [hlq, hcz]; omega) (by have := hbx.size; omega)).mono ?_); rintro e W4 ⟨rfl, h4, b4, k4⟩))
      go_roundg (n - (q + ch))
      case measure => omega
      case rel =>
        refine ⟨q + ch, by omega, by omega, Or.inr ?_, hbx.trans (b3.trans b4)⟩
        rw [spaces_cells, ← Lib.byteCells_append, List.replicate_append_replicate] at h4
        exact h4
theorem repeat2_any (k : Nat) (hk : k ≤ 4096) (w : World) :
    Calls Tryz.prog 15 #[.string ⟨#[32, 32]⟩, .int .i64 (k : Int)] w fun e w' => e = .returned (.string (spaces (2 * k))) ∧ Below w.heap.size w w' := by
  by_cases h : 2 * k ≤ 128
  · exact repeat2_few k (2 * k) rfl h w
  · exact repeat2_many k (2 * k) rfl (by omega) (by omega) w
end
end Go.Proofs.YtcphkdooemengaaGreatDoor
