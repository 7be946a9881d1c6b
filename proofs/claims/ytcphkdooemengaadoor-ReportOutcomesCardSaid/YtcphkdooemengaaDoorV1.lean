/- The walks of chapter 19's small functions: the reference's Digits; the words of errors. -/
import Derived.Test.YtcphkdooemengaaDoorW2
import Derived.Test.YtcphkdooemengaaDoorRep
import Derived.Test.YtcphkdooemengaaDoorApp
import Derived.Lib.ItoaLen
namespace Go.Proofs.YtcphkdooemengaaDoor
set_option linter.unusedVariables false
set_option linter.unusedSimpArgs false
set_option linter.unnecessarySimpa false
open Go.RowKit
attribute [local go_sem] cell_alloc_add cell_set_add lt_more
theorem dd_small {v : Nat} (h : v < 10) : Lib.decDigits v = [UInt8.ofNat (48 + v)] := by rw [Lib.decDigits, dif_pos h]
theorem dd_more {v : Nat} (h : ¬ v < 10) : Lib.decDigits v = Lib.decDigits (v / 10) ++ [UInt8.ofNat (48 + v % 10)] := by rw [Lib.decDigits, dif_neg h]
def digB (d : Nat) : ByteArray := ⟨#[UInt8.ofNat (48 + d)]⟩
theorem dig_str (d : Nat) (hd : d < 10) (w : World) (fr : Nat × Nat) (c : Nat) :
    (convert 22 9 (.slice (some ⟨w.heap.size, 0, none⟩) 1 c)).run Tryd.prog (w.alloc (.cells #[.int .u8 (48 + (d : Int))] 5 fr)) = .ok (.string (digB d)) (w.alloc (.cells #[.int .u8 (48 + (d : Int))] 5 fr)) := by
  have := run_convert_bytes_back (P := Tryd.prog) (w.alloc (.cells #[.int .u8 (48 + (d : Int))] 5 fr)) 22 9 5 ⟨w.heap.size, 0, none⟩ c [UInt8.ofNat (48 + d)] Tryd.underlying22 Tryd.underlying5 Tryd.underlying9 (fun j hj => by
    obtain rfl : j = 0 := by simp at hj; omega
    rw [add_row, World.cell?_alloc_mark]
    have e : (UInt8.ofNat (48 + d)).toNat = 48 + d := by rw [UInt8.toNat_ofNat']; omega
    rw [Nat.zero_add]
    show some (Value.int .u8 (48 + (d : Int))) = some (Value.int .u8 ((UInt8.ofNat (48 + d)).toNat : Int))
    rw [e]; congr 2)
  exact this
set_option maxRecDepth 100000 in
set_option maxHeartbeats 4000000 in
theorem natural_any (v : Nat) (hv : v < 18446744073709551616) (w : World) :
    Calls Tryd.prog 44 #[.int .u64 (v : Int)] w fun e w' => e = .returned (.string ⟨(Lib.decDigits v).toArray⟩) ∧ Below w.heap.size w w' := by
  go_enter Tryd.func44, Tryd.ntmps44
  go_wp2
  go_loopw [0, 3] (fun a s wr => ∃ (u : Nat) (t : List UInt8), u ≤ v ∧ a = .int .u64 (u : Int) ∧ s = .string ⟨t.toArray⟩ ∧ Hid (Lib.decDigits v = Lib.decDigits u ++ t) ∧ t.length + (Lib.decDigits u).length ≤ (Lib.decDigits v).length ∧ Below w.heap.size w wr) (fun a _ _ => (intOf a).toNat)
  case atStart => exact ⟨v, [], Nat.le_refl _, rfl, rfl, by show _ = _; simp, by simp, Below.refl _ _⟩
  case round =>
    obtain ⟨u, t, hu, rfl, rfl, HE, hl, hb⟩ := hrel
    have hz := hb.size
    have kc := dig_str (u % 10) (by omega) wr
    have hw : (48 + (u : Int) % 10) = (48 + ((u % 10 : Nat) : Int)) := by omega
    have h20 : (Lib.decDigits v).length ≤ 20 := by rw [Lib.decDigits_length]; exact Lib.nDigits_le20 v hv
    have ht : t.length ≤ 20 := by omega
    have hd1 : (digB (u % 10)).size = 1 := rfl
    by_cases c : u < 10
    · have c1 : ((u : Int) / 10 == 0) = true := by simp; omega
      go_wp2
      go_ret
      refine ⟨ret_str ?_, (by (repeat (first | (with_reducible exact Below.refl _ _) | (with_reducible assumption) | (with_reducible refine Below.setCell ?_ (by first | omega | (simp <;> omega)) _) | (with_reducible refine Below.alloc ?_ (by first | omega | (simp <;> omega)) _) | (with_reducible refine Below.drew ?_) | (with_reducible refine below_drewN ?_ _) | (with_reducible refine Below.trans ?_ (Below.mono (by with_reducible assumption) (by first | omega | (simp <;> omega)))))))⟩
      rw [HE.out, dd_small c, Nat.mod_eq_of_lt c]
      apply ByteArray.ext
      simp [digB]
    · have c1 : ((u : Int) / 10 == 0) = false := by simp; omega
      go_wp2
      go_roundw
      case rel =>
        have hlen := congrArg List.length (dd_more c)
        simp at hlen
        refine ⟨u / 10, UInt8.ofNat (48 + u % 10) :: t, by omega, by go_num, ?_, ?_, by simp; omega, (by (repeat (first | (with_reducible exact Below.refl _ _) | (with_reducible assumption) | (with_reducible refine Below.setCell ?_ (by first | omega | (simp <;> omega)) _) | (with_reducible refine Below.alloc ?_ (by first | omega | (simp <;> omega)) _) | (with_reducible refine Below.drew ?_) | (with_reducible refine below_drewN ?_ _) | (with_reducible refine Below.trans ?_ (Below.mono (by with_reducible assumption) (by first | omega | (simp <;> omega)))))))⟩
        · first | rfl | (congr 1; apply ByteArray.ext; simp [digB])
        · show _ = _
          rw [HE.out, dd_more c, List.append_assoc]; rfl
      case measure => simp [intOf]; omega
set_option maxRecDepth 100000 in
set_option maxHeartbeats 4000000 in
theorem Digits_any (n : Int) (h0 : -9223372036854775808 ≤ n) (h1 : n ≤ 9223372036854775807) (w : World) :
    Calls Tryd.prog 23 #[.int .i64 n] w fun e w' => e = .returned (.string (digits n)) ∧ Below w.heap.size w w' := by
  by_cases hn : n < 0
  · obtain ⟨u, rfl⟩ : ∃ u : Nat, n = -((u : Int) + 1) := ⟨(-n - 1).toNat, by omega⟩
    have hit : digits (-((u : Int) + 1)) = ⟨#[45]⟩ ++ ⟨(Lib.decDigits (u + 1)).toArray⟩ := by
      unfold digits
      rw [show -((u : Int) + 1) = -((u + 1 : Nat) : Int) by omega, Lib.itoa_neg _ (by omega)]
      apply ByteArray.ext; simp
    have hsz : (⟨(Lib.decDigits (u + 1)).toArray⟩ : ByteArray).size ≤ 20 := by
      show (Lib.decDigits (u + 1)).toArray.size ≤ 20
      rw [List.size_toArray, Lib.decDigits_length]; exact Lib.nDigits_le20 _ (by omega)
    have HN := Lib.hid (natural_any (u + 1) (by omega))
    rw [show ((u + 1 : Nat) : Int) = (u : Int) + 1 by omega] at HN
    rw [hit]
    generalize (⟨(Lib.decDigits (u + 1)).toArray⟩ : ByteArray) = tx at *
    clear hit
    have e1 : -((u : Int) + 1) < 0 := by omega
    have e2 : -((u : Int) + 1) + 1 = -(u : Int) := by omega
    go_enter Tryd.func23, Tryd.ntmps23
    go_wp2_with (go_at_call 44; (with_reducible refine (HN.out _).mono ?_); rintro e w1 ⟨rfl, b1⟩)
    go_ret
    exact ⟨rfl, b1⟩
  · obtain ⟨u, rfl⟩ : ∃ u : Nat, n = (u : Int) := ⟨n.toNat, by omega⟩
    have hit : digits (u : Int) = ⟨(Lib.decDigits u).toArray⟩ := by unfold digits; rw [Lib.itoa_nonneg]
    rw [hit]
    go_enter Tryd.func23, Tryd.ntmps23
    go_wp2_with (go_at_call 44; (with_reducible refine (natural_any u (by omega) _).mono ?_); rintro e w1 ⟨rfl, b1⟩)
    go_ret
    exact ⟨rfl, b1⟩
set_option maxRecDepth 100000 in
set_option maxHeartbeats 1000000 in
theorem word_any (n : Int) (w : World) : Calls Tryd.prog 19 #[.int .i64 n] w fun e w' => e = .returned (.string (wordB n)) ∧ w' = w := by
  go_enter Tryd.func19, Tryd.ntmps19
  go_wp2
  all_goals go_ret
  all_goals refine ⟨ret_str ?_, rfl⟩
  all_goals (try simp only [beq_iff_eq, beq_eq_false_iff_ne, bne_iff_ne, bne_eq_false_iff_eq, ne_eq, decide_eq_true_eq, decide_eq_false_iff_not, Bool.and_eq_true, Bool.or_eq_true, Bool.not_eq_true, Bool.not_eq_false, Bool.false_eq_true, Decidable.not_not, Bool.not_eq_eq_eq_not, Bool.not_true, Bool.not_false] at *)
  all_goals simp [wordB, *]
set_option maxRecDepth 100000 in
set_option maxHeartbeats 1000000 in
theorem rWord_any (n : Int) (w : World) : Calls Tryd.prog 24 #[.int .i64 n] w fun e w' => e = .returned (.string (wordB n)) ∧ w' = w := by
  go_enter Tryd.func24, Tryd.ntmps24
  go_wp2
  all_goals go_ret
  all_goals refine ⟨ret_str ?_, rfl⟩
  all_goals (try simp only [beq_iff_eq, beq_eq_false_iff_ne, bne_iff_ne, bne_eq_false_iff_eq, ne_eq, decide_eq_true_eq, decide_eq_false_iff_not, Bool.and_eq_true, Bool.or_eq_true, Bool.not_eq_true, Bool.not_eq_false, Bool.false_eq_true, Decidable.not_not, Bool.not_eq_eq_eq_not, Bool.not_true, Bool.not_false] at *)
  all_goals simp [wordB, *]
end Go.Proofs.YtcphkdooemengaaDoor
