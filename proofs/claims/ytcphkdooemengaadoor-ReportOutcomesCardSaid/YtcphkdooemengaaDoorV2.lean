/- The walks of chapter 19's rows. -/
import Derived.Test.YtcphkdooemengaaDoorW8
import Derived.Test.YtcphkdooemengaaDoorV1
namespace Go.Proofs.YtcphkdooemengaaDoor
set_option linter.unusedVariables false
set_option linter.unusedSimpArgs false
set_option linter.unnecessarySimpa false
open Go.RowKit
attribute [local go_sem] cell_alloc_add cell_set_add lt_more
theorem rowsL_take {l : List ByteArray} {k : Nat} (h : k < l.length) : rowsL (l.take (k + 1)) = rowsL (l.take k) ++ ((l.getD k ⟨#[]⟩).data.toList ++ [10]) := by
  rw [List.take_add_one, List.getElem?_eq_getElem h, Option.toList_some, rowsL_snoc, List.getD_eq_getElem?_getD, List.getElem?_eq_getElem h]; rfl
theorem rowsL_le (l : List ByteArray) (k : Nat) : (rowsL (l.take k)).length ≤ (rowsL l).length := by
  have : rowsL l = rowsL (l.take k) ++ rowsL (l.drop k) := by
    unfold rowsL; rw [← List.flatMap_append, List.take_append_drop]
  rw [this, List.length_append]; omega
set_option maxRecDepth 100000 in
set_option maxHeartbeats 4000000 in
theorem rows_any (l : List ByteArray) (n : Nat) (hn : n = l.length) (A : Option Addr) (c : Nat) (w : World) (h : Rd w w.heap.size A n (fun j => .string (l.getD j ⟨#[]⟩))) (hz : (rowsL l).length ≤ 1099511627776) :
    Calls Tryd.prog 17 #[.slice A n c] w fun e w' => e = .returned (.string (rowsB l)) ∧ Below w.heap.size w w' := by
  have HN := Lib.hid hn
  have hnn : n ≤ 1099511627776 := by
    have : ∀ l : List ByteArray, l.length ≤ (rowsL l).length := by
      intro l
      induction l with
      | nil => simp [rowsL]
      | cons a l ih => have e : rowsL (a :: l) = (a.data.toList ++ [10]) ++ rowsL l := by simp [rowsL]
                       rw [e]; simp; omega
    have := this l
    omega
  clear hn
  go_enter Tryd.func17, Tryd.ntmps17
  go_wp2
  go_loopw [8] (fun i wr => ∃ k : Nat, k ≤ n ∧ i = .int .i64 k ∧ Lib.IsBuilderF 43 5 w.heap.size w.heap.size (Lib.byteCells (rowsL (l.take k))) wr ∧ Below w.heap.size w wr) (fun i _ => n - (intOf i).toNat)
  case atStart => exact ⟨0, Nat.zero_le _, rfl, Lib.IsBuilderF.of (Lib.fresh_isBuilder 43 5 w), (by (repeat (first | (with_reducible exact Below.refl _ _) | (with_reducible assumption) | (with_reducible refine Below.setCell ?_ (by first | omega | (simp <;> omega)) _) | (with_reducible refine Below.alloc ?_ (by first | omega | (simp <;> omega)) _) | (with_reducible refine Below.drew ?_) | (with_reducible refine below_drewN ?_ _) | (with_reducible refine Below.trans ?_ (Below.mono (by with_reducible assumption) (by first | omega | (simp <;> omega)))))))⟩
  case round =>
    obtain ⟨k, hk, rfl, hI, hb⟩ := hrel
    have hzb := hb.size
    by_cases hlt : k < n
    · have hT := rowsL_take (l := l) (k := k) (by rw [← HN.out]; exact hlt)
      have hle := rowsL_le l (k + 1)
      obtain ⟨ad, rfl, hbl, hc⟩ := h.below hb k hlt
      replace hc : wr.cell? (ad.add k) = some (.string (l.getD k ⟨#[]⟩)) := hc
      generalize l.getD k ⟨#[]⟩ = x at *
      have HT := Lib.hid hT
      have hxs : x.data.size = x.size := rfl
      have hlen := congrArg List.length hT
      simp at hlen
      clear hT
      have i1 : (k : Int) < (n : Int) := by omega
      go_wp2_with (first
        | (go_at_call 36; (with_reducible refine (wStr_any w.heap.size w.heap.size _ x wr hI (by simp [Lib.byteCells_length]; omega) (by omega)).mono ?_); rintro e w3 ⟨rfl, h3, b3, k3⟩; have hz3 := Below.size b3)
        | (go_at_call 37; (with_reducible refine (wByte_any w.heap.size w.heap.size _ 10 w3 (bld_of h3) (by simp [Lib.byteCells_length, Lib.strCells_length]; omega) (by omega)).mono ?_); rintro e w4 ⟨rfl, h4, b4, k4⟩; have hz4 := Below.size b4))
      go_roundw
      case rel =>
        refine ⟨k + 1, by omega, by go_num, ?_, (hb.trans b3).trans b4⟩
        rw [HT.out]
        exact .inr (by simpa [Lib.byteCells, Lib.strCells_eq] using h4)
      case measure => simp [intOf]; omega
    · obtain rfl : k = n := by omega
      have HL := Lib.hid (show l.take k = l from List.take_of_length_le (by rw [← HN.out]; exact Nat.le_refl _))
      go_wp2_with (go_at_call 20; (with_reducible refine (Tryd.Builder_String_any_f w.heap.size w.heap.size _ wr hI hzb).mono ?_); rintro e w3 ⟨rfl, h3, b3⟩)
      go_ret
      refine ⟨?_, hb.trans b3⟩
      rw [HL.out]; rfl
end Go.Proofs.YtcphkdooemengaaDoor
