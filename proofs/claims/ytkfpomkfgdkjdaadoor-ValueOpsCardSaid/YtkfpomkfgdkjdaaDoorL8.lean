/- Chapter 14: any operator of two values; the walk of ValueBinary. -/
import Derived.Test.YtkfpomkfgdkjdaaDoorL1
import Derived.Lib.ItoaLen
import Derived.Lib.SlicesS
import Derived.Test.YtkfpomkfgdkjdaaDoorBinPlus
import Derived.Test.YtkfpomkfgdkjdaaDoorRBPlus
import Derived.Test.YtkfpomkfgdkjdaaDoorOpSub
import Derived.Test.YtkfpomkfgdkjdaaDoorOpMul
import Derived.Test.YtkfpomkfgdkjdaaDoorOpRem
import Derived.Test.YtkfpomkfgdkjdaaDoorOpAnd
import Derived.Test.YtkfpomkfgdkjdaaDoorOpOr
import Derived.Test.YtkfpomkfgdkjdaaDoorOpXor
import Derived.Test.YtkfpomkfgdkjdaaDoorOpShl32
import Derived.Test.YtkfpomkfgdkjdaaDoorOpShr32
import Derived.Test.YtkfpomkfgdkjdaaDoorOpUshr32
import Derived.Test.YtkfpomkfgdkjdaaDoorOpLt
import Derived.Test.YtkfpomkfgdkjdaaDoorOpLe
import Derived.Test.YtkfpomkfgdkjdaaDoorOpGt
import Derived.Test.YtkfpomkfgdkjdaaDoorOpGe
import Derived.Test.YtkfpomkfgdkjdaaDoorOpEq
import Derived.Test.YtkfpomkfgdkjdaaDoorOpNeq
import Derived.Test.YtkfpomkfgdkjdaaDoorOpNone
import Derived.Test.YtkfpomkfgdkjdaaDoorOpPlust12
import Derived.Test.YtkfpomkfgdkjdaaDoorOpPlust34
namespace Go.Proofs.YtkfpomkfgdkjdaaDoor
set_option linter.unusedVariables false
set_option linter.unusedSimpArgs false
open Go.RowKit
attribute [local go_sem] valEq
theorem sane_text (v : V) : (sane v).s.size ≤ v.s.size := by
  unfold sane vb vn vs vu
  repeat' split
  all_goals first | exact Nat.zero_le _ | exact Nat.le_refl _
theorem textOf_size (v : V) (h : v.s.size ≤ 1000000) : (textOf v).size ≤ 1000000 := by
  have h1 := sane_text v
  unfold textOf
  by_cases k1 : (sane v).k = 1
  · rw [if_pos k1]; decide
  by_cases k2 : (sane v).k = 2
  · rw [if_neg k1, if_pos k2]; split <;> decide
  by_cases k3 : (sane v).k = 3
  · rw [if_neg k1, if_neg k2, if_pos k3]
    have hb := sane_bd v k3
    have := Lib.itoa_length_le (sane v).n (by omega) (by omega)
    unfold digits
    show (Lib.itoa (sane v).n).toArray.size ≤ _
    simp; omega
  by_cases k4 : (sane v).k = 4
  · rw [if_neg k1, if_neg k2, if_neg k3, if_pos k4]; omega
  rw [if_neg k1, if_neg k2, if_neg k3, if_neg k4]
  split <;> decide
def Both (op : ByteArray) (a b : V) : Prop := ∃ o : O,
  (∀ w : World, Tab w → Calls Tryd.prog 16 #[.string op, .agg #[.int .i64 (a).k, .int .i64 (a).n, .string (a).s], .agg #[.int .i64 (b).k, .int .i64 (b).n, .string (b).s]] w fun e w' => e = .returned (.tuple #[.agg #[.int .i64 (o).v.k, .int .i64 (o).v.n, .string (o).v.s], .string (o).t, .int .i64 (o).f]) ∧ Below w.heap.size w w') ∧
  (∀ w : World, Calls Tryd.prog 17 #[.string op, .agg #[.int .i64 (a).k, .int .i64 (a).n, .string (a).s], .agg #[.int .i64 (b).k, .int .i64 (b).n, .string (b).s]] w fun e w' => e = .returned (.agg #[.int .i64 (o).v.k, .int .i64 (o).v.n, .string (o).v.s, .string (o).t, .int .i64 (o).f]) ∧ Below w.heap.size w w')
theorem op_is {op : ByteArray} {l : List UInt8} (h : (op.toList == l) = true) : op = ⟨l.toArray⟩ := by
  have h2 : op.toList = l := by simpa using h
  rw [ByteArray.toList_eq] at h2
  apply ByteArray.ext; rw [← h2]
theorem both_plus (a b : V) (h1 : a.s.size ≤ 1000000) (h2 : b.s.size ≤ 1000000) : Both ⟨#[43]⟩ a b := by
  have ha := textOf_size a h1
  have hb := textOf_size b h2
  by_cases hn : (sane a).k = 3 ∧ (sane b).k = 3
  · exact ⟨_, fun w _ => Binary_plus_num a b w hn.1 hn.2, fun w => rBinary_plus_num a b w hn.1 hn.2⟩
  by_cases ht : (sane a).k ≠ 5 ∧ (sane b).k ≠ 5 ∧ ((sane a).k = 4 ∨ (sane b).k = 4)
  · obtain ⟨h5, h5', h4⟩ := ht
    by_cases k4 : (sane a).k = 4
    · by_cases k4' : (sane b).k = 4
      · exact ⟨_, fun w h => Binary_plus_text1 a b w h h5 h5' h4 ha hb (by simp [k4]) (by simp [k4]) (by simp [k4']), fun w => rBinary_plus_text1 a b w h5 h5' h4 ha hb (by simp [k4]) (by simp [k4]) (by simp [k4'])⟩
      · exact ⟨_, fun w h => Binary_plus_text2 a b w h h5 h5' h4 ha hb (by simp [k4]) (by simp [k4]) (by simp [k4']), fun w => rBinary_plus_text2 a b w h5 h5' h4 ha hb (by simp [k4]) (by simp [k4]) (by simp [k4'])⟩
    · have k4' : (sane b).k = 4 := by omega
      by_cases k3 : (sane a).k = 3
      · exact ⟨_, fun w h => Binary_plus_text3 a b w h h5 h5' h4 ha hb (by simp [k3]) (by simp [k4]) (by simp [k4']) (by simp [k4']), fun w => rBinary_plus_text3 a b w h5 h5' h4 ha hb (by simp [k3]) (by simp [k4]) (by simp [k4']) (by simp [k4'])⟩
      · exact ⟨_, fun w h => Binary_plus_text4 a b w h h5 h5' h4 ha hb (by simp [k3]) (by simp [k4]) (by simp [k4']) (by simp [k4']), fun w => rBinary_plus_text4 a b w h5 h5' h4 ha hb (by simp [k3]) (by simp [k4]) (by simp [k4']) (by simp [k4'])⟩
  · exact ⟨_, fun w _ => Binary_plus_no a b w hn ht, fun w => rBinary_plus_no a b w hn ht⟩
theorem both_lt (a b : V) (h1 : a.s.size ≤ 1000000) (h2 : b.s.size ≤ 1000000) : Both ⟨#[60]⟩ a b := by
  have ha := sane_text a
  have hb := sane_text b
  by_cases hn : (sane a).k = 3 ∧ (sane b).k = 3
  · exact ⟨_, fun w _ => Binary_lt_num a b w hn.1 hn.2, fun w => rBinary_lt_num a b w hn.1 hn.2⟩
  by_cases ht : (sane a).k = 4 ∧ (sane b).k = 4
  · exact ⟨_, fun w _ => Binary_lt_txt a b w ht.1 ht.2 (by omega) (by omega), fun w => rBinary_lt_txt a b w ht.1 ht.2 (by omega) (by omega)⟩
  · exact ⟨_, fun w _ => Binary_lt_no a b w hn ht, fun w => rBinary_lt_no a b w hn ht⟩
theorem both_le (a b : V) (h1 : a.s.size ≤ 1000000) (h2 : b.s.size ≤ 1000000) : Both ⟨#[60, 61]⟩ a b := by
  have ha := sane_text a
  have hb := sane_text b
  by_cases hn : (sane a).k = 3 ∧ (sane b).k = 3
  · exact ⟨_, fun w _ => Binary_le_num a b w hn.1 hn.2, fun w => rBinary_le_num a b w hn.1 hn.2⟩
  by_cases ht : (sane a).k = 4 ∧ (sane b).k = 4
  · exact ⟨_, fun w _ => Binary_le_txt a b w ht.1 ht.2 (by omega) (by omega), fun w => rBinary_le_txt a b w ht.1 ht.2 (by omega) (by omega)⟩
  · exact ⟨_, fun w _ => Binary_le_no a b w hn ht, fun w => rBinary_le_no a b w hn ht⟩
theorem both_gt (a b : V) (h1 : a.s.size ≤ 1000000) (h2 : b.s.size ≤ 1000000) : Both ⟨#[62]⟩ a b := by
  have ha := sane_text a
  have hb := sane_text b
  by_cases hn : (sane a).k = 3 ∧ (sane b).k = 3
  · exact ⟨_, fun w _ => Binary_gt_num a b w hn.1 hn.2, fun w => rBinary_gt_num a b w hn.1 hn.2⟩
  by_cases ht : (sane a).k = 4 ∧ (sane b).k = 4
  · exact ⟨_, fun w _ => Binary_gt_txt a b w ht.1 ht.2 (by omega) (by omega), fun w => rBinary_gt_txt a b w ht.1 ht.2 (by omega) (by omega)⟩
  · exact ⟨_, fun w _ => Binary_gt_no a b w hn ht, fun w => rBinary_gt_no a b w hn ht⟩
theorem both_ge (a b : V) (h1 : a.s.size ≤ 1000000) (h2 : b.s.size ≤ 1000000) : Both ⟨#[62, 61]⟩ a b := by
  have ha := sane_text a
  have hb := sane_text b
  by_cases hn : (sane a).k = 3 ∧ (sane b).k = 3
  · exact ⟨_, fun w _ => Binary_ge_num a b w hn.1 hn.2, fun w => rBinary_ge_num a b w hn.1 hn.2⟩
  by_cases ht : (sane a).k = 4 ∧ (sane b).k = 4
  · exact ⟨_, fun w _ => Binary_ge_txt a b w ht.1 ht.2 (by omega) (by omega), fun w => rBinary_ge_txt a b w ht.1 ht.2 (by omega) (by omega)⟩
  · exact ⟨_, fun w _ => Binary_ge_no a b w hn ht, fun w => rBinary_ge_no a b w hn ht⟩
theorem both_any (op : ByteArray) (a b : V) (h1 : a.s.size ≤ 1000000) (h2 : b.s.size ≤ 1000000) : Both op a b := by
  cases e_eq : (op.toList == [61, 61, 61])
  case true => have hop : op = ⟨#[61, 61, 61]⟩ := op_is e_eq; subst hop; exact ⟨_, fun w _ => Binary_eq a b w, fun w => rBinary_eq a b w⟩
  cases e_neq : (op.toList == [33, 61, 61])
  case true => have hop : op = ⟨#[33, 61, 61]⟩ := op_is e_neq; subst hop; exact ⟨_, fun w _ => Binary_neq a b w, fun w => rBinary_neq a b w⟩
  cases e_plus : (op.toList == [43])
  case true => have hop : op = ⟨#[43]⟩ := op_is e_plus; subst hop; exact both_plus a b h1 h2
  cases e_sub : (op.toList == [45])
  case true => have hop : op = ⟨#[45]⟩ := op_is e_sub; subst hop; exact ⟨_, fun w _ => Binary_sub a b w, fun w => rBinary_sub a b w⟩
  cases e_mul : (op.toList == [42])
  case true => have hop : op = ⟨#[42]⟩ := op_is e_mul; subst hop; exact ⟨_, fun w _ => Binary_mul a b w, fun w => rBinary_mul a b w⟩
  cases e_rem : (op.toList == [37])
  case true => have hop : op = ⟨#[37]⟩ := op_is e_rem; subst hop; exact ⟨_, fun w _ => Binary_rem a b w, fun w => rBinary_rem a b w⟩
  cases e_and : (op.toList == [38])
  case true => have hop : op = ⟨#[38]⟩ := op_is e_and; subst hop; exact ⟨_, fun w _ => Binary_and a b w, fun w => rBinary_and a b w⟩
  cases e_or : (op.toList == [124])
  case true => have hop : op = ⟨#[124]⟩ := op_is e_or; subst hop; exact ⟨_, fun w _ => Binary_or a b w, fun w => rBinary_or a b w⟩
  cases e_xor : (op.toList == [94])
  case true => have hop : op = ⟨#[94]⟩ := op_is e_xor; subst hop; exact ⟨_, fun w _ => Binary_xor a b w, fun w => rBinary_xor a b w⟩
  cases e_shl32 : (op.toList == [60, 60])
  case true => have hop : op = ⟨#[60, 60]⟩ := op_is e_shl32; subst hop; exact ⟨_, fun w _ => Binary_shl32 a b w, fun w => rBinary_shl32 a b w⟩
  cases e_shr32 : (op.toList == [62, 62])
  case true => have hop : op = ⟨#[62, 62]⟩ := op_is e_shr32; subst hop; exact ⟨_, fun w _ => Binary_shr32 a b w, fun w => rBinary_shr32 a b w⟩
  cases e_ushr32 : (op.toList == [62, 62, 62])
  case true => have hop : op = ⟨#[62, 62, 62]⟩ := op_is e_ushr32; subst hop; exact ⟨_, fun w _ => Binary_ushr32 a b w, fun w => rBinary_ushr32 a b w⟩
  cases e_lt : (op.toList == [60])
  case true => have hop : op = ⟨#[60]⟩ := op_is e_lt; subst hop; exact both_lt a b h1 h2
  cases e_le : (op.toList == [60, 61])
  case true => have hop : op = ⟨#[60, 61]⟩ := op_is e_le; subst hop; exact both_le a b h1 h2
  cases e_gt : (op.toList == [62])
  case true => have hop : op = ⟨#[62]⟩ := op_is e_gt; subst hop; exact both_gt a b h1 h2
  cases e_ge : (op.toList == [62, 61])
  case true => have hop : op = ⟨#[62, 61]⟩ := op_is e_ge; subst hop; exact both_ge a b h1 h2
  exact ⟨_, fun w _ => Binary_none op a b w e_eq e_neq e_plus ⟨e_sub, e_mul, e_rem, e_and, e_or, e_xor, e_shl32, e_shr32, e_ushr32⟩ ⟨e_lt, e_le, e_gt, e_ge⟩, fun w => rBinary_none op a b w e_eq e_neq e_plus ⟨e_sub, e_mul, e_rem, e_and, e_or, e_xor, e_shl32, e_shr32, e_ushr32⟩ ⟨e_lt, e_le, e_gt, e_ge⟩⟩

set_option maxRecDepth 100000 in
set_option maxHeartbeats 2000000 in
theorem ValueBinary_any (op : ByteArray) (k n : Int) (s : ByteArray) (k' n' : Int) (s' : ByteArray) (w : World) (ht : Tab w) (h1 : op.size ≤ 140737488351232) (h2 : s.size ≤ 140737488351232) (h3 : s'.size ≤ 140737488351232) :
    Calls Tryd.prog 4 #[.string op, .agg #[.int .i64 k, .int .i64 n, .string s], .agg #[.int .i64 k', .int .i64 n', .string s']] w fun e w' => e = .returned (.bool true) ∧ Below w.heap.size w w' := by
  by_cases hsz : s.size + s'.size + op.size ≤ 210000
  · obtain ⟨o, hp, hr⟩ := both_any op ⟨k, n, s⟩ ⟨k', n', s'⟩ (by show s.size ≤ _; omega) (by show s'.size ≤ _; omega)
    go_enter Tryd.func4, Tryd.ntmps4
    go_wp2_with (first
      | (go_at_call 13; refine (known_any _ (ht.keep (by (repeat (first | (with_reducible exact Below.refl _ _) | (with_reducible assumption) | (with_reducible refine Below.setCell ?_ (by first | omega | (simp <;> omega)) _) | (with_reducible refine Below.alloc ?_ (by first | omega | (simp <;> omega)) _) | (with_reducible refine Below.drew ?_) | (with_reducible refine below_drewN ?_ _) | (with_reducible refine Below.trans ?_ (Below.mono (by with_reducible assumption) (by first | omega | (simp <;> omega))))))))).mono ?_; rintro e wb3 ⟨rfl, b3⟩)
      | (go_at_call 16; (with_reducible refine (hp _ (ht.keep (by (repeat (first | (with_reducible exact Below.refl _ _) | (with_reducible assumption) | (with_reducible refine Below.setCell ?_ (by first | omega | (simp <;> omega)) _) | (with_reducible refine Below.alloc ?_ (by first | omega | (simp <;> omega)) _) | (with_reducible refine Below.drew ?_) | (with_reducible refine below_drewN ?_ _) | (with_reducible refine Below.trans ?_ (Below.mono (by with_reducible assumption) (by first | omega | (simp <;> omega))))))))).mono ?_); rintro e wb1 ⟨rfl, b1⟩; have zb1 : w.heap.size + 1 + 1 ≤ wb1.heap.size := (by have hzz := Below.size b1; first | omega | (simp at hzz; omega)); replace b1 := Below.mono (B' := w.heap.size + 1 + 1) b1 (by first | omega | (simp <;> omega)); obtain ⟨hcb1, hfb1⟩ := bcell b1; have nb10 : w.heap.size < wb1.heap.size := (by omega); have nb11 : w.heap.size + 1 < wb1.heap.size := (by omega))
      | (go_at_call 17; (with_reducible refine (hr _).mono ?_); rintro e wb2 ⟨rfl, b2⟩; have zb2 : wb1.heap.size + 1 ≤ wb2.heap.size := (by have hzz := Below.size b2; first | omega | (simp at hzz; omega)); replace b2 := Below.mono (B' := wb1.heap.size + 1) b2 (by first | omega | (simp <;> omega)); obtain ⟨hcb2, hfb2⟩ := bcell b2; have nb20 : w.heap.size < wb2.heap.size := (by omega); have nb21 : w.heap.size + 1 < wb2.heap.size := (by omega); have nb22 : wb1.heap.size < wb2.heap.size := (by omega)))
    all_goals go_ret
    all_goals exact ⟨rfl, (by (repeat (first | (with_reducible exact Below.refl _ _) | (with_reducible assumption) | (with_reducible refine Below.setCell ?_ (by first | omega | (simp <;> omega)) _) | (with_reducible refine Below.alloc ?_ (by first | omega | (simp <;> omega)) _) | (with_reducible refine Below.drew ?_) | (with_reducible refine below_drewN ?_ _) | (with_reducible refine Below.trans ?_ (Below.mono (by with_reducible assumption) (by first | omega | (simp <;> omega)))))))⟩
  · go_enter Tryd.func4, Tryd.ntmps4
    go_wp2_with (first
      | (go_at_call 13; refine (known_any _ (ht.keep (by (repeat (first | (with_reducible exact Below.refl _ _) | (with_reducible assumption) | (with_reducible refine Below.setCell ?_ (by first | omega | (simp <;> omega)) _) | (with_reducible refine Below.alloc ?_ (by first | omega | (simp <;> omega)) _) | (with_reducible refine Below.drew ?_) | (with_reducible refine below_drewN ?_ _) | (with_reducible refine Below.trans ?_ (Below.mono (by with_reducible assumption) (by first | omega | (simp <;> omega))))))))).mono ?_; rintro e wb3 ⟨rfl, b3⟩))
    all_goals first
      | (exfalso; omega)
      | skip
    all_goals go_ret
    all_goals exact ⟨rfl, (by (repeat (first | (with_reducible exact Below.refl _ _) | (with_reducible assumption) | (with_reducible refine Below.setCell ?_ (by first | omega | (simp <;> omega)) _) | (with_reducible refine Below.alloc ?_ (by first | omega | (simp <;> omega)) _) | (with_reducible refine Below.drew ?_) | (with_reducible refine below_drewN ?_ _) | (with_reducible refine Below.trans ?_ (Below.mono (by with_reducible assumption) (by first | omega | (simp <;> omega)))))))⟩
end Go.Proofs.YtkfpomkfgdkjdaaDoor
