/- The walks of chapter 14's laws: what they share. -/
import Derived.Test.YtkfpomkfgdkjdaaDoorBinPlus
import Derived.Test.YtkfpomkfgdkjdaaDoorW9
namespace Go.Proofs.YtkfpomkfgdkjdaaDoor
set_option linter.unusedVariables false
set_option linter.unusedSimpArgs false
open Go.RowKit
attribute [local go_sem] valEq
theorem five_is : plusO ⟨3, 2, ⟨#[]⟩⟩ ⟨3, 3, ⟨#[]⟩⟩ = done (vn 5) := by
  rw [plusO_num rfl rfl]; exact exactO_in rfl (by decide) (by decide)
theorem neg_is : unO ⟨#[45]⟩ ⟨4, 0, ⟨#[97]⟩⟩ = thrown eNum := by simp [unO, sane, vs]
theorem txt_is : textOf ⟨3, 5, ⟨#[]⟩⟩ = ⟨#[53]⟩ := by
  show digits 5 = _
  unfold digits Lib.itoa
  rw [if_neg (by decide), decDigits_lt (by decide)]
  rfl
theorem known_add (w : World) : Calls Tryd.prog 16 #[.string ⟨#[43]⟩, .agg #[.int .i64 3, .int .i64 2, .string ⟨#[]⟩], .agg #[.int .i64 3, .int .i64 3, .string ⟨#[]⟩]] w fun e w' =>
    e = .returned (.tuple #[.agg #[.int .i64 3, .int .i64 5, .string ⟨#[]⟩], .string ⟨#[]⟩, .int .i64 0]) ∧ Below w.heap.size w w' :=
  (Binary_plus_num ⟨3, 2, ⟨#[]⟩⟩ ⟨3, 3, ⟨#[]⟩⟩ w rfl rfl).mono fun e w' ⟨he, hb⟩ => ⟨by rw [he, five_is]; rfl, hb⟩
theorem known_neg (w : World) : Calls Tryd.prog 14 #[.string ⟨#[45]⟩, .agg #[.int .i64 4, .int .i64 0, .string ⟨#[97]⟩]] w fun e w' =>
    e = .returned (.tuple #[.agg #[.int .i64 0, .int .i64 0, .string ⟨#[]⟩], .string eNum, .int .i64 1]) ∧ Below w.heap.size w w' :=
  (Unary_any ⟨#[45]⟩ 4 0 ⟨#[97]⟩ w).mono fun e w' ⟨he, hb⟩ => ⟨by rw [he, neg_is]; rfl, hb⟩
theorem known_txt (w : World) (ht : Tab w) : Calls Tryd.prog 20 #[.agg #[.int .i64 3, .int .i64 5, .string ⟨#[]⟩]] w fun e w' =>
    e = .returned (.string ⟨#[53]⟩) ∧ Below w.heap.size w w' :=
  (Text_any 3 5 ⟨#[]⟩ w ht).mono fun e w' ⟨he, hb⟩ => ⟨by rw [he, txt_is], hb⟩

set_option maxHeartbeats 1000000 in
theorem known_any (w : World) (ht : Tab w) : Calls Tryd.prog 13 #[] w fun e w' => e = .returned (.bool true) ∧ Below w.heap.size w w' := by
  have hen : eNum.toList = [84, 121, 112, 101, 69, 114, 114, 111, 114, 58, 32, 110, 117, 109, 98, 101, 114] := by decide +kernel
  go_enter Tryd.func13, Tryd.ntmps13
  go_wp2_with (first
    | (go_at_call 16; refine (known_add _).mono ?_; rintro e wb1 ⟨rfl, b1⟩; have zb1 : w.heap.size + 0 ≤ wb1.heap.size := (by have hzz := Below.size b1; first | omega | (simp at hzz; omega)); replace b1 := Below.mono (B' := w.heap.size + 0) b1 (by first | omega | (simp <;> omega)); obtain ⟨hcb1, hfb1⟩ := bcell b1)
    | (go_at_call 14; refine (known_neg _).mono ?_; rintro e wb2 ⟨rfl, b2⟩; have zb2 : wb1.heap.size + 1 ≤ wb2.heap.size := (by have hzz := Below.size b2; first | omega | (simp at hzz; omega)); replace b2 := Below.mono (B' := wb1.heap.size + 1) b2 (by first | omega | (simp <;> omega)); obtain ⟨hcb2, hfb2⟩ := bcell b2; have n2 : wb1.heap.size < wb2.heap.size := (by omega))
    | (go_at_call 20; refine (known_txt _ (ht.keep (by (repeat (first | (with_reducible exact Below.refl _ _) | (with_reducible assumption) | (with_reducible refine Below.setCell ?_ (by first | omega | (simp <;> omega)) _) | (with_reducible refine Below.alloc ?_ (by first | omega | (simp <;> omega)) _) | (with_reducible refine Below.drew ?_) | (with_reducible refine below_drewN ?_ _) | (with_reducible refine Below.trans ?_ (Below.mono (by with_reducible assumption) (by first | omega | (simp <;> omega))))))))).mono ?_; rintro e wb3 ⟨rfl, b3⟩))
  all_goals go_ret
  all_goals exact ⟨rfl, (by (repeat (first | (with_reducible exact Below.refl _ _) | (with_reducible assumption) | (with_reducible refine Below.setCell ?_ (by first | omega | (simp <;> omega)) _) | (with_reducible refine Below.alloc ?_ (by first | omega | (simp <;> omega)) _) | (with_reducible refine Below.drew ?_) | (with_reducible refine below_drewN ?_ _) | (with_reducible refine Below.trans ?_ (Below.mono (by with_reducible assumption) (by first | omega | (simp <;> omega)))))))⟩

set_option maxHeartbeats 1000000 in
theorem ValueUnary_any (op : ByteArray) (k n : Int) (s : ByteArray) (w : World) (ht : Tab w) (h1 : op.size ≤ 140737488351232) (h2 : s.size ≤ 140737488351232) :
    Calls Tryd.prog 3 #[.string op, .agg #[.int .i64 k, .int .i64 n, .string s]] w fun e w' => e = .returned (.bool true) ∧ Below w.heap.size w w' := by
  go_enter Tryd.func3, Tryd.ntmps3
  go_wp2_with (first
    | (go_at_call 13; refine (known_any _ (ht.keep (by (repeat (first | (with_reducible exact Below.refl _ _) | (with_reducible assumption) | (with_reducible refine Below.setCell ?_ (by first | omega | (simp <;> omega)) _) | (with_reducible refine Below.alloc ?_ (by first | omega | (simp <;> omega)) _) | (with_reducible refine Below.drew ?_) | (with_reducible refine below_drewN ?_ _) | (with_reducible refine Below.trans ?_ (Below.mono (by with_reducible assumption) (by first | omega | (simp <;> omega))))))))).mono ?_; rintro e wb3 ⟨rfl, b3⟩)
    | (go_at_call 14; refine (Unary_any _ _ _ _ _).mono ?_; rintro e wb1 ⟨rfl, b1⟩; have zb1 : w.heap.size + 1 ≤ wb1.heap.size := (by have hzz := Below.size b1; first | omega | (simp at hzz; omega)); replace b1 := Below.mono (B' := w.heap.size + 1) b1 (by first | omega | (simp <;> omega)); obtain ⟨hcb1, hfb1⟩ := bcell b1; have nb1 : w.heap.size < wb1.heap.size := (by omega))
    | (go_at_call 15; refine (rUnary_any _ _ _ _ _).mono ?_; rintro e wb2 ⟨rfl, b2⟩; have zb2 : wb1.heap.size + 1 ≤ wb2.heap.size := (by have hzz := Below.size b2; first | omega | (simp at hzz; omega)); replace b2 := Below.mono (B' := wb1.heap.size + 1) b2 (by first | omega | (simp <;> omega)); obtain ⟨hcb2, hfb2⟩ := bcell b2; have n2 : wb1.heap.size < wb2.heap.size := (by omega)))
  all_goals go_ret
  all_goals exact ⟨rfl, (by (repeat (first | (with_reducible exact Below.refl _ _) | (with_reducible assumption) | (with_reducible refine Below.setCell ?_ (by first | omega | (simp <;> omega)) _) | (with_reducible refine Below.alloc ?_ (by first | omega | (simp <;> omega)) _) | (with_reducible refine Below.drew ?_) | (with_reducible refine below_drewN ?_ _) | (with_reducible refine Below.trans ?_ (Below.mono (by with_reducible assumption) (by first | omega | (simp <;> omega)))))))⟩
end Go.Proofs.YtkfpomkfgdkjdaaDoor
