/- The walks of chapter 14: Truth, Text, Unary of the program. -/
import Derived.Test.YtkfpomkfgdkjdaaDoorW1
import Derived.Test.YtkfpomkfgdkjdaaDoorShelf
import Derived.WalkSmall
namespace Go.Proofs.YtkfpomkfgdkjdaaDoor
set_option linter.unusedVariables false
set_option linter.unusedSimpArgs false
open Go.RowKit

set_option maxHeartbeats 400000 in
theorem times_any (a b : Int) (w : World) (ha : -9007199254740991 ≤ a ∧ a ≤ 9007199254740991) (hb : -9007199254740991 ≤ b ∧ b ≤ 9007199254740991) :
    Calls Tryd.prog 52 #[.int .i64 a, .int .i64 b] w fun e w' => e = .returned (.tuple #[.int .i64 (timesO a b).1, .bool (timesO a b).2]) ∧ w' = w := by
  go_enter Tryd.func52, Tryd.ntmps52
  go_wp2_with (first
    | (go_at_call 70; refine (size_any _ _ (by omega)).mono ?_; rintro e w1 ⟨rfl, rfl⟩)
    | (go_at_call 71; refine (Tryd.bits_Mul64 _ _ (by omega) (by omega) _).mono ?_; rintro e w1 ⟨rfl, rfl⟩))
  all_goals go_ret2
  all_goals refine ⟨?_, rfl⟩
  all_goals first
    | (rw [timesO_big (by first | (left; assumption) | (right; assumption))]; rfl)
    | (obtain ⟨e1, e2, e3, e4⟩ := timesO_ok (a := a) (b := b) (by assumption) (by assumption)
       rename_i hs
       first
       | (have e5 := mul_neg' hs; rw [e1, e5]; clear e1 e5; generalize (a.natAbs : Int) * (b.natAbs : Int) = p at *; simp [e2, wrap64]; try omega)
       | (have e5 := mul_pos' hs; rw [e1, e5]; clear e1 e5; generalize (a.natAbs : Int) * (b.natAbs : Int) = p at *; simp [e2, wrap64]; try omega))

set_option maxHeartbeats 400000 in
theorem Truth_any (k n : Int) (s : ByteArray) (w : World) :
    Calls Tryd.prog 18 #[.agg #[.int .i64 k, .int .i64 n, .string s]] w fun e w' => e = .returned (.bool (truthy ⟨k, n, s⟩)) ∧ Below w.heap.size w w' := by
  go_enter Tryd.func18, Tryd.ntmps18
  go_wp2_with (first
    | (go_at_call 25; refine (plain_any _ _ _ _).mono ?_; rintro e wb1 ⟨rfl, b1⟩; have zb1 : w.heap.size + 1 ≤ wb1.heap.size := (by have hzz := Below.size b1; first | omega | (simp at hzz; omega)); replace b1 := Below.mono (B' := w.heap.size + 1) b1 (by first | omega | (simp <;> omega)); obtain ⟨hcb1, hfb1⟩ := bcell b1))
  all_goals go_ret
  all_goals refine ⟨?_, (by (repeat (first | (with_reducible exact Below.refl _ _) | (with_reducible assumption) | (with_reducible refine Below.setCell ?_ (by first | omega | (simp <;> omega)) _) | (with_reducible refine Below.alloc ?_ (by first | omega | (simp <;> omega)) _) | (with_reducible refine Below.drew ?_) | (with_reducible refine below_drewN ?_ _) | (with_reducible refine Below.trans ?_ (Below.mono (by with_reducible assumption) (by first | omega | (simp <;> omega)))))))⟩
  all_goals simp_all [truthy]
/-- The library's table of powers stands, below the call's own blocks. -/
def Tab (w : World) : Prop := Lib.TabIs Tryd.prog w "internal/strconv.uint64pow10" .u64 Lib.pow10Tab ∧ 0 < w.heap.size
theorem gPow : Tryd.prog.globalNamed "internal/strconv.uint64pow10" = some 0 := by kernel_rfl
theorem Tab.later {w w' : World} (h : Tab w) {B : Nat} (hb : Below B w w') (hB : 0 < B) : Tab w' := ⟨var?_below hb gPow hB h.1, Nat.lt_of_lt_of_le h.2 hb.size⟩
theorem Tab.keep {w w' : World} (h : Tab w) (hb : Below w.heap.size w w') : Tab w' := h.later hb h.2
theorem below_grow {w : World} {k : Nat} {os : Array Obj} : Below w.heap.size w (Go.Sort.grow (w.drewN k) os) :=
  ⟨rfl, rfl, rfl, by simp [Go.Sort.grow, World.drewN], fun j hj => by
    show (w.heap ++ os)[j]? = _
    rw [Array.getElem?_append_left hj]⟩
theorem itoa_any (n : Int) (h0 : -9223372036854775808 ≤ n) (h1 : n ≤ 9223372036854775807) (w : World) (ht : Tab w) :
    Calls Tryd.prog 46 #[.int .i64 n] w fun e w' => e = .returned (.string (digits n)) ∧ Below w.heap.size w w' :=
  (Tryd.strconv_Itoa n h0 h1 w ht.1).mono fun e w' ⟨he, k, os, hw⟩ => ⟨he, by rw [hw]; exact below_grow⟩
theorem fbool_any (b : Bool) (w : World) :
    Calls Tryd.prog 45 #[.bool b] w fun e w' => e = .returned (.string (if b then tTrue else tFalse)) ∧ w' = w :=
  (Tryd.strconv_FormatBool b w).mono fun e w' ⟨he, hw⟩ => ⟨by rw [he]; cases b <;> rfl, hw⟩
theorem below_drew_ {B : Nat} {a w : World} (h : Below B a w) : Below B a w.drew := h.drew

set_option maxHeartbeats 400000 in
theorem Text_any (k n : Int) (s : ByteArray) (w : World) (ht : Tab w) :
    Calls Tryd.prog 20 #[.agg #[.int .i64 k, .int .i64 n, .string s]] w fun e w' => e = .returned (.string (textOf ⟨k, n, s⟩)) ∧ Below w.heap.size w w' := by
  have hsb := Lib.hid (sane_bd ⟨k, n, s⟩)
  go_enter Tryd.func20, Tryd.ntmps20
  go_wp2_with (first
    | (go_at_call 25; refine (plain_any _ _ _ _).mono ?_; rintro e wb1 ⟨rfl, b1⟩; have zb1 : w.heap.size + 1 ≤ wb1.heap.size := (by have hzz := Below.size b1; first | omega | (simp at hzz; omega)); replace b1 := Below.mono (B' := w.heap.size + 1) b1 (by first | omega | (simp <;> omega)); obtain ⟨hcb1, hfb1⟩ := bcell b1)
    | (go_at_call 45; refine (fbool_any _ _).mono ?_; rintro e w2 ⟨rfl, rfl⟩)
    | (go_at_call 46; have h3 := hsb.out (by simpa using ‹((sane ⟨k, n, s⟩).k == 3) = true›); refine (itoa_any _ (by omega) (by omega) _ (ht.keep (by (repeat (first | (with_reducible exact Below.refl _ _) | (with_reducible assumption) | (with_reducible refine Below.setCell ?_ (by first | omega | (simp <;> omega)) _) | (with_reducible refine Below.alloc ?_ (by first | omega | (simp <;> omega)) _) | (with_reducible refine Below.drew ?_) | (with_reducible refine below_drewN ?_ _) | (with_reducible refine Below.trans ?_ (Below.mono (by with_reducible assumption) (by first | omega | (simp <;> omega))))))))).mono ?_; rintro e w2 ⟨rfl, b2⟩))

  all_goals go_ret
  all_goals refine ⟨?_, (by (repeat (first | (with_reducible exact Below.refl _ _) | (with_reducible assumption) | (with_reducible refine Below.setCell ?_ (by first | omega | (simp <;> omega)) _) | (with_reducible refine Below.alloc ?_ (by first | omega | (simp <;> omega)) _) | (with_reducible refine Below.drew ?_) | (with_reducible refine below_drewN ?_ _) | (with_reducible refine Below.trans ?_ (Below.mono (by with_reducible assumption) (by first | omega | (simp <;> omega)))))))⟩
  all_goals simp_all [textOf, tNull, tUndef]
end Go.Proofs.YtkfpomkfgdkjdaaDoor
