/- The walks of chapter 1's small functions: wide, fits, cont. -/
import Derived.Test.YtcphkdooemengaaDoorDec
import Derived.Test.YtcphkdooemengaaDoorRd
import Derived.Test.YtcphkdooemengaaDoorProg
import Derived.WalkKit
import Derived.WalkSpells
import Derived.WalkLawsBesides
import Derived.Outline
import Derived.LoopTactic
namespace Go.Proofs.YtcphkdooemengaaDoor
set_option linter.unusedVariables false
set_option linter.unusedSimpArgs false
set_option linter.unnecessarySimpa false
open Go.RowKit

/-- How many bytes a first byte asks for, and its digits. -/
def wideN (c : Int) : Int := if c < 128 then 1 else if c / 32 = 6 then 2 else if c / 16 = 14 then 3 else if c / 8 = 30 then 4 else 0
def wideR (c : Int) : Int := if c < 128 then c else if c / 32 = 6 then c % 32 else if c / 16 = 14 then c % 16 else if c / 8 = 30 then c % 8 else 0
def fitsB (r n : Int) : Bool := if n = 1 then true else if n = 2 then decide (128 ≤ r) else if n = 3 then decide (2048 ≤ r ∧ (r < 55296 ∨ 57343 < r)) else decide (65536 ≤ r ∧ r ≤ 1114111)

set_option maxRecDepth 100000 in
set_option maxHeartbeats 1000000 in
theorem wide_any (c : Int) (hc0 : 0 ≤ c) (hc : c < 256) (w : World) :
    Calls Tryd.prog 52 #[.int .u8 c] w fun e w' => e = .returned (.tuple #[.int .i64 (wideN c), .int .i32 (wideR c)]) ∧ w' = w := by
  go_enter Tryd.func52, Tryd.ntmps52
  go_wp2
  all_goals go_ret2
  all_goals refine ⟨ret_ints ?_ ?_, rfl⟩
  all_goals (try simp only [beq_iff_eq, beq_eq_false_iff_ne, bne_iff_ne, bne_eq_false_iff_eq, ne_eq, decide_eq_true_eq, decide_eq_false_iff_not, Bool.and_eq_true, Bool.or_eq_true, Bool.not_eq_true, Bool.not_eq_false, Bool.false_eq_true, Decidable.not_not, Bool.not_eq_eq_eq_not, Bool.not_true, Bool.not_false] at *)
  all_goals (simp only [wideN, wideR]; (repeat' split) <;> omega)

set_option maxRecDepth 100000 in
set_option maxHeartbeats 1000000 in
theorem fits_any (r n : Int) (w : World) :
    Calls Tryd.prog 53 #[.int .i32 r, .int .i64 n] w fun e w' => e = .returned (.bool (fitsB r n)) ∧ w' = w := by
  go_enter Tryd.func53, Tryd.ntmps53
  go_wp2
  all_goals go_ret
  all_goals refine ⟨ret_bool (Bool.eq_iff_iff.2 ?_), rfl⟩
  all_goals (try simp only [beq_iff_eq, beq_eq_false_iff_ne, bne_iff_ne, bne_eq_false_iff_eq, ne_eq, decide_eq_true_eq, decide_eq_false_iff_not, Bool.and_eq_true, Bool.or_eq_true, Bool.not_eq_true, Bool.not_eq_false, Bool.false_eq_true, Decidable.not_not, Bool.not_eq_eq_eq_not, Bool.not_true, Bool.not_false] at *)
  all_goals (simp only [fitsB]; (repeat' split) <;> (first | (exfalso; omega) | simp <;> omega))

def contB (s : ByteArray) (i : Nat) : Bool := decide (i < s.size) && decide (128 ≤ bt s i) && decide (bt s i ≤ 191)
set_option maxRecDepth 100000 in
set_option maxHeartbeats 1000000 in
theorem cont_any (s : ByteArray) (A : Option Addr) (c : Nat) (i : Nat) (hi : i ≤ 140737488351232) (w : World) {B : Nat} (h : Rd w B A s.size (fun j => .int .u8 (bt s j : Int))) :
    Calls Tryd.prog 61 #[.slice A s.size c, .int .i64 i] w fun e w' => e = .returned (.bool (contB s i)) ∧ w' = w := by
  by_cases hlt : i < s.size
  · obtain ⟨ad, rfl, _, hc⟩ := h i hlt
    go_enter Tryd.func61, Tryd.ntmps61
    go_wp2
    all_goals go_ret
    all_goals refine ⟨ret_bool (Bool.eq_iff_iff.2 ?_), rfl⟩
    all_goals (try simp only [beq_iff_eq, beq_eq_false_iff_ne, bne_iff_ne, bne_eq_false_iff_eq, ne_eq, decide_eq_true_eq, decide_eq_false_iff_not, Bool.and_eq_true, Bool.or_eq_true, Bool.not_eq_true, Bool.not_eq_false, Bool.false_eq_true, Decidable.not_not, Bool.not_eq_eq_eq_not, Bool.not_true, Bool.not_false] at *)
    all_goals (simp [contB] <;> omega)
  · go_enter Tryd.func61, Tryd.ntmps61
    go_wp2
    all_goals go_ret
    all_goals refine ⟨ret_bool (Bool.eq_iff_iff.2 ?_), rfl⟩
    all_goals (try simp only [beq_iff_eq, beq_eq_false_iff_ne, bne_iff_ne, bne_eq_false_iff_eq, ne_eq, decide_eq_true_eq, decide_eq_false_iff_not, Bool.and_eq_true, Bool.or_eq_true, Bool.not_eq_true, Bool.not_eq_false, Bool.false_eq_true, Decidable.not_not, Bool.not_eq_eq_eq_not, Bool.not_true, Bool.not_false] at *)
    all_goals (simp [contB] <;> omega)
end Go.Proofs.YtcphkdooemengaaDoor
