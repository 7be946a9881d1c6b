/- Chapter 14: what the order operators share. -/
import Derived.Test.YtkfpomkfgdkjdaaDoorW5
import Derived.Test.YtkfpomkfgdkjdaaDoorW10
namespace Go.Proofs.YtkfpomkfgdkjdaaDoor
set_option linter.unusedVariables false
set_option linter.unusedSimpArgs false
open Go.RowKit
theorem ordO_num {f : Int → Bool} {cmp : ByteArray → ByteArray → Int} {a b : V} (h : (sane a).k = 3) (h' : (sane b).k = 3) : ordO f cmp a b = done (vb (f ((sane a).n - (sane b).n))) := if_pos ⟨h, h'⟩
theorem ordO_txt {f : Int → Bool} {cmp : ByteArray → ByteArray → Int} {a b : V} (h : (sane a).k = 4) (h' : (sane b).k = 4) : ordO f cmp a b = done (vb (f (cmp (sane a).s (sane b).s))) := by
  unfold ordO; rw [if_neg (by omega), if_pos ⟨h, h'⟩]
theorem ordO_no {f : Int → Bool} {cmp : ByteArray → ByteArray → Int} {a b : V} (h : ¬ ((sane a).k = 3 ∧ (sane b).k = 3)) (h' : ¬ ((sane a).k = 4 ∧ (sane b).k = 4)) : ordO f cmp a b = thrown eOrder := by
  unfold ordO; rw [if_neg h, if_neg h']
def flt (c : Int) : Bool := decide (c < 0)
set_option maxHeartbeats 400000 in
theorem num_lt (w : World) : Calls Tryd.prog 38 #[.string ⟨#[60]⟩] w fun e w' => e = .returned .nilFunc ∧ w' = w := by
  go_enter Tryd.func38, Tryd.ntmps38
  go_wp2
  go_ret
  exact ⟨rfl, rfl⟩
def fle (c : Int) : Bool := decide (c ≤ 0)
set_option maxHeartbeats 400000 in
theorem num_le (w : World) : Calls Tryd.prog 38 #[.string ⟨#[60, 61]⟩] w fun e w' => e = .returned .nilFunc ∧ w' = w := by
  go_enter Tryd.func38, Tryd.ntmps38
  go_wp2
  go_ret
  exact ⟨rfl, rfl⟩
def fgt (c : Int) : Bool := decide (0 < c)
set_option maxHeartbeats 400000 in
theorem num_gt (w : World) : Calls Tryd.prog 38 #[.string ⟨#[62]⟩] w fun e w' => e = .returned .nilFunc ∧ w' = w := by
  go_enter Tryd.func38, Tryd.ntmps38
  go_wp2
  go_ret
  exact ⟨rfl, rfl⟩
def fge (c : Int) : Bool := decide (0 ≤ c)
set_option maxHeartbeats 400000 in
theorem num_ge (w : World) : Calls Tryd.prog 38 #[.string ⟨#[62, 61]⟩] w fun e w' => e = .returned .nilFunc ∧ w' = w := by
  go_enter Tryd.func38, Tryd.ntmps38
  go_wp2
  go_ret
  exact ⟨rfl, rfl⟩
end Go.Proofs.YtkfpomkfgdkjdaaDoor
