/- Plain: what operators of two values answer. -/
import Derived.Test.YtkfpomkfgdkjdaaDoorAr
namespace Go.Proofs.YtkfpomkfgdkjdaaDoor
set_option linter.unusedVariables false
set_option linter.unusedSimpArgs false
open Go.RowKit

/-- What an operator of two numbers answers. -/
def numO (f : Int → Int → Int × Bool) (a b : V) : O :=
  if (sane a).k = 3 ∧ (sane b).k = 3 then exactO (f (sane a).n (sane b).n).1 (f (sane a).n (sane b).n).2 else thrown eNum
def fSub (a b : Int) : Int × Bool := (a - b, true)
def fRem (a b : Int) : Int × Bool := if b = 0 then (0, false) else (a.tmod b, true)
def fBit (op : BinOp) (a b : Int) : Int × Bool := (b32 op a b, true)
def fShl (a b : Int) : Int × Bool := (shl32 a (b % 32).toNat, true)
def fShr (a b : Int) : Int × Bool := (shr32 a (b % 32).toNat, true)
def fUshr (a b : Int) : Int × Bool := (ushr32 a (b % 32).toNat, true)
theorem numO_yes {f : Int → Int → Int × Bool} {a b : V} (h : (sane a).k = 3) (h' : (sane b).k = 3) : numO f a b = exactO (f (sane a).n (sane b).n).1 (f (sane a).n (sane b).n).2 := if_pos ⟨h, h'⟩
theorem numO_no {f : Int → Int → Int × Bool} {a b : V} (h : ¬ ((sane a).k = 3 ∧ (sane b).k = 3)) : numO f a b = thrown eNum := if_neg h
theorem sane_kind (v : V) : ((sane v).k = 0 ∨ (sane v).k = 1 → (sane v).n = 0) ∧ ((sane v).k = 0 ∨ (sane v).k = 1 ∨ (sane v).k = 2 ∨ (sane v).k = 3 ∨ (sane v).k = 4 ∨ (sane v).k = 5) := by
  unfold sane
  by_cases h2 : v.k = 2
  · simp [h2, vb]
  by_cases h3 : v.k = 3
  · simp [h3, vn]
  by_cases h4 : v.k = 4
  · simp [h4, vs]
  by_cases h5 : v.k = 5
  · simp [h5]
  by_cases h1 : v.k = 1
  · simp [h1]
  simp [h1, h2, h3, h4, h5, vu]
theorem shr_wrap (a : Int) (k : Nat) : wrap64 (s32 a / 2 ^ k) = s32 a / 2 ^ k := by have := shr_bd a k; unfold shr32 at this; unfold wrap64; omega
theorem not_low (n : Int) : s32 (-(u32 n) - 1) = -(s32 n) - 1 := by unfold s32 u32; omega
theorem not_low2 (n : Int) : s32 (wrap64 (wrap64 (-(u32 n)) - 1)) = -(s32 n) - 1 := by unfold s32 u32 wrap64; omega
/-- Are two values the same? -/
def sameV (a b : V) : Bool := ((sane a).k == (sane b).k) && ((sane a).n == (sane b).n) && ((sane a).s.toList == (sane b).s.toList)
/-- '+'. -/
def plusO (a b : V) : O :=
  if (sane a).k = 3 ∧ (sane b).k = 3 then exactO ((sane a).n + (sane b).n) true
  else if (sane a).k ≠ 5 ∧ (sane b).k ≠ 5 ∧ ((sane a).k = 4 ∨ (sane b).k = 4) then
    (if 65536 < (textOf a).size + (textOf b).size then ⟨vu, ⟨#[]⟩, 3⟩ else done (vs (textOf a ++ textOf b)))
  else thrown ePlus
/-- An operator of order: what it says of a difference. -/
def ordO (f : Int → Bool) (cmp : ByteArray → ByteArray → Int) (a b : V) : O :=
  if (sane a).k = 3 ∧ (sane b).k = 3 then done (vb (f ((sane a).n - (sane b).n)))
  else if (sane a).k = 4 ∧ (sane b).k = 4 then done (vb (f (cmp (sane a).s (sane b).s)))
  else thrown eOrder
theorem plusO_num {a b : V} (h : (sane a).k = 3) (h' : (sane b).k = 3) : plusO a b = exactO ((sane a).n + (sane b).n) true := if_pos ⟨h, h'⟩
theorem plusO_no {a b : V} (h : ¬ ((sane a).k = 3 ∧ (sane b).k = 3)) (h' : ¬ ((sane a).k ≠ 5 ∧ (sane b).k ≠ 5 ∧ ((sane a).k = 4 ∨ (sane b).k = 4))) : plusO a b = thrown ePlus := by
  unfold plusO; rw [if_neg h, if_neg h']
theorem plusO_text {a b : V} (h5 : (sane a).k ≠ 5) (h5' : (sane b).k ≠ 5) (h4 : (sane a).k = 4 ∨ (sane b).k = 4) :
    plusO a b = if 65536 < (textOf a).size + (textOf b).size then ⟨vu, ⟨#[]⟩, 3⟩ else done (vs (textOf a ++ textOf b)) := by
  unfold plusO; rw [if_neg (by rintro ⟨h, h'⟩; omega), if_pos ⟨h5, h5', h4⟩]
end Go.Proofs.YtkfpomkfgdkjdaaDoor
