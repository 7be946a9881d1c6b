/- The walks of chapter 14's laws: sums and remainders. -/
import Derived.Test.YtkfpomkfgdkjdaaDoorL1
import Derived.Test.YtkfpomkfgdkjdaaDoorBinSub
import Derived.Test.YtkfpomkfgdkjdaaDoorBinRem
namespace Go.Proofs.YtkfpomkfgdkjdaaDoor
set_option linter.unusedVariables false
set_option linter.unusedSimpArgs false
open Go.RowKit
attribute [local go_sem] valEq
theorem sane_num {a : Int} (ha : -9007199254740991 ≤ a ∧ a ≤ 9007199254740991) : sane ⟨3, a, ⟨#[]⟩⟩ = ⟨3, a, ⟨#[]⟩⟩ := by
  unfold sane vn clamp big; simp; rw [if_neg (by omega), if_neg (by omega)]
/-- The sum of two numbers. -/
theorem add_in (a b : Int) (ha : -9007199254740991 ≤ a ∧ a ≤ 9007199254740991) (hb : -9007199254740991 ≤ b ∧ b ≤ 9007199254740991) (w : World) :
    Calls Tryd.prog 16 #[.string ⟨#[43]⟩, .agg #[.int .i64 3, .int .i64 a, .string ⟨#[]⟩], .agg #[.int .i64 3, .int .i64 b, .string ⟨#[]⟩]] w fun e w' => e = .returned (.tuple #[.agg #[.int .i64 (exactO (a + b) true).v.k, .int .i64 (exactO (a + b) true).v.n, .string (exactO (a + b) true).v.s], .string (exactO (a + b) true).t, .int .i64 (exactO (a + b) true).f]) ∧ Below w.heap.size w w' :=
  (Binary_plus_num ⟨3, a, ⟨#[]⟩⟩ ⟨3, b, ⟨#[]⟩⟩ w rfl rfl).mono fun e w' ⟨he, hb'⟩ => ⟨by rw [he, plusO_num rfl rfl, sane_num ha, sane_num hb], hb'⟩
theorem sub_in (a b : Int) (ha : -9007199254740991 ≤ a ∧ a ≤ 9007199254740991) (hb : -9007199254740991 ≤ b ∧ b ≤ 9007199254740991) (w : World) :
    Calls Tryd.prog 16 #[.string ⟨#[45]⟩, .agg #[.int .i64 3, .int .i64 a, .string ⟨#[]⟩], .agg #[.int .i64 3, .int .i64 b, .string ⟨#[]⟩]] w fun e w' => e = .returned (.tuple #[.agg #[.int .i64 (exactO (a - b) true).v.k, .int .i64 (exactO (a - b) true).v.n, .string (exactO (a - b) true).v.s], .string (exactO (a - b) true).t, .int .i64 (exactO (a - b) true).f]) ∧ Below w.heap.size w w' :=
  (Binary_sub ⟨3, a, ⟨#[]⟩⟩ ⟨3, b, ⟨#[]⟩⟩ w).mono fun e w' ⟨he, hb'⟩ => ⟨by rw [he, numO_yes rfl rfl, sane_num ha, sane_num hb]; rfl, hb'⟩
theorem rem_in (a b : Int) (ha : -9007199254740991 ≤ a ∧ a ≤ 9007199254740991) (hb : -9007199254740991 ≤ b ∧ b ≤ 9007199254740991) (w : World) :
    Calls Tryd.prog 16 #[.string ⟨#[37]⟩, .agg #[.int .i64 3, .int .i64 a, .string ⟨#[]⟩], .agg #[.int .i64 3, .int .i64 b, .string ⟨#[]⟩]] w fun e w' => e = .returned (.tuple #[.agg #[.int .i64 (exactO (fRem a b).1 (fRem a b).2).v.k, .int .i64 (exactO (fRem a b).1 (fRem a b).2).v.n, .string (exactO (fRem a b).1 (fRem a b).2).v.s], .string (exactO (fRem a b).1 (fRem a b).2).t, .int .i64 (exactO (fRem a b).1 (fRem a b).2).f]) ∧ Below w.heap.size w w' :=
  (Binary_rem ⟨3, a, ⟨#[]⟩⟩ ⟨3, b, ⟨#[]⟩⟩ w).mono fun e w' ⟨he, hb'⟩ => ⟨by rw [he, numO_yes rfl rfl, sane_num ha, sane_num hb], hb'⟩
theorem neg_in (a : Int) (ha : -9007199254740991 ≤ a ∧ a ≤ 9007199254740991) (w : World) :
    Calls Tryd.prog 14 #[.string ⟨#[45]⟩, .agg #[.int .i64 3, .int .i64 a, .string ⟨#[]⟩]] w fun e w' => e = .returned (.tuple #[.agg #[.int .i64 3, .int .i64 (-a), .string ⟨#[]⟩], .string ⟨#[]⟩, .int .i64 0]) ∧ Below w.heap.size w w' :=
  (Unary_any ⟨#[45]⟩ 3 a ⟨#[]⟩ w).mono fun e w' ⟨he, hb'⟩ => ⟨by rw [he]; simp [unO, sane_num ha, done, vn], hb'⟩

end Go.Proofs.YtkfpomkfgdkjdaaDoor
