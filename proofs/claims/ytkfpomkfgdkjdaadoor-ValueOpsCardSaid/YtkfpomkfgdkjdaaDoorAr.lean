/- Plain: 32 digits of whole numbers, signed or not; the operators on them. No program in sight. -/
import Derived.Test.YtkfpomkfgdkjdaaDoorVal
import Derived.WalkKit
namespace Go.Proofs.YtkfpomkfgdkjdaaDoor
set_option linter.unusedVariables false
set_option linter.unusedSimpArgs false
open Go.RowKit

def s32 (n : Int) : Int := (n + 2147483648) % 4294967296 - 2147483648
def u32 (n : Int) : Int := n % 4294967296
theorem s32_bd (n : Int) : -2147483648 ≤ s32 n ∧ s32 n ≤ 2147483647 := by unfold s32; omega
theorem u32_bd (n : Int) : 0 ≤ u32 n ∧ u32 n ≤ 4294967295 := by unfold u32; omega
theorem low_form (n : Int) : wrap64 (wrap32 (IntKind.u64.wrap n % 4294967296)) = s32 n := by
  rw [show IntKind.u64.wrap n = n % 18446744073709551616 by simp [IntKind.wrap, IntKind.bits, IntKind.signed]]
  unfold wrap64 wrap32 s32; omega
theorem sig_form (n : Int) : wrap32 (n % 4294967296) = s32 n := by unfold wrap32 s32; omega

/-- '&', '|', '^' on 32 signed digits. -/
def b32 (op : BinOp) (a b : Int) : Int := bits op .i32 a b
theorem b32_bd (op : BinOp) (a b : Int) : -2147483648 ≤ b32 op a b ∧ b32 op a b ≤ 2147483647 := by
  unfold b32 bits; simp only [IntKind.wrap_i32]; omega

theorem ofInt_s32 (a : Int) : BitVec.ofInt 32 (s32 a) = BitVec.ofInt 32 a := by
  apply BitVec.eq_of_toInt_eq
  rw [BitVec.toInt_ofInt, BitVec.toInt_ofInt]
  rw [Int.bmod_def, Int.bmod_def]
  unfold s32
  omega
theorem toInt_ofInt32 (a : Int) : (BitVec.ofInt 32 a).toInt = s32 a := by
  rw [BitVec.toInt_ofInt, Int.bmod_def]; unfold s32; omega
theorem ofInt64_s32 (a : Int) : BitVec.ofInt 64 (s32 a) = (BitVec.ofInt 32 a).signExtend 64 := by
  rw [BitVec.signExtend, toInt_ofInt32]
theorem ofInt64_u32 (a : Int) : BitVec.ofInt 64 (u32 a) = (BitVec.ofInt 32 a).setWidth 64 := by
  apply BitVec.eq_of_toNat_eq
  rw [BitVec.toNat_setWidth, BitVec.toNat_ofInt, BitVec.toNat_ofInt]
  unfold u32; omega
theorem wrap64_toNat (x : BitVec 64) : IntKind.i64.wrap (x.toNat : Int) = x.toInt := by
  rw [IntKind.wrap_i64, BitVec.toInt_eq_toNat_cond]
  have := x.isLt
  split <;> omega
theorem wrap32_toNat (x : BitVec 32) : IntKind.i32.wrap (x.toNat : Int) = x.toInt := by
  rw [IntKind.wrap_i32, BitVec.toInt_eq_toNat_cond]
  have := x.isLt
  split <;> omega
theorem toInt_signExtend64 (x : BitVec 32) : (x.signExtend 64).toInt = x.toInt := BitVec.toInt_signExtend_of_le (by omega)

theorem and_ss (a b : Int) : bits .and .i64 (s32 a) (s32 b) = b32 .and a b := by
  show IntKind.i64.wrap ((BitVec.ofInt 64 (s32 a) &&& BitVec.ofInt 64 (s32 b)).toNat : Int) = IntKind.i32.wrap ((BitVec.ofInt 32 a &&& BitVec.ofInt 32 b).toNat : Int)
  rw [ofInt64_s32, ofInt64_s32, wrap64_toNat, wrap32_toNat, ← BitVec.signExtend_and, toInt_signExtend64]
theorem or_ss (a b : Int) : bits .or .i64 (s32 a) (s32 b) = b32 .or a b := by
  show IntKind.i64.wrap ((BitVec.ofInt 64 (s32 a) ||| BitVec.ofInt 64 (s32 b)).toNat : Int) = IntKind.i32.wrap ((BitVec.ofInt 32 a ||| BitVec.ofInt 32 b).toNat : Int)
  rw [ofInt64_s32, ofInt64_s32, wrap64_toNat, wrap32_toNat, ← BitVec.signExtend_or, toInt_signExtend64]
theorem xor_ss (a b : Int) : bits .xor .i64 (s32 a) (s32 b) = b32 .xor a b := by
  show IntKind.i64.wrap ((BitVec.ofInt 64 (s32 a) ^^^ BitVec.ofInt 64 (s32 b)).toNat : Int) = IntKind.i32.wrap ((BitVec.ofInt 32 a ^^^ BitVec.ofInt 32 b).toNat : Int)
  rw [ofInt64_s32, ofInt64_s32, wrap64_toNat, wrap32_toNat, ← BitVec.signExtend_xor, toInt_signExtend64]
theorem s32_low (x : BitVec 32) : s32 (IntKind.i64.wrap ((x.setWidth 64).toNat : Int)) = IntKind.i32.wrap (x.toNat : Int) := by
  rw [BitVec.toNat_setWidth, IntKind.wrap_i64, IntKind.wrap_i32]
  have := x.isLt
  unfold s32; omega
theorem and_uu (a b : Int) : s32 (bits .and .i64 (u32 a) (u32 b)) = b32 .and a b := by
  show s32 (IntKind.i64.wrap ((BitVec.ofInt 64 (u32 a) &&& BitVec.ofInt 64 (u32 b)).toNat : Int)) = IntKind.i32.wrap ((BitVec.ofInt 32 a &&& BitVec.ofInt 32 b).toNat : Int)
  rw [ofInt64_u32, ofInt64_u32, ← BitVec.setWidth_and, s32_low]
theorem or_uu (a b : Int) : s32 (bits .or .i64 (u32 a) (u32 b)) = b32 .or a b := by
  show s32 (IntKind.i64.wrap ((BitVec.ofInt 64 (u32 a) ||| BitVec.ofInt 64 (u32 b)).toNat : Int)) = IntKind.i32.wrap ((BitVec.ofInt 32 a ||| BitVec.ofInt 32 b).toNat : Int)
  rw [ofInt64_u32, ofInt64_u32, ← BitVec.setWidth_or, s32_low]
theorem xor_uu (a b : Int) : s32 (bits .xor .i64 (u32 a) (u32 b)) = b32 .xor a b := by
  show s32 (IntKind.i64.wrap ((BitVec.ofInt 64 (u32 a) ^^^ BitVec.ofInt 64 (u32 b)).toNat : Int)) = IntKind.i32.wrap ((BitVec.ofInt 32 a ^^^ BitVec.ofInt 32 b).toNat : Int)
  rw [ofInt64_u32, ofInt64_u32, ← BitVec.setWidth_xor, s32_low]
theorem b32_ss (op : BinOp) (a b : Int) : bits op .i32 (s32 a) (s32 b) = b32 op a b := by
  unfold b32 bits; simp only [IntKind.bits, ofInt_s32]
theorem mask31 (b : Int) : bits .and .i64 b 31 = b % 32 := by
  show IntKind.i64.wrap ((BitVec.ofInt 64 b &&& BitVec.ofInt 64 31).toNat : Int) = _
  rw [BitVec.toNat_and, BitVec.toNat_ofInt, show (BitVec.ofInt 64 31).toNat = 2 ^ 5 - 1 from rfl, Nat.and_two_pow_sub_one_eq_mod, IntKind.wrap_i64]
  omega
theorem mask31u (b : Int) : bits .and .u32 (u32 b) 31 = b % 32 := by
  show IntKind.u32.wrap ((BitVec.ofInt 32 (u32 b) &&& BitVec.ofInt 32 31).toNat : Int) = _
  rw [BitVec.toNat_and, BitVec.toNat_ofInt, show (BitVec.ofInt 32 31).toNat = 2 ^ 5 - 1 from rfl, Nat.and_two_pow_sub_one_eq_mod, IntKind.wrap_u32]
  unfold u32; omega

/-- The three shifts, by k digits. -/
def shl32 (a : Int) (k : Nat) : Int := s32 (a * 2 ^ k)
def shr32 (a : Int) (k : Nat) : Int := s32 a / 2 ^ k
def ushr32 (a : Int) (k : Nat) : Int := u32 a / 2 ^ k
theorem pow_bd (k : Nat) (hk : k < 32) : (1 : Int) ≤ 2 ^ k ∧ (2 : Int) ^ k ≤ 2147483648 := by
  have h1 : (2 : Nat) ^ k ≤ 2 ^ 31 := Nat.pow_le_pow_right (by decide) (by omega)
  have h2 : 1 ≤ (2 : Nat) ^ k := Nat.one_le_two_pow
  have h3 : ((2 ^ k : Nat) : Int) = (2 : Int) ^ k := by simp
  omega
theorem s32_congr {a b q : Int} (h : a = b + 4294967296 * q) : s32 a = s32 b := by subst h; unfold s32; omega
theorem shl_of_s (a : Int) (k : Nat) : s32 (s32 a * 2 ^ k) = shl32 a k := by
  have : s32 a = a + 4294967296 * (-((a + 2147483648) / 4294967296)) := by unfold s32; omega
  refine s32_congr (q := -((a + 2147483648) / 4294967296) * 2 ^ k) ?_
  rw [this, Int.add_mul, Int.mul_assoc]
theorem shl_of_u (a : Int) (k : Nat) : s32 (u32 a * 2 ^ k) = shl32 a k := by
  have : u32 a = a + 4294967296 * (-(a / 4294967296)) := by unfold u32; omega
  refine s32_congr (q := -(a / 4294967296) * 2 ^ k) ?_
  rw [this, Int.add_mul, Int.mul_assoc]
theorem shl_bd (x : Int) (k : Nat) (hk : k < 32) (h : -4294967296 ≤ x ∧ x ≤ 4294967296) : -9223372036854775808 ≤ x * 2 ^ k ∧ x * 2 ^ k ≤ 9223372036854775807 ∨ x = 4294967296 ∨ x = -4294967296 := by
  have h1 := pow_bd k hk
  by_cases e : x = 4294967296 ∨ x = -4294967296
  · exact .inr e
  left
  generalize (2 : Int) ^ k = p at *
  have a1 : x * p ≤ 4294967295 * p := Int.mul_le_mul_of_nonneg_right (by omega) (by omega)
  have a2 : -4294967295 * p ≤ x * p := Int.mul_le_mul_of_nonneg_right (by omega) (by omega)
  constructor <;> omega
theorem shr_bd (a : Int) (k : Nat) : -2147483648 ≤ shr32 a k ∧ shr32 a k ≤ 2147483647 := by
  have h := s32_bd a
  have h2 : (0 : Int) < 2 ^ k := Int.pow_pos (by decide)
  unfold shr32
  generalize s32 a = x at *
  generalize (2 : Int) ^ k = p at *
  constructor
  · exact (Int.le_ediv_iff_mul_le h2).2 (by have : -2147483648 * p ≤ -2147483648 * 1 := Int.mul_le_mul_of_nonpos_left (by omega) (by omega); omega)
  · exact Int.ediv_le_of_le_mul h2 (by have : 2147483647 * 1 ≤ 2147483647 * p := Int.mul_le_mul_of_nonneg_left (by omega) (by omega); omega)
theorem ushr_bd (a : Int) (k : Nat) : 0 ≤ ushr32 a k ∧ ushr32 a k ≤ 4294967295 := by
  have h := u32_bd a
  have h2 : (0 : Int) < 2 ^ k := Int.pow_pos (by decide)
  unfold ushr32
  generalize u32 a = x at *
  generalize (2 : Int) ^ k = p at *
  constructor
  · exact Int.ediv_nonneg h.1 (by omega)
  · exact Int.ediv_le_of_le_mul h2 (by have : 4294967295 * 1 ≤ 4294967295 * p := Int.mul_le_mul_of_nonneg_left (by omega) (by omega); omega)
theorem wrap_k (c : Int) (h0 : 0 ≤ c) (h1 : c < 32) : min c.toNat 64 = c.toNat ∧ min c.toNat 32 = c.toNat := by omega
theorem u_of_s (a : Int) : s32 a % 4294967296 = u32 a := by unfold s32 u32; omega
theorem s_of_u (a : Int) : s32 (u32 a) = s32 a := by unfold s32 u32; omega
theorem s32_wrap64 (n : Int) : s32 (wrap64 n) = s32 n := by unfold s32 wrap64; omega
theorem shl_fin (a : Int) (k : Nat) : s32 (wrap64 (s32 a * 2 ^ k)) = shl32 a k := by rw [s32_wrap64, shl_of_s]
theorem shl_finu (a : Int) (k : Nat) : s32 (wrap64 (u32 a * 2 ^ k)) = shl32 a k := by rw [s32_wrap64, shl_of_u]
theorem ushr_fin (a : Int) (k : Nat) : wrap64 (s32 a % 4294967296 / 2 ^ k) = ushr32 a k := by
  rw [u_of_s]; have := ushr_bd a k; unfold ushr32 at *; unfold wrap64; omega
theorem ushr_finu (a : Int) (k : Nat) : wrap64 (u32 a / 2 ^ k) = ushr32 a k := by
  have := ushr_bd a k; unfold ushr32 at *; unfold wrap64; omega
/-- The product's answer. -/
def timesO (a b : Int) : Int × Bool := if a.natAbs * b.natAbs ≤ 9007199254740991 then (a * b, true) else (0, false)
theorem mul_sign (a b : Int) : (if (decide (a < 0) != decide (b < 0)) = true then -((a.natAbs * b.natAbs : Nat) : Int) else ((a.natAbs * b.natAbs : Nat) : Int)) = a * b := by
  rcases Int.lt_or_le a 0 with ha | ha <;> rcases Int.lt_or_le b 0 with hb | hb
  all_goals
    rw [Int.natCast_mul]
  · rw [if_neg (by simp [ha, hb]), Int.ofNat_natAbs_of_nonpos (by omega), Int.ofNat_natAbs_of_nonpos (by omega), Int.neg_mul_neg]
  · rw [if_pos (by simp [ha]; omega), Int.ofNat_natAbs_of_nonpos (by omega), Int.natAbs_of_nonneg hb, Int.neg_mul, Int.neg_neg]
  · rw [if_pos (by simp [hb]; omega), Int.natAbs_of_nonneg ha, Int.ofNat_natAbs_of_nonpos (by omega), Int.mul_neg, Int.neg_neg]
  · rw [if_neg (by simp; omega), Int.natAbs_of_nonneg ha, Int.natAbs_of_nonneg hb]
theorem timesO_big {a b : Int} (h : 9007199254740991 < (a.natAbs : Int) * (b.natAbs : Int) % 18446744073709551616 ∨ ¬ (a.natAbs : Int) * (b.natAbs : Int) / 18446744073709551616 = 0) : timesO a b = (0, false) := by
  unfold timesO; rw [← Int.natCast_mul] at h; exact if_neg (by omega)
theorem timesO_ok {a b : Int} (h0 : (a.natAbs : Int) * (b.natAbs : Int) / 18446744073709551616 = 0) (h : (a.natAbs : Int) * (b.natAbs : Int) % 18446744073709551616 ≤ 9007199254740991) : timesO a b = (a * b, true) ∧ (a.natAbs : Int) * (b.natAbs : Int) % 18446744073709551616 = (a.natAbs : Int) * (b.natAbs : Int) ∧ (a.natAbs : Int) * (b.natAbs : Int) ≤ 9007199254740991 ∧ 0 ≤ (a.natAbs : Int) * (b.natAbs : Int) := by
  unfold timesO; rw [← Int.natCast_mul] at *; exact ⟨if_pos (by omega), by omega, by omega, by omega⟩
theorem mul_neg' {a b : Int} (h : (!decide (a < 0) == decide (b < 0)) = true) : a * b = -((a.natAbs : Int) * (b.natAbs : Int)) := by
  rw [← mul_sign a b, ← Int.natCast_mul, if_pos (by revert h; cases decide (a < 0) <;> cases decide (b < 0) <;> decide)]
theorem mul_pos' {a b : Int} (h : (!decide (a < 0) == decide (b < 0)) = false) : a * b = (a.natAbs : Int) * (b.natAbs : Int) := by
  rw [← mul_sign a b, ← Int.natCast_mul, if_neg (by revert h; cases decide (a < 0) <;> cases decide (b < 0) <;> decide)]
theorem not_form (x : Int) (h : -9223372036854775808 ≤ x ∧ x ≤ 9223372036854775807) : bits .xor .i64 (-1) x = -x - 1 := by
  show IntKind.i64.wrap ((BitVec.ofInt 64 (-1) ^^^ BitVec.ofInt 64 x).toNat : Int) = _
  rw [show BitVec.ofInt 64 (-1) = BitVec.allOnes 64 from rfl, BitVec.xor_comm, BitVec.xor_allOnes, BitVec.toNat_not, BitVec.toNat_ofInt, IntKind.wrap_i64]
  omega
theorem not_s32 (n : Int) : bits .xor .i64 (-1) (s32 n) = -(s32 n) - 1 := not_form _ (by have := s32_bd n; omega)
theorem sane_idem (v : V) : sane ⟨(sane v).k, (sane v).n, (sane v).s⟩ = sane v := by
  unfold sane
  by_cases h2 : v.k = 2
  · simp [h2, vb, b2i]
  by_cases h3 : v.k = 3
  · simp [h3, vn]; have := clamp_bd v.n; unfold clamp big at *; rw [if_neg (by omega), if_neg (by omega)]
  by_cases h4 : v.k = 4
  · simp [h4, vs]
  by_cases h5 : v.k = 5
  · simp [h5]
  by_cases h1 : v.k = 1
  · simp [h1]
  simp [h1, h2, h3, h4, h5, vu]
theorem truthy_sane (v : V) : truthy ⟨(sane v).k, (sane v).n, (sane v).s⟩ = truthy v := by unfold truthy; rw [sane_idem]
theorem textOf_sane (v : V) : textOf ⟨(sane v).k, (sane v).n, (sane v).s⟩ = textOf v := by unfold textOf; rw [sane_idem]
theorem neg_sane {v : V} (h : (sane v).k = 3) : wrap64 (-(sane v).n) = -(sane v).n := by have := sane_bd v h; unfold wrap64; omega
def unO (op : ByteArray) (v : V) : O :=
  if op.toList == [33] then done (vb (!truthy v))
  else if op.toList == [45] || op.toList == [126] then
    (if (sane v).k != 3 then thrown eNum else if op.toList == [126] then done (vn (-(s32 (sane v).n) - 1)) else done (vn (-(sane v).n)))
  else done vu
end Go.Proofs.YtkfpomkfgdkjdaaDoor
