/- Plain: a digit as the scanner looks for it. No program in sight. -/
import Derived.Test.YtdlppdoankeilaaDoorLex2
import Derived.Lib.Bytealg
import Derived.Laws.BitsLemmas
namespace Go.Proofs.YtdlppdoankeilaaDoor
set_option linter.unusedVariables false
set_option linter.unusedSimpArgs false
set_option linter.unnecessarySimpa false
open Go.RowKit
def hexL : List UInt8 := [48, 49, 50, 51, 52, 53, 54, 55, 56, 57, 97, 98, 99, 100, 101, 102]
set_option maxRecDepth 100000 in
/-- The place of a byte's lower case among the digits is the digit; a byte ahead of '0' is none. -/
theorem hex_at : ∀ c : Fin 256, (hexD c.1 = if Lib.indexByte hexL (UInt8.ofNat c.1 ||| 32) < 0 ∨ c.1 < 48 then -1 else Lib.indexByte hexL (UInt8.ofNat c.1 ||| 32)) := by decide
theorem hex_digit {c : Nat} (hc : c < 256) : hexD c = if Lib.indexByte hexL (UInt8.ofNat c ||| 32) < 0 ∨ c < 48 then -1 else Lib.indexByte hexL (UInt8.ofNat c ||| 32) := hex_at ⟨c, hc⟩
set_option maxRecDepth 100000 in
theorem idx_bd (c : Nat) (hc : c < 256) : -1 ≤ Lib.indexByte hexL (UInt8.ofNat c ||| 32) ∧ Lib.indexByte hexL (UInt8.ofNat c ||| 32) ≤ 15 := by
  have : ∀ c : Fin 256, -1 ≤ Lib.indexByte hexL (UInt8.ofNat c.1 ||| 32) ∧ Lib.indexByte hexL (UInt8.ofNat c.1 ||| 32) ≤ 15 := by decide
  exact this ⟨c, hc⟩
set_option maxRecDepth 100000 in
/-- The four blanks, as the scanner looks for them. -/
theorem blank_at : ∀ c : Fin 256, (decide (0 ≤ Lib.indexByte [32, 9, 10, 13] c.1.toUInt8)) = blankB c.1 := by decide
theorem blank_idx {c : Nat} (hc : c < 256) : decide (0 ≤ Lib.indexByte [32, 9, 10, 13] c.toUInt8) = blankB c := blank_at ⟨c, hc⟩
/-- Four bits shifted and a digit laid in are times sixteen and the digit. -/
theorem shl_or {v d : Nat} (hd : d < 16) : (v <<< 4) ||| d = v * 16 + d := by
  rw [← Nat.shiftLeft_add_eq_or_of_lt (by omega : d < 2 ^ 4), Nat.shiftLeft_eq]
theorem hex_or {c : Nat} (hc : c < 256) : UInt8.ofNat (bits .or .u8 (c : Int) 32).toNat = (UInt8.ofNat c ||| 32) := by
  have := (bits_nat .u8 8 (by decide) wraps_u8 c 32 (by omega) (by decide)).2
  rw [show ((32 : Nat) : Int) = 32 from rfl] at this
  rw [this, Int.toNat_natCast, UInt8.ofNat_or]; rfl
theorem wraps_i64 (n : Int) (h₀ : 0 ≤ n) (h₁ : n < 2 ^ 63) : IntKind.i64.wrap n = n := by rw [IntKind.wrap_i64]; omega
theorem hex_join {n : Nat} {d : Int} (hn : n < 1048576) (h0 : 0 ≤ d) (h1 : d ≤ 15) : bits .or .i64 ((n : Int) * 16) d = (n : Int) * 16 + d :=
  bits_join .i64 63 (by decide) wraps_i64 4 _ _ (by omega) (by omega) (by omega) h0 (by omega) (by omega)
end Go.Proofs.YtdlppdoankeilaaDoor
