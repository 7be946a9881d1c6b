/- Plain: a text in quotes, as bytes. No program in sight. -/
import Derived.Test.YtdlppdoankeilaaDoorPl
import Derived.Lib.RuneBytes
import Derived.Lib.UnsafeStr
namespace Go.Proofs.YtdlppdoankeilaaDoor
set_option linter.unusedVariables false
set_option linter.unusedSimpArgs false
set_option linter.unnecessarySimpa false
open Go.RowKit

/-- Hexadecimal digits of a small number. -/
def hexU (d : Nat) : UInt8 := if d < 10 then UInt8.ofNat (48 + d) else UInt8.ofNat (87 + d)
def hexB (r : Nat) : ByteArray := if r < 16 then ⟨#[hexU r]⟩ else ⟨#[hexU (r / 16), hexU (r % 16)]⟩
theorem hexB_one {r : Nat} (h : r < 16) : hexB r = ⟨#[hexU r]⟩ := if_pos h
theorem hexB_two {r : Nat} (h : 16 ≤ r) : hexB r = ⟨#[hexU (r / 16), hexU (r % 16)]⟩ := if_neg (by omega)
theorem hexB_size (r : Nat) : (hexB r).size ≤ 2 := by unfold hexB; split <;> simp [ByteArray.size]

/-- What a rune is in quotes. -/
def qrune (r : Nat) : List UInt8 :=
  if r = 92 ∨ r = 34 then 92 :: Lib.encodeRune (r : Int)
  else if r = 10 then [92, 110] else if r = 13 then [92, 114] else if r = 9 then [92, 116]
  else if r < 32 ∨ r = 127 then [92, 117, 123] ++ (hexB r).data.toList ++ [125]
  else Lib.encodeRune (r : Int)
theorem qrune_len (r : Nat) : (qrune r).length ≤ 6 := by
  have h1 : (Lib.encodeRune (r : Int)).length ≤ 4 := by rw [← Lib.runeCells_length]; exact (Lib.runeCells_le _).2
  have h2 := hexB_size r
  unfold qrune
  repeat' split
  all_goals (simp <;> omega)
def qbody (s : ByteArray) (l : List Nat) : List UInt8 := l.flatMap fun i => qrune (rn s i)
theorem qbody_snoc (s : ByteArray) (l : List Nat) (i : Nat) : qbody s (l ++ [i]) = qbody s l ++ qrune (rn s i) := by simp [qbody]
theorem qbody_len (s : ByteArray) (l : List Nat) : (qbody s l).length ≤ 6 * l.length := by
  induction l with
  | nil => simp [qbody]
  | cons a l ih =>
    have := qrune_len (rn s a)
    have e : qbody s (a :: l) = qrune (rn s a) ++ qbody s l := by simp [qbody]
    rw [e]; simp; omega
def quoteB (s : ByteArray) : ByteArray := ⟨(34 :: qbody s (places s) ++ [34]).toArray⟩

/-- The model's own encoding, of a rune. -/
theorem encode_eq {r : Nat} (h1 : r ≤ 1114111) (hs : r < 55296 ∨ 57343 < r) : (Utf8.encode (r : Int)) = ⟨(Lib.encodeRune (r : Int)).toArray⟩ := by
  have hv : Utf8.valid (r : Int) = true := by unfold Utf8.valid; simp; omega
  have nat : ∀ x : Nat, ((x : Int)).toNat.toUInt8 = UInt8.ofNat x := fun x => by simp
  unfold Utf8.encode
  simp only [hv, if_true, Int.toNat_natCast]
  unfold Lib.encodeRune
  by_cases c1 : r < 128
  · rw [if_pos c1, Lib.encodeRuneZ_one (by omega) (by omega)]; simp
  · rw [if_neg c1]
    by_cases c2 : r < 2048
    · rw [if_pos c2, Lib.encodeRuneZ_two (by omega) (by omega)]
      have e1 : (192 + (r : Int) / 64).toNat = 192 + r / 64 := by omega
      have e2 : (128 + (r : Int) % 64).toNat = 128 + r % 64 := by omega
      simp [e1, e2]
    · rw [if_neg c2]
      by_cases c3 : r < 65536
      · rw [if_pos c3, Lib.encodeRuneZ_three (by omega)]
        have e1 : (224 + (r : Int) / 4096).toNat = 224 + r / 4096 := by omega
        have e2 : (128 + (r : Int) / 64 % 64).toNat = 128 + r / 64 % 64 := by omega
        have e3 : (128 + (r : Int) % 64).toNat = 128 + r % 64 := by omega
        simp [e1, e2, e3]
      · rw [if_neg c3, Lib.encodeRuneZ_four (by omega) (by omega)]
        have e1 : (240 + (r : Int) / 262144).toNat = 240 + r / 262144 := by omega
        have e2 : (128 + (r : Int) / 4096 % 64).toNat = 128 + r / 4096 % 64 := by omega
        have e3 : (128 + (r : Int) / 64 % 64).toNat = 128 + r / 64 % 64 := by omega
        have e4 : (128 + (r : Int) % 64).toNat = 128 + r % 64 := by omega
        simp [e1, e2, e3, e4]
theorem qrune_esc {r : Nat} (h : r = 92 ∨ r = 34) : qrune r = 92 :: Lib.encodeRune (r : Int) := if_pos h
theorem qrune_nl : qrune 10 = [92, 110] := rfl
theorem qrune_cr : qrune 13 = [92, 114] := rfl
theorem qrune_tab : qrune 9 = [92, 116] := rfl
theorem qrune_hex {r : Nat} (h : r < 32 ∨ r = 127) (h1 : r ≠ 10) (h2 : r ≠ 13) (h3 : r ≠ 9) : qrune r = [92, 117, 123] ++ (hexB r).data.toList ++ [125] := by
  unfold qrune; rw [if_neg (by omega), if_neg h1, if_neg h2, if_neg h3, if_pos h]
theorem qrune_plain {r : Nat} (h : 32 ≤ r) (h1 : r ≠ 92) (h2 : r ≠ 34) (h3 : r ≠ 127) : qrune r = Lib.encodeRune (r : Int) := by
  unfold qrune; rw [if_neg (by omega), if_neg (by omega), if_neg (by omega), if_neg (by omega), if_neg (by omega)]
end Go.Proofs.YtdlppdoankeilaaDoor
