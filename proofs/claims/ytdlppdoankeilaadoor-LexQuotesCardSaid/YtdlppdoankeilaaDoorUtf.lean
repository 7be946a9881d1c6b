/- Plain: UTF-8 as the model reads it: places, runes, sizes. No program in sight. -/
import Derived.Test.YtdlppdoankeilaaDoorMem
import Derived.Lib.DecodeN
import Derived.Lib.RuneBytes
namespace Go.Proofs.YtdlppdoankeilaaDoor
set_option linter.unusedVariables false
set_option linter.unusedSimpArgs false
set_option linter.unnecessarySimpa false
open Go.RowKit

/-- The rune that begins at a place. -/
def rn (s : ByteArray) (i : Nat) : Nat := (Utf8.decode s i).1
/-- How many bytes it has. -/
def wd (s : ByteArray) (i : Nat) : Nat := (Utf8.decode s i).2
/-- The byte at a place, as a number. -/
def bt (s : ByteArray) (i : Nat) : Nat := (s.get! i).toNat
/-- Is it a rune (or a byte that begins none)? -/
def gd (s : ByteArray) (i : Nat) : Bool := decide (bt s i < 128) || decide (1 < wd s i)
theorem bt_lt (s : ByteArray) (i : Nat) : bt s i < 256 := (s.get! i).toNat_lt

theorem dec_eq (s : ByteArray) (i : Nat) : Utf8.decode s i = Lib.decodeN (s.size - i) (bt s i) (bt s (i + 1)) (bt s (i + 2)) (bt s (i + 3)) := Lib.decode_at s i
theorem decodeN_wd (n b0 b1 b2 b3 : Nat) (h : 0 < n) : 1 ≤ (Lib.decodeN n b0 b1 b2 b3).2 ∧ (Lib.decodeN n b0 b1 b2 b3).2 ≤ n ∧ (Lib.decodeN n b0 b1 b2 b3).2 ≤ 4 := by
  unfold Lib.decodeN
  repeat' split
  all_goals (simp only []; omega)
theorem decodeN_rn (n b0 b1 b2 b3 : Nat) (h0 : b0 < 256) : (Lib.decodeN n b0 b1 b2 b3).1 ≤ 1114111 ∧ ((Lib.decodeN n b0 b1 b2 b3).1 < 55296 ∨ 57344 ≤ (Lib.decodeN n b0 b1 b2 b3).1) := by
  unfold Lib.decodeN
  repeat' split
  all_goals (simp only []; omega)
theorem wd_bd {s : ByteArray} {i : Nat} (h : i < s.size) : 1 ≤ wd s i ∧ i + wd s i ≤ s.size ∧ wd s i ≤ 4 := by
  unfold wd; rw [dec_eq]
  have := decodeN_wd (s.size - i) (bt s i) (bt s (i + 1)) (bt s (i + 2)) (bt s (i + 3)) (by omega)
  omega
theorem rn_bd (s : ByteArray) (i : Nat) : rn s i ≤ 1114111 ∧ (rn s i < 55296 ∨ 57344 ≤ rn s i) := by
  unfold rn; rw [dec_eq]; exact decodeN_rn _ _ _ _ _ (bt_lt s i)

/-- The runes from a place on: their places. -/
def placesF (s : ByteArray) : Nat → Nat → List Nat
  | 0, _ => []
  | f + 1, i => if i < s.size then i :: placesF s f (i + wd s i) else []
/-- The places of all runes from a place on. -/
def placesAt (s : ByteArray) (i : Nat) : List Nat := placesF s (s.size - i) i
def places (s : ByteArray) : List Nat := placesAt s 0
theorem placesF_fuel (s : ByteArray) : ∀ (f g i : Nat), s.size - i ≤ f → s.size - i ≤ g → placesF s f i = placesF s g i
  | 0, 0, _, _, _ => rfl
  | 0, g + 1, i, h, _ => by simp only [placesF]; rw [if_neg (by omega)]
  | f + 1, 0, i, _, h => by simp only [placesF]; rw [if_neg (by omega)]
  | f + 1, g + 1, i, h, h' => by
    simp only [placesF]
    by_cases hi : i < s.size
    · have := wd_bd hi
      rw [if_pos hi, if_pos hi, placesF_fuel s f g (i + wd s i) (by omega) (by omega)]
    · rw [if_neg hi, if_neg hi]
theorem placesAt_end {s : ByteArray} {i : Nat} (h : ¬ i < s.size) : placesAt s i = [] := by
  unfold placesAt; rw [show s.size - i = 0 by omega]; rfl
theorem placesAt_step {s : ByteArray} {i : Nat} (h : i < s.size) : placesAt s i = i :: placesAt s (i + wd s i) := by
  have hw := wd_bd h
  unfold placesAt
  obtain ⟨f, hf⟩ : ∃ f, s.size - i = f + 1 := ⟨s.size - i - 1, by omega⟩
  rw [hf]
  simp only [placesF]
  rw [if_pos h, placesF_fuel s f (s.size - (i + wd s i)) (i + wd s i) (by omega) (by omega)]
theorem placesF_len (s : ByteArray) : ∀ (f i : Nat), (placesF s f i).length ≤ f
  | 0, _ => by simp [placesF]
  | f + 1, i => by
    simp only [placesF]
    split
    · have := placesF_len s f (i + wd s i); simp; omega
    · simp
theorem places_len (s : ByteArray) : (places s).length ≤ s.size := by
  have := placesF_len s (s.size - 0) 0; unfold places placesAt; omega

/-- Where a loop over the runes stands: what is behind, and what is to come. -/
def AtPlace (s : ByteArray) (pre : List Nat) (i : Nat) : Prop := places s = pre ++ placesAt s i ∧ i ≤ s.size
theorem AtPlace.start (s : ByteArray) : AtPlace s [] 0 := ⟨rfl, Nat.zero_le _⟩
theorem AtPlace.step {s : ByteArray} {pre : List Nat} {i : Nat} (h : AtPlace s pre i) (hi : i < s.size) : AtPlace s (pre ++ [i]) (i + wd s i) :=
  ⟨by rw [h.1, placesAt_step hi]; simp, (wd_bd hi).2.1⟩
theorem AtPlace.fin {s : ByteArray} {pre : List Nat} {i : Nat} (h : AtPlace s pre i) (hi : ¬ i < s.size) : pre = places s := by
  rw [h.1, placesAt_end hi]; simp
theorem AtPlace.len {s : ByteArray} {pre : List Nat} {i : Nat} (h : AtPlace s pre i) : pre.length ≤ s.size := by
  have := places_len s; rw [h.1] at this; simp at this; omega

/-- The model's own conversion to runes. -/
theorem runesFrom_eq (s : ByteArray) : ∀ (f i : Nat) (acc : Array Value), Conv.runesFrom s f i acc = acc ++ ((placesF s f i).map fun j => Value.int .i32 (rn s j : Int)).toArray
  | 0, _, acc => by simp [Conv.runesFrom, placesF]
  | f + 1, i, acc => by
    unfold Conv.runesFrom
    simp only [placesF]
    by_cases hi : i < s.size
    · rw [if_pos hi, if_pos hi]
      show Conv.runesFrom s f (i + wd s i) (acc.push (.int .i32 (Int.ofNat (rn s i)))) = _
      rw [runesFrom_eq s f (i + wd s i)]
      simp
    · rw [if_neg hi, if_neg hi]; simp
theorem runes_eq (s : ByteArray) : Conv.runesFrom s s.size 0 #[] = ((places s).map fun j => Value.int .i32 (rn s j : Int)).toArray := by
  rw [runesFrom_eq]; simp [places, placesAt]
/-- The runes of a text. -/
def runesOf (s : ByteArray) : List Int := (places s).map fun j => (rn s j : Int)
end Go.Proofs.YtdlppdoankeilaaDoor
