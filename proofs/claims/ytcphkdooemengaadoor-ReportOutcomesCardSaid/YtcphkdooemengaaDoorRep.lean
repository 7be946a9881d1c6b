/- Plain: chapter 19's texts: digits, words, what a line is shown as, the three lines. No program in sight. -/
import Derived.Test.YtcphkdooemengaaDoorLn2
import Derived.Test.YtcphkdooemengaaDoorPlace
import Derived.Test.YtcphkdooemengaaDoorQuote
import Derived.Lib.ItoaNum
import Derived.Lib.ItoaLen
namespace Go.Proofs.YtcphkdooemengaaDoor
set_option linter.unusedVariables false
set_option linter.unusedSimpArgs false
set_option linter.unnecessarySimpa false
open Go.RowKit
def digits (n : Int) : ByteArray := ⟨(Lib.itoa n).toArray⟩
theorem digits_le {n : Int} (h0 : -9223372036854775808 ≤ n) (h1 : n ≤ 9223372036854775807) : (digits n).size ≤ 21 := by
  have := Lib.itoa_length_le n (by omega) (by omega)
  show (Lib.itoa n).toArray.size ≤ _
  simpa using this
/-- An error's word. -/
def wordB (e : Int) : ByteArray :=
  if e = 2 then ⟨#[116, 111, 111, 32, 108, 111, 110, 103]⟩ else if e = 3 then ⟨#[116, 111, 107, 101, 110]⟩ else if e = 4 then ⟨#[116, 111, 111, 32, 109, 97, 110, 121, 32, 116, 111, 107, 101, 110, 115]⟩ else if e = 5 then ⟨#[116, 111, 111, 32, 100, 101, 101, 112]⟩ else if e = 6 then ⟨#[115, 121, 110, 116, 97, 120]⟩ else if e = 8 then ⟨#[110, 97, 109, 101]⟩ else if e = 9 then ⟨#[116, 111, 111, 32, 99, 111, 109, 112, 108, 101, 120]⟩ else if e = 10 then ⟨#[116, 121, 112, 101]⟩ else ⟨#[101, 114, 114, 111, 114]⟩
theorem wordB_le (e : Int) : (wordB e).size ≤ 15 := by
  unfold wordB
  repeat' split
  all_goals decide
/-- What a rune is shown as. -/
def srune (r : Nat) : List UInt8 := if r = 13 then [] else if r = 9 then [32] else Lib.encodeRune (r : Int)
theorem srune_len (r : Nat) : (srune r).length ≤ 4 := by
  have h1 : (Lib.encodeRune (r : Int)).length ≤ 4 := by rw [← Lib.runeCells_length]; exact (Lib.runeCells_le _).2
  unfold srune
  repeat' split
  all_goals simp <;> omega
def sbody (s : ByteArray) (l : List Nat) : List UInt8 := l.flatMap fun i => srune (rn s i)
theorem sbody_snoc (s : ByteArray) (l : List Nat) (i : Nat) : sbody s (l ++ [i]) = sbody s l ++ srune (rn s i) := by simp [sbody]
theorem sbody_len (s : ByteArray) (l : List Nat) : (sbody s l).length ≤ 4 * l.length := by
  induction l with
  | nil => simp [sbody]
  | cons a l ih =>
    have := srune_len (rn s a)
    have e : sbody s (a :: l) = srune (rn s a) ++ sbody s l := by simp [sbody]
    rw [e]; simp; omega
def shown (t : ByteArray) : ByteArray := ⟨(sbody t (places t)).toArray⟩
def spaces (n : Nat) : ByteArray := ⟨(List.replicate n 32).toArray⟩
/-- Lines, each with its end. -/
def rowsL (l : List ByteArray) : List UInt8 := l.flatMap fun x => x.data.toList ++ [10]
def rowsB (l : List ByteArray) : ByteArray := ⟨(rowsL l).toArray⟩
theorem rowsL_snoc (l : List ByteArray) (x : ByteArray) : rowsL (l ++ [x]) = rowsL l ++ (x.data.toList ++ [10]) := by simp [rowsL]
/-- The line and the column of a place. -/
def lineN (s : ByteArray) (at_ : Int) : Nat := (lnF s (clampA s at_)).1
def colN (s : ByteArray) (at_ : Int) : Nat := colS s (lnF s (clampA s at_)).2 (clampA s at_)
/-- The three lines. -/
def outB (s : ByteArray) (e at_ : Int) : ByteArray :=
  rowsB [digits (lineN s at_) ++ ⟨#[58]⟩ ++ digits (colN s at_) ++ ⟨#[58, 32]⟩ ++ wordB e, shown (lnT s (lineN s at_ - 1)), spaces (colN s at_ - 1) ++ ⟨#[94]⟩]
theorem lnF_at (s : ByteArray) : ∀ k, k ≤ s.size → ∃ pre, AtLn s pre (lnF s k).2 ∧ pre.length + 1 = (lnF s k).1 ∧ lineEnd s (lnF s k).2 = lineEnd s k
  | 0, _ => ⟨[], AtLn.start s, rfl, rfl⟩
  | k + 1, h => by
    obtain ⟨pre, h1, h2, h3⟩ := lnF_at s k (by omega)
    by_cases c : bt s k = 10
    · have he : lineEnd s k = k := lineEnd_stop (by rintro ⟨_, q⟩; exact q c)
      rw [he] at h3
      have hst := h1.step (by omega)
      rw [h3] at hst
      rw [lnF_hit c]
      exact ⟨_, hst, by simp; omega, rfl⟩
    · rw [lnF_miss c]
      exact ⟨pre, h1, h2, by rw [h3]; exact lineEnd_go (by omega) c⟩
theorem lineN_bd (s : ByteArray) (at_ : Int) : 1 ≤ lineN s at_ ∧ lineN s at_ ≤ (linesF s 0).length := by
  obtain ⟨pre, h1, h2, _⟩ := lnF_at s (clampA s at_) (clampA_le s at_)
  have := h1.len
  unfold lineN; omega
theorem cnt_le (s : ByteArray) (i a : Nat) : cnt s i a ≤ s.size := by
  unfold cnt
  refine Nat.le_trans (List.countP_le_length) ?_
  exact Nat.le_trans (placesF_len s _ i) (by omega)
theorem colN_bd (s : ByteArray) (at_ : Int) : 1 ≤ colN s at_ ∧ colN s at_ ≤ s.size + 1 := by
  have := cnt_le s (lnF s (clampA s at_)).2 (clampA s at_)
  unfold colN colS; omega
theorem lnT_size (s : ByteArray) (n : Nat) : (lnT s n).size ≤ s.size := by
  unfold lnT; rw [ByteArray.size_extract]; omega
end Go.Proofs.YtcphkdooemengaaDoor
