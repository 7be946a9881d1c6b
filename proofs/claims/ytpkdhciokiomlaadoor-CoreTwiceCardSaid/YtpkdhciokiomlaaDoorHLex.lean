/- Plain: chapter 2's tokens: what the program and the reference make of bytes. No program in sight. -/
import Derived.Test.YtpkdhciokiomlaaDoorHBZ6
import Derived.Test.YtpkdhciokiomlaaDoorHBZ2
namespace Go.Proofs.YtpkdhciokiomlaaDoor
set_option linter.unusedVariables false
set_option linter.unusedSimpArgs false
set_option linter.unnecessarySimpa false
open Go.RowKit
def letterB (c : Nat) : Bool := (decide (97 ≤ c) && decide (c ≤ 122)) || (decide (65 ≤ c) && decide (c ≤ 90)) || c == 95 || c == 36
def digitB (c : Nat) : Bool := decide (48 ≤ c) && decide (c ≤ 57)
def nameB (c : Nat) : Bool := letterB c || digitB c
def blankB (c : Nat) : Bool := c == 9 || c == 10 || c == 13 || c == 32
/-- The end of a line: the first byte 10 from here on, or the text's end. -/
def lineEnd (s : ByteArray) (i : Nat) : Nat := if _h : i < s.size ∧ bt s i ≠ 10 then lineEnd s (i + 1) else i
termination_by s.size - i
/-- The first place from here on where a remark ends ('*', '/'), or where there is no room for its end. -/
def remEnd (s : ByteArray) (i : Nat) : Nat := if _h : i + 1 < s.size ∧ ¬ (bt s i = 42 ∧ bt s (i + 1) = 47) then remEnd s (i + 1) else i
termination_by s.size - i
theorem lineEnd_go {s : ByteArray} {i : Nat} (h : i < s.size) (h2 : bt s i ≠ 10) : lineEnd s i = lineEnd s (i + 1) := by rw [lineEnd, dif_pos ⟨h, h2⟩]
theorem lineEnd_stop {s : ByteArray} {i : Nat} (h : ¬ (i < s.size ∧ bt s i ≠ 10)) : lineEnd s i = i := by rw [lineEnd, dif_neg h]
theorem remEnd_go {s : ByteArray} {i : Nat} (h : i + 1 < s.size) (h2 : ¬ (bt s i = 42 ∧ bt s (i + 1) = 47)) : remEnd s i = remEnd s (i + 1) := by rw [remEnd, dif_pos ⟨h, h2⟩]
theorem remEnd_stop {s : ByteArray} {i : Nat} (h : ¬ (i + 1 < s.size ∧ ¬ (bt s i = 42 ∧ bt s (i + 1) = 47))) : remEnd s i = i := by rw [remEnd, dif_neg h]
theorem lineEnd_bd (s : ByteArray) : ∀ (n i : Nat), s.size - i ≤ n → i ≤ s.size → i ≤ lineEnd s i ∧ lineEnd s i ≤ s.size
  | 0, i, h, hi => by rw [lineEnd_stop (by omega)]; omega
  | n + 1, i, h, hi => by
    by_cases c : i < s.size ∧ bt s i ≠ 10
    · rw [lineEnd_go c.1 c.2]; have := lineEnd_bd s n (i + 1) (by omega) (by omega); omega
    · rw [lineEnd_stop c]; omega
theorem lineEnd_gt {s : ByteArray} {i : Nat} (h : i < s.size) (h2 : bt s i ≠ 10) : i < lineEnd s i ∧ lineEnd s i ≤ s.size := by
  rw [lineEnd_go h h2]; have := lineEnd_bd s _ (i + 1) (Nat.le_refl _) (by omega); omega
theorem remEnd_ge (s : ByteArray) : ∀ (n i : Nat), s.size - i ≤ n → i ≤ remEnd s i
  | 0, i, h => by rw [remEnd_stop (by omega)]; omega
  | n + 1, i, h => by
    by_cases c : i + 1 < s.size ∧ ¬ (bt s i = 42 ∧ bt s (i + 1) = 47)
    · rw [remEnd_go c.1 c.2]; have := remEnd_ge s n (i + 1) (by omega); omega
    · rw [remEnd_stop c]; omega
/-- Behind blanks and remarks; false: a remark that does not end (its byte). -/
def skip (s : ByteArray) (i : Nat) : Nat × Bool :=
  if _h : i < s.size then
    if blankB (bt s i) then skip s (i + 1)
    else if _h2 : bt s i = 47 ∧ i + 1 < s.size ∧ bt s (i + 1) = 47 then skip s (lineEnd s i)
    else if bt s i = 47 ∧ i + 1 < s.size ∧ bt s (i + 1) = 42 then
      if _h3 : remEnd s (i + 2) + 1 < s.size then skip s (remEnd s (i + 2) + 2) else (i, false)
    else (i, true)
  else (i, true)
termination_by s.size - i
decreasing_by
  · omega
  · have := lineEnd_gt _h (by omega); omega
  · have := remEnd_ge s _ (i + 2) (Nat.le_refl _); omega
theorem skip_end {s : ByteArray} {i : Nat} (h : ¬ i < s.size) : skip s i = (i, true) := by rw [skip, dif_neg h]
theorem skip_blank {s : ByteArray} {i : Nat} (h : i < s.size) (hb : blankB (bt s i) = true) : skip s i = skip s (i + 1) := by rw [skip, dif_pos h, if_pos hb]
theorem skip_line {s : ByteArray} {i : Nat} (h : i + 1 < s.size) (h1 : bt s i = 47) (h2 : bt s (i + 1) = 47) : skip s i = skip s (lineEnd s i) := by
  rw [skip, dif_pos (by omega), if_neg (by rw [h1]; decide), dif_pos ⟨h1, h, h2⟩]
theorem skip_rem {s : ByteArray} {i : Nat} (h : i + 1 < s.size) (h1 : bt s i = 47) (h2 : bt s (i + 1) = 42) (h3 : remEnd s (i + 2) + 1 < s.size) : skip s i = skip s (remEnd s (i + 2) + 2) := by
  rw [skip, dif_pos (by omega), if_neg (by rw [h1]; decide), dif_neg (by omega), if_pos ⟨h1, h, h2⟩, dif_pos h3]
theorem skip_bad {s : ByteArray} {i : Nat} (h : i + 1 < s.size) (h1 : bt s i = 47) (h2 : bt s (i + 1) = 42) (h3 : ¬ remEnd s (i + 2) + 1 < s.size) : skip s i = (i, false) := by
  rw [skip, dif_pos (by omega), if_neg (by rw [h1]; decide), dif_neg (by omega), if_pos ⟨h1, h, h2⟩, dif_neg h3]
theorem skip_stop {s : ByteArray} {i : Nat} (h : i < s.size) (hb : blankB (bt s i) = false) (h1 : ¬ (bt s i = 47 ∧ i + 1 < s.size ∧ bt s (i + 1) = 47)) (h2 : ¬ (bt s i = 47 ∧ i + 1 < s.size ∧ bt s (i + 1) = 42)) : skip s i = (i, true) := by
  rw [skip, dif_pos h, if_neg (by rw [hb]; decide), dif_neg h1, if_neg h2]
theorem skip_bd (s : ByteArray) : ∀ (n i : Nat), s.size - i ≤ n → i ≤ s.size → i ≤ (skip s i).1 ∧ (skip s i).1 ≤ s.size := by
  intro n
  induction n with
  | zero => intro i h hi; rw [skip_end (by omega)]; exact ⟨Nat.le_refl _, hi⟩
  | succ n ih =>
    intro i h hi
    by_cases c : i < s.size
    · by_cases hb : blankB (bt s i) = true
      · rw [skip_blank c hb]; have := ih (i + 1) (by omega) (by omega); omega
      · by_cases h1 : bt s i = 47 ∧ i + 1 < s.size ∧ bt s (i + 1) = 47
        · rw [skip_line h1.2.1 h1.1 h1.2.2]
          have := lineEnd_gt c (by omega)
          have := ih (lineEnd s i) (by omega) (by omega); omega
        · by_cases h2 : bt s i = 47 ∧ i + 1 < s.size ∧ bt s (i + 1) = 42
          · have hr := remEnd_ge s _ (i + 2) (Nat.le_refl _)
            by_cases h3 : remEnd s (i + 2) + 1 < s.size
            · rw [skip_rem h2.2.1 h2.1 h2.2.2 h3]; have := ih (remEnd s (i + 2) + 2) (by omega) (by omega); omega
            · rw [skip_bad h2.2.1 h2.1 h2.2.2 h3]; exact ⟨Nat.le_refl _, hi⟩
          · rw [skip_stop c (by simpa using hb) h1 h2]; exact ⟨Nat.le_refl _, hi⟩
    · rw [skip_end c]; exact ⟨Nat.le_refl _, hi⟩
/-- A token. -/
structure Tok where
  kind : Int
  text : ByteArray
  lo : Nat
  hi : Nat
def wordEnd (s : ByteArray) (i : Nat) : Nat := if _h : i < s.size ∧ nameB (bt s i) = true then wordEnd s (i + 1) else i
termination_by s.size - i
theorem wordEnd_go {s : ByteArray} {i : Nat} (h : i < s.size) (h2 : nameB (bt s i) = true) : wordEnd s i = wordEnd s (i + 1) := by rw [wordEnd, dif_pos ⟨h, h2⟩]
theorem wordEnd_stop {s : ByteArray} {i : Nat} (h : ¬ (i < s.size ∧ nameB (bt s i) = true)) : wordEnd s i = i := by rw [wordEnd, dif_neg h]
theorem wordEnd_bd (s : ByteArray) : ∀ (n i : Nat), s.size - i ≤ n → i ≤ s.size → i ≤ wordEnd s i ∧ wordEnd s i ≤ s.size
  | 0, i, h, hi => by rw [wordEnd_stop (by omega)]; omega
  | n + 1, i, h, hi => by
    by_cases c : i < s.size ∧ nameB (bt s i) = true
    · rw [wordEnd_go c.1 c.2]; have := wordEnd_bd s n (i + 1) (by omega) (by omega); omega
    · rw [wordEnd_stop c]; omega
def maxNum : Nat := 9007199254740991
/-- Digits from here on: where they end, and what they say (held at one more than the greatest number). -/
def digEnd (s : ByteArray) (i : Nat) : Nat := if _h : i < s.size ∧ digitB (bt s i) = true then digEnd s (i + 1) else i
termination_by s.size - i
theorem digEnd_go {s : ByteArray} {i : Nat} (h : i < s.size) (h2 : digitB (bt s i) = true) : digEnd s i = digEnd s (i + 1) := by rw [digEnd, dif_pos ⟨h, h2⟩]
theorem digEnd_stop {s : ByteArray} {i : Nat} (h : ¬ (i < s.size ∧ digitB (bt s i) = true)) : digEnd s i = i := by rw [digEnd, dif_neg h]
theorem digEnd_bd (s : ByteArray) : ∀ (n i : Nat), s.size - i ≤ n → i ≤ s.size → i ≤ digEnd s i ∧ digEnd s i ≤ s.size
  | 0, i, h, hi => by rw [digEnd_stop (by omega)]; omega
  | n + 1, i, h, hi => by
    by_cases c : i < s.size ∧ digitB (bt s i) = true
    · rw [digEnd_go c.1 c.2]; have := digEnd_bd s n (i + 1) (by omega) (by omega); omega
    · rw [digEnd_stop c]; omega
def digVal (s : ByteArray) (i v : Nat) : Nat := if _h : i < s.size ∧ digitB (bt s i) = true then digVal s (i + 1) (min (v * 10 + (bt s i - 48)) 9007199254740992) else v
termination_by s.size - i
theorem digVal_go {s : ByteArray} {i v : Nat} (h : i < s.size) (h2 : digitB (bt s i) = true) : digVal s i v = digVal s (i + 1) (min (v * 10 + (bt s i - 48)) 9007199254740992) := by rw [digVal, dif_pos ⟨h, h2⟩]
theorem digVal_stop {s : ByteArray} {i v : Nat} (h : ¬ (i < s.size ∧ digitB (bt s i) = true)) : digVal s i v = v := by rw [digVal, dif_neg h]
theorem digVal_full (s : ByteArray) : ∀ (n i : Nat), s.size - i ≤ n → digVal s i 9007199254740992 = 9007199254740992
  | 0, i, h => digVal_stop (by omega)
  | n + 1, i, h => by
    by_cases c : i < s.size ∧ digitB (bt s i) = true
    · rw [digVal_go c.1 c.2, show min (9007199254740992 * 10 + (bt s i - 48)) 9007199254740992 = 9007199254740992 by omega]
      exact digVal_full s n (i + 1) (by omega)
    · exact digVal_stop c
/-- Is what begins here, with digits, a number? -/
def numOk (s : ByteArray) (i : Nat) : Bool :=
  decide (digVal s i 0 ≤ 9007199254740991) && !(decide (bt s i = 48) && decide (i + 1 < digEnd s i)) && !(decide (digEnd s i < s.size) && letterB (bt s (digEnd s i)))
/-- A hexadecimal digit; -1: none. -/
def hexD (c : Nat) : Int := if 48 ≤ c ∧ c ≤ 57 then (c : Int) - 48 else if 97 ≤ c ∧ c ≤ 102 then (c : Int) - 87 else if 65 ≤ c ∧ c ≤ 70 then (c : Int) - 55 else -1
def hexEnd (s : ByteArray) (i lim : Nat) : Nat := if _h : i < s.size ∧ i < lim ∧ 0 ≤ hexD (bt s i) then hexEnd s (i + 1) lim else i
termination_by s.size - i
theorem hexEnd_go {s : ByteArray} {i lim : Nat} (h : i < s.size) (h1 : i < lim) (h2 : 0 ≤ hexD (bt s i)) : hexEnd s i lim = hexEnd s (i + 1) lim := by rw [hexEnd, dif_pos ⟨h, h1, h2⟩]
theorem hexEnd_stop {s : ByteArray} {i lim : Nat} (h : ¬ (i < s.size ∧ i < lim ∧ 0 ≤ hexD (bt s i))) : hexEnd s i lim = i := by rw [hexEnd, dif_neg h]
theorem hexEnd_bd (s : ByteArray) (lim : Nat) : ∀ (n i : Nat), s.size - i ≤ n → i ≤ hexEnd s i lim ∧ (i ≤ lim → hexEnd s i lim ≤ lim) ∧ (i ≤ s.size → hexEnd s i lim ≤ s.size)
  | 0, i, h => by rw [hexEnd_stop (by omega)]; omega
  | n + 1, i, h => by
    by_cases c : i < s.size ∧ i < lim ∧ 0 ≤ hexD (bt s i)
    · rw [hexEnd_go c.1 c.2.1 c.2.2]; have := hexEnd_bd s lim n (i + 1) (by omega); omega
    · rw [hexEnd_stop c]; omega
def hexVal (s : ByteArray) (i lim : Nat) (v : Int) : Int := if _h : i < s.size ∧ i < lim ∧ 0 ≤ hexD (bt s i) then hexVal s (i + 1) lim (v * 16 + hexD (bt s i)) else v
termination_by s.size - i
theorem hexVal_go {s : ByteArray} {i lim : Nat} {v : Int} (h : i < s.size) (h1 : i < lim) (h2 : 0 ≤ hexD (bt s i)) : hexVal s i lim v = hexVal s (i + 1) lim (v * 16 + hexD (bt s i)) := by rw [hexVal, dif_pos ⟨h, h1, h2⟩]
theorem hexVal_stop {s : ByteArray} {i lim : Nat} {v : Int} (h : ¬ (i < s.size ∧ i < lim ∧ 0 ≤ hexD (bt s i))) : hexVal s i lim v = v := by rw [hexVal, dif_neg h]
theorem hexD_bd (c : Nat) : -1 ≤ hexD c ∧ hexD c ≤ 15 := by
  unfold hexD
  repeat' split
  all_goals omega
/-- Is what begins here, at '\u', an escape? -/
def hexOk (s : ByteArray) (i : Nat) : Bool :=
  decide (i + 2 < s.size) && bt s (i + 2) == 123 && decide (hexEnd s (i + 3) (i + 9) ≠ i + 3) && decide (hexEnd s (i + 3) (i + 9) < s.size) && bt s (hexEnd s (i + 3) (i + 9)) == 125 &&
    decide (hexVal s (i + 3) (i + 9) 0 ≤ 1114111) && !(decide (55296 ≤ hexVal s (i + 3) (i + 9) 0) && decide (hexVal s (i + 3) (i + 9) 0 ≤ 57343))
def one1 (c : Nat) : ByteArray := ⟨#[UInt8.ofNat c]⟩
/-- The escape that begins here, at a backslash: what it says, and the byte behind it. -/
def esc (s : ByteArray) (i : Nat) : Option (ByteArray × Nat) :=
  if i + 1 < s.size then
    if bt s (i + 1) = 110 then some (one1 10, i + 2)
    else if bt s (i + 1) = 114 then some (one1 13, i + 2)
    else if bt s (i + 1) = 116 then some (one1 9, i + 2)
    else if bt s (i + 1) = 48 then some (one1 0, i + 2)
    else if bt s (i + 1) = 92 ∨ bt s (i + 1) = 34 ∨ bt s (i + 1) = 39 ∨ bt s (i + 1) = 36 ∨ bt s (i + 1) = 96 then some (one1 (bt s (i + 1)), i + 2)
    else if bt s (i + 1) = 117 then (if hexOk s i = true then some (Utf8.encode (hexVal s (i + 3) (i + 9) 0), hexEnd s (i + 3) (i + 9) + 1) else none)
    else none
  else none
/-- A rune or an escape. -/
def one (s : ByteArray) (i : Nat) : Option (ByteArray × Nat) := if bt s i = 92 then esc s i else some (Utf8.encode (rn s i : Int), i + wd s i)
theorem one_bd {s : ByteArray} {i : Nat} (hi : i < s.size) {t : ByteArray} {j : Nat} (h : one s i = some (t, j)) : i < j ∧ j ≤ s.size := by
  unfold one at h
  by_cases c : bt s i = 92
  · rw [if_pos c] at h
    unfold esc at h
    by_cases c1 : i + 1 < s.size
    · rw [if_pos c1] at h
      have hb := hexEnd_bd s (i + 9) _ (i + 3) (Nat.le_refl _)
      repeat' split at h
      all_goals first
        | (cases h; done)
        | (injection h with h; injection h with _ h; subst h; first | omega | (have hx : hexOk s i = true := (by assumption); simp [hexOk] at hx; omega))
    · rw [if_neg c1] at h; cases h
  · rw [if_neg c] at h
    injection h with h
    injection h with _ h
    subst h
    have := wd_bd hi
    omega
/-- A string's rest, to its quote. -/
def quotedGo (s : ByteArray) (q j : Nat) (acc : ByteArray) : Option (ByteArray × Nat) :=
  if _h : j < s.size then
    if bt s j = q then some (acc, j + 1)
    else if bt s j = 10 ∨ bt s j = 13 then none
    else match one s j with
      | none => none
      | some p => if _h2 : j < p.2 then quotedGo s q p.2 (acc ++ p.1) else none
  else none
termination_by s.size - j
theorem quotedGo_end {s : ByteArray} {q j : Nat} {acc : ByteArray} (h : ¬ j < s.size) : quotedGo s q j acc = none := by rw [quotedGo, dif_neg h]
theorem quotedGo_close {s : ByteArray} {q j : Nat} {acc : ByteArray} (h : j < s.size) (h1 : bt s j = q) : quotedGo s q j acc = some (acc, j + 1) := by rw [quotedGo, dif_pos h, if_pos h1]
theorem quotedGo_line {s : ByteArray} {q j : Nat} {acc : ByteArray} (h : j < s.size) (h1 : bt s j ≠ q) (h2 : bt s j = 10 ∨ bt s j = 13) : quotedGo s q j acc = none := by rw [quotedGo, dif_pos h, if_neg h1, if_pos h2]
theorem quotedGo_bad {s : ByteArray} {q j : Nat} {acc : ByteArray} (h : j < s.size) (h1 : bt s j ≠ q) (h3 : one s j = none) : quotedGo s q j acc = none := by
  rw [quotedGo, dif_pos h, if_neg h1]; split
  · rfl
  · rw [h3]
theorem quotedGo_step {s : ByteArray} {q j : Nat} {acc t : ByteArray} {k : Nat} (h : j < s.size) (h1 : bt s j ≠ q) (h2 : ¬ (bt s j = 10 ∨ bt s j = 13)) (h3 : one s j = some (t, k)) : quotedGo s q j acc = quotedGo s q k (acc ++ t) := by
  rw [quotedGo, dif_pos h, if_neg h1, if_neg h2, h3]
  exact dif_pos (one_bd h h3).1
/-- A template's piece: what it says, the byte behind it, whether a hole follows. -/
def pieceGo (s : ByteArray) (j : Nat) (acc : ByteArray) : Option (ByteArray × Nat × Bool) :=
  if _h : j < s.size then
    if bt s j = 96 then some (acc, j + 1, false)
    else if bt s j = 36 ∧ j + 1 < s.size ∧ bt s (j + 1) = 123 then some (acc, j + 2, true)
    else match one s j with
      | none => none
      | some p => if _h2 : j < p.2 then pieceGo s p.2 (acc ++ p.1) else none
  else none
termination_by s.size - j
theorem pieceGo_end {s : ByteArray} {j : Nat} {acc : ByteArray} (h : ¬ j < s.size) : pieceGo s j acc = none := by rw [pieceGo, dif_neg h]
theorem pieceGo_close {s : ByteArray} {j : Nat} {acc : ByteArray} (h : j < s.size) (h1 : bt s j = 96) : pieceGo s j acc = some (acc, j + 1, false) := by rw [pieceGo, dif_pos h, if_pos h1]
theorem pieceGo_hole {s : ByteArray} {j : Nat} {acc : ByteArray} (h : j + 1 < s.size) (h1 : bt s j = 36) (h2 : bt s (j + 1) = 123) : pieceGo s j acc = some (acc, j + 2, true) := by rw [pieceGo, dif_pos (by omega), if_neg (by omega), if_pos ⟨h1, h, h2⟩]
theorem pieceGo_bad {s : ByteArray} {j : Nat} {acc : ByteArray} (h : j < s.size) (h1 : bt s j ≠ 96) (h2 : ¬ (bt s j = 36 ∧ j + 1 < s.size ∧ bt s (j + 1) = 123)) (h3 : one s j = none) : pieceGo s j acc = none := by
  rw [pieceGo, dif_pos h, if_neg h1, if_neg h2, h3]
theorem pieceGo_step {s : ByteArray} {j : Nat} {acc t : ByteArray} {k : Nat} (h : j < s.size) (h1 : bt s j ≠ 96) (h2 : ¬ (bt s j = 36 ∧ j + 1 < s.size ∧ bt s (j + 1) = 123)) (h3 : one s j = some (t, k)) : pieceGo s j acc = pieceGo s k (acc ++ t) := by
  rw [pieceGo, dif_pos h, if_neg h1, if_neg h2, h3]
  exact dif_pos (one_bd h h3).1
def quotedOf (s : ByteArray) (i : Nat) : Option (ByteArray × Nat) := quotedGo s (bt s i) (i + 1) ⟨#[]⟩
def pieceOf (s : ByteArray) (i : Nat) : Option (ByteArray × Nat × Bool) := pieceGo s (i + 1) ⟨#[]⟩
theorem quotedGo_bd (s : ByteArray) (q : Nat) : ∀ (n j : Nat) (acc t : ByteArray) (k : Nat), s.size - j ≤ n → quotedGo s q j acc = some (t, k) → j < k ∧ k ≤ s.size := by
  intro n
  induction n with
  | zero => intro j acc t k h hq; rw [quotedGo_end (by omega)] at hq; cases hq
  | succ n ih =>
    intro j acc t k h hq
    by_cases c : j < s.size
    · by_cases h1 : bt s j = q
      · rw [quotedGo_close c h1] at hq; injection hq with hq; injection hq with _ hq; omega
      · by_cases h2 : bt s j = 10 ∨ bt s j = 13
        · rw [quotedGo_line c h1 h2] at hq; cases hq
        · cases h3 : one s j with
          | none => rw [quotedGo_bad c h1 h3] at hq; cases hq
          | some p =>
            rw [quotedGo_step (t := p.1) (k := p.2) c h1 h2 h3] at hq
            have := one_bd c h3
            have := ih p.2 _ _ _ (by omega) hq
            omega
    · rw [quotedGo_end c] at hq; cases hq
theorem pieceGo_bd (s : ByteArray) : ∀ (n j : Nat) (acc t : ByteArray) (k : Nat) (m : Bool), s.size - j ≤ n → pieceGo s j acc = some (t, k, m) → j < k ∧ k ≤ s.size := by
  intro n
  induction n with
  | zero => intro j acc t k m h hq; rw [pieceGo_end (by omega)] at hq; cases hq
  | succ n ih =>
    intro j acc t k m h hq
    by_cases c : j < s.size
    · by_cases h1 : bt s j = 96
      · rw [pieceGo_close c h1] at hq; injection hq with hq; injection hq with _ hq; injection hq with hq _; omega
      · by_cases h2 : bt s j = 36 ∧ j + 1 < s.size ∧ bt s (j + 1) = 123
        · rw [pieceGo_hole h2.2.1 h2.1 h2.2.2] at hq; injection hq with hq; injection hq with _ hq; injection hq with hq _; omega
        · cases h3 : one s j with
          | none => rw [pieceGo_bad c h1 h2 h3] at hq; cases hq
          | some p =>
            rw [pieceGo_step (t := p.1) (k := p.2) c h1 h2 h3] at hq
            have := one_bd c h3
            have := ih p.2 _ _ _ _ (by omega) hq
            omega
    · rw [pieceGo_end c] at hq; cases hq
end Go.Proofs.YtpkdhciokiomlaaDoor
