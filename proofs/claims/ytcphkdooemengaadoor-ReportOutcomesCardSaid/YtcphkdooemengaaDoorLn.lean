/- Plain: lines: where they end; text by text. No program in sight. -/
import Derived.Test.YtcphkdooemengaaDoorUtf
import Derived.Test.YtcphkdooemengaaDoorConv
import Derived.Lib.Bytealg
namespace Go.Proofs.YtcphkdooemengaaDoor
set_option linter.unusedVariables false
set_option linter.unusedSimpArgs false
set_option linter.unnecessarySimpa false
open Go.RowKit
/-- The end of a line: the first byte 10 from here on, or the text's end. -/
def lineEnd (s : ByteArray) (i : Nat) : Nat := if _h : i < s.size ∧ bt s i ≠ 10 then lineEnd s (i + 1) else i
termination_by s.size - i
theorem lineEnd_go {s : ByteArray} {i : Nat} (h : i < s.size) (h2 : bt s i ≠ 10) : lineEnd s i = lineEnd s (i + 1) := by rw [lineEnd, dif_pos ⟨h, h2⟩]
theorem lineEnd_stop {s : ByteArray} {i : Nat} (h : ¬ (i < s.size ∧ bt s i ≠ 10)) : lineEnd s i = i := by rw [lineEnd, dif_neg h]
theorem lineEnd_bd (s : ByteArray) : ∀ (n i : Nat), s.size - i ≤ n → i ≤ s.size → i ≤ lineEnd s i ∧ lineEnd s i ≤ s.size
  | 0, i, h, hi => by rw [lineEnd_stop (by omega)]; omega
  | n + 1, i, h, hi => by
    by_cases c : i < s.size ∧ bt s i ≠ 10
    · rw [lineEnd_go c.1 c.2]; have := lineEnd_bd s n (i + 1) (by omega) (by omega); omega
    · rw [lineEnd_stop c]; omega
theorem lineEnd_ten (s : ByteArray) : ∀ (n i : Nat), s.size - i ≤ n → i ≤ s.size → lineEnd s i < s.size → bt s (lineEnd s i) = 10
  | 0, i, h, hi => by rw [lineEnd_stop (by omega)]; omega
  | n + 1, i, h, hi => by
    by_cases c : i < s.size ∧ bt s i ≠ 10
    · rw [lineEnd_go c.1 c.2]; exact lineEnd_ten s n (i + 1) (by omega) (by omega)
    · rw [lineEnd_stop c]
      intro hl
      by_cases e : bt s i = 10
      · exact e
      · exact absurd ⟨hl, e⟩ c
theorem data_drop {s : ByteArray} {i : Nat} (h : i < s.size) : ∃ b : UInt8, s.data.toList.drop i = b :: s.data.toList.drop (i + 1) ∧ b.toNat = bt s i := by
  have hl : i < s.data.toList.length := by simpa using h
  exact ⟨s.data.toList[i], List.drop_eq_getElem_cons hl, (data_at h).symm⟩
/-- Where the library finds a line's end. -/
theorem line_index (s : ByteArray) : ∀ (n i : Nat), s.size - i ≤ n → i ≤ s.size → Lib.indexByte (s.data.toList.drop i) 10 = if lineEnd s i < s.size then ((lineEnd s i - i : Nat) : Int) else -1
  | 0, i, h, hi => by
    obtain rfl : i = s.size := by omega
    rw [lineEnd_stop (by omega), if_neg (Nat.lt_irrefl _), List.drop_eq_nil_of_le (by simp)]
    rfl
  | n + 1, i, h, hi => by
    by_cases c : i < s.size
    · obtain ⟨b, hb, hb2⟩ := data_drop c
      rw [hb]
      by_cases e : bt s i = 10
      · rw [lineEnd_stop (by rintro ⟨_, q⟩; exact q e), if_pos c, Nat.sub_self]
        have : b = 10 := UInt8.toNat_inj.1 (hb2.trans e)
        subst this
        rfl
      · have hne : (b == 10) = false := by
          rw [beq_eq_false_iff_ne]
          rintro rfl
          exact e hb2.symm
        have ih := line_index s n (i + 1) (by omega) (by omega)
        have hbd := lineEnd_bd s _ (i + 1) (Nat.le_refl _) (by omega)
        rw [lineEnd_go c e]
        unfold Lib.indexByte
        rw [hne, ih, if_neg (show ¬ (false = true) by decide)]
        by_cases c2 : lineEnd s (i + 1) < s.size
        · have e3 : (((lineEnd s (i + 1) - (i + 1) : Nat) : Int) == -1) = false := by rw [beq_eq_false_iff_ne]; omega
          rw [if_pos c2, if_pos c2, e3, if_neg (show ¬ (false = true) by decide)]
          omega
        · rw [if_neg c2, if_neg c2]; rfl
    · obtain rfl : i = s.size := by omega
      rw [lineEnd_stop (by omega), if_neg (Nat.lt_irrefl _), List.drop_eq_nil_of_le (by simp)]
      rfl
/-- The lines from here on: where each begins and ends. -/
def linesF (s : ByteArray) (i : Nat) : List (Nat × Nat) := if _h : i ≤ s.size ∧ lineEnd s i < s.size ∧ i ≤ lineEnd s i then (i, lineEnd s i) :: linesF s (lineEnd s i + 1) else [(i, lineEnd s i)]
termination_by s.size - i
theorem linesF_go {s : ByteArray} {i : Nat} (hi : i ≤ s.size) (h : lineEnd s i < s.size) : linesF s i = (i, lineEnd s i) :: linesF s (lineEnd s i + 1) := by
  have := lineEnd_bd s _ i (Nat.le_refl _) hi
  rw [linesF, dif_pos ⟨hi, h, this.1⟩]
theorem linesF_stop {s : ByteArray} {i : Nat} (h : ¬ lineEnd s i < s.size) : linesF s i = [(i, lineEnd s i)] := by rw [linesF, dif_neg (fun q => h q.2.1)]
/-- So many lines as line's ends, and one. -/
theorem lines_count (s : ByteArray) : ∀ (n i : Nat), s.size - i ≤ n → i ≤ s.size → (linesF s i).length = (s.data.toList.drop i).count 10 + 1 := by
  have key : ∀ (n i : Nat), s.size - i ≤ n → i ≤ s.size → (s.data.toList.drop i).count 10 = if lineEnd s i < s.size then (s.data.toList.drop (lineEnd s i + 1)).count 10 + 1 else 0 := by
    intro n
    induction n with
    | zero =>
      intro i h hi
      obtain rfl : i = s.size := by omega
      rw [lineEnd_stop (by omega), if_neg (Nat.lt_irrefl _), List.drop_eq_nil_of_le (by simp)]
      rfl
    | succ n ih =>
      intro i h hi
      by_cases c : i < s.size
      · obtain ⟨b, hb, hb2⟩ := data_drop c
        rw [hb]
        by_cases e : bt s i = 10
        · rw [lineEnd_stop (by rintro ⟨_, q⟩; exact q e), if_pos c]
          have : b = 10 := UInt8.toNat_inj.1 (hb2.trans e)
          subst this
          rw [List.count_cons_self]
        · have hne : b ≠ 10 := by rintro rfl; exact e hb2.symm
          rw [List.count_cons_of_ne hne, lineEnd_go c e]
          exact ih (i + 1) (by omega) (by omega)
      · obtain rfl : i = s.size := by omega
        rw [lineEnd_stop (by omega), if_neg (Nat.lt_irrefl _), List.drop_eq_nil_of_le (by simp)]
        rfl
  intro n
  induction n with
  | zero =>
    intro i h hi
    have hk := key _ i (Nat.le_refl _) hi
    obtain rfl : i = s.size := by omega
    have e : lineEnd s s.size = s.size := lineEnd_stop (by omega)
    rw [linesF_stop (by omega), hk, if_neg (by omega)]; rfl
  | succ n ih =>
    intro i h hi
    have hk := key _ i (Nat.le_refl _) hi
    by_cases c : lineEnd s i < s.size
    · have := lineEnd_bd s _ i (Nat.le_refl _) hi
      rw [linesF_go hi c, hk, if_pos c, List.length_cons, ih (lineEnd s i + 1) (by omega) (by omega)]
    · rw [linesF_stop c, hk, if_neg c]; rfl
/-- So far the lines were gone through. -/
def AtLn (s : ByteArray) (pre : List (Nat × Nat)) (i : Nat) : Prop := linesF s 0 = pre ++ linesF s i ∧ i ≤ s.size
theorem AtLn.start (s : ByteArray) : AtLn s [] 0 := ⟨rfl, Nat.zero_le _⟩
theorem AtLn.step {s : ByteArray} {pre : List (Nat × Nat)} {i : Nat} (h : AtLn s pre i) (hl : lineEnd s i < s.size) : AtLn s (pre ++ [(i, lineEnd s i)]) (lineEnd s i + 1) :=
  ⟨by rw [h.1, linesF_go h.2 hl]; simp, by omega⟩
theorem AtLn.last {s : ByteArray} {pre : List (Nat × Nat)} {i : Nat} (h : AtLn s pre i) (hl : ¬ lineEnd s i < s.size) : linesF s 0 = pre ++ [(i, lineEnd s i)] ∧ lineEnd s i = s.size := by
  have := lineEnd_bd s _ i (Nat.le_refl _) h.2
  exact ⟨by rw [h.1, linesF_stop hl], by omega⟩
theorem AtLn.len {s : ByteArray} {pre : List (Nat × Nat)} {i : Nat} (h : AtLn s pre i) : pre.length < (linesF s 0).length := by
  have : 0 < (linesF s i).length := by
    unfold linesF
    split <;> simp
  rw [h.1, List.length_append]; omega
theorem lines_len (s : ByteArray) : (linesF s 0).length ≤ s.size + 1 := by
  rw [lines_count s _ 0 (Nat.le_refl _) (Nat.zero_le _)]
  have := List.count_le_length (a := (10 : UInt8)) (l := s.data.toList.drop 0)
  simp at this ⊢
  exact this
/-- All lines lie in the text, each behind the last one's end. -/
theorem lines_in (s : ByteArray) : ∀ (n i : Nat), s.size - i ≤ n → i ≤ s.size → ∀ x ∈ linesF s i, i ≤ x.1 ∧ x.1 ≤ x.2 ∧ x.2 ≤ s.size := by
  intro n
  induction n with
  | zero =>
    intro i h hi x hx
    have := lineEnd_bd s _ i (Nat.le_refl _) hi
    rw [linesF_stop (by omega)] at hx
    simp at hx; subst hx
    exact ⟨Nat.le_refl _, this⟩
  | succ n ih =>
    intro i h hi x hx
    have hb := lineEnd_bd s _ i (Nat.le_refl _) hi
    by_cases c : lineEnd s i < s.size
    · rw [linesF_go hi c] at hx
      rcases List.mem_cons.1 hx with e | e
      · subst e; exact ⟨Nat.le_refl _, hb⟩
      · have := ih (lineEnd s i + 1) (by omega) (by omega) x e; omega
    · rw [linesF_stop c] at hx
      simp at hx; subst hx
      exact ⟨Nat.le_refl _, hb⟩
end Go.Proofs.YtcphkdooemengaaDoor
