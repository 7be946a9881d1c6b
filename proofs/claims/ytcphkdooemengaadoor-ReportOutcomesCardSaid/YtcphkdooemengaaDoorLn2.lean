/- Plain: a line and the one behind it; lines put together. No program in sight. -/
import Derived.Test.YtcphkdooemengaaDoorLn
namespace Go.Proofs.YtcphkdooemengaaDoor
set_option linter.unusedVariables false
set_option linter.unusedSimpArgs false
set_option linter.unnecessarySimpa false
open Go.RowKit
theorem pre_one {α : Type} {pre : List α} {x z : α} (h : pre ++ [x] <+: [z]) : pre = [] ∧ x = z := by
  have hl := h.length_le
  cases pre with
  | nil => simpa using h
  | cons a l => simp at hl
theorem ln_next (s : ByteArray) : ∀ (n i : Nat), s.size - i ≤ n → i ≤ s.size → ∀ (pre : List (Nat × Nat)) (x : Nat × Nat), pre ++ [x] <+: linesF s i →
    (pre = [] → x.1 = i) ∧ (∀ p y, pre = p ++ [y] → x.1 = y.2 + 1 ∧ y.2 < s.size ∧ bt s y.2 = 10) := by
  intro n
  induction n with
  | zero =>
    intro i h hi pre x hp
    have := lineEnd_bd s _ i (Nat.le_refl _) hi
    rw [linesF_stop (by omega)] at hp
    obtain ⟨rfl, rfl⟩ := pre_one hp
    exact ⟨fun _ => rfl, fun p y e => by simp at e⟩
  | succ n ih =>
    intro i h hi pre x hp
    have hb := lineEnd_bd s _ i (Nat.le_refl _) hi
    by_cases c : lineEnd s i < s.size
    · rw [linesF_go hi c] at hp
      cases pre with
      | nil =>
        rw [List.nil_append, List.cons_prefix_cons] at hp
        obtain ⟨hx, _⟩ := hp
        subst hx
        exact ⟨fun _ => rfl, fun p y e => by simp at e⟩
      | cons z pre =>
        rw [List.cons_append, List.cons_prefix_cons] at hp
        obtain ⟨hz, hp⟩ := hp
        subst hz
        have := ih (lineEnd s i + 1) (by omega) (by omega) pre x hp
        refine ⟨fun e => (by cases e), fun p y e => ?_⟩
        cases p with
        | nil =>
          simp at e
          obtain ⟨rfl, rfl⟩ := e
          exact ⟨this.1 rfl, c, lineEnd_ten s _ i (Nat.le_refl _) hi c⟩
        | cons q p =>
          simp at e
          exact this.2 p y e.2
    · rw [linesF_stop c] at hp
      obtain ⟨rfl, rfl⟩ := pre_one hp
      exact ⟨fun _ => rfl, fun p y e => by simp at e⟩
/-- The lines so far, put together. -/
def wholeT (s : ByteArray) (pre : List (Nat × Nat)) : ByteArray := match pre.getLast? with | none => ⟨#[]⟩ | some y => s.extract 0 y.2
theorem wholeT_snoc (s : ByteArray) (pre : List (Nat × Nat)) (x : Nat × Nat) : wholeT s (pre ++ [x]) = s.extract 0 x.2 := by simp [wholeT]
theorem ext_join {s : ByteArray} {a b : Nat} (hab : a + 1 ≤ b) (hb : b ≤ s.size) (h : bt s a = 10) : s.extract 0 a ++ ⟨#[10]⟩ ++ s.extract (a + 1) b = s.extract 0 b := by
  have hl : a < s.data.size := by show a < s.size; omega
  have h0 := data_at (s := s) (j := a) (by omega)
  have h1 : (#[10] : Array UInt8) = s.data.extract a (a + 1) := by
    apply Array.ext
    · simp; omega
    · intro i h1 h2
      obtain rfl : i = 0 := by simp at h1; omega
      apply UInt8.toNat_inj.1
      simp at h0 ⊢
      omega
  apply ByteArray.ext
  simp only [ByteArray.data_append, ByteArray.data_extract]
  rw [h1, Array.extract_append_extract, show max a (a + 1) = a + 1 by omega, Array.extract_append_extract]
  congr 1 <;> omega
theorem nil_app (t : ByteArray) : (⟨#[]⟩ : ByteArray) ++ t = t := by apply ByteArray.ext; simp
theorem ext_all (s : ByteArray) : s.extract 0 s.size = s := by apply ByteArray.ext; simp
theorem lines_end (s : ByteArray) : ∀ (n i : Nat), s.size - i ≤ n → i ≤ s.size → ∃ p x, linesF s i = p ++ [x] ∧ x.2 = s.size := by
  intro n
  induction n with
  | zero =>
    intro i h hi
    have := lineEnd_bd s _ i (Nat.le_refl _) hi
    exact ⟨[], _, linesF_stop (by omega), by show lineEnd s i = s.size; omega⟩
  | succ n ih =>
    intro i h hi
    have := lineEnd_bd s _ i (Nat.le_refl _) hi
    by_cases c : lineEnd s i < s.size
    · obtain ⟨p, x, e, hx⟩ := ih (lineEnd s i + 1) (by omega) (by omega)
      exact ⟨(i, lineEnd s i) :: p, x, by rw [linesF_go hi c, e]; rfl, hx⟩
    · exact ⟨[], _, linesF_stop c, by show lineEnd s i = s.size; omega⟩
theorem whole_all (s : ByteArray) : wholeT s (linesF s 0) = s := by
  obtain ⟨p, x, e, hx⟩ := lines_end s _ 0 (Nat.le_refl _) (Nat.zero_le _)
  rw [e, wholeT_snoc, hx, ext_all]
/-- A line more. -/
theorem whole_step {s : ByteArray} {pre : List (Nat × Nat)} {x : Nat × Nat} (h : pre ++ [x] <+: linesF s 0) : (if 0 < pre.length then wholeT s pre ++ ⟨#[10]⟩ else wholeT s pre) ++ s.extract x.1 x.2 = wholeT s (pre ++ [x]) := by
  have hn := ln_next s _ 0 (Nat.le_refl _) (Nat.zero_le _) pre x h
  have hi := lines_in s _ 0 (Nat.le_refl _) (Nat.zero_le _) x (h.subset (by simp))
  rw [wholeT_snoc]
  rcases List.eq_nil_or_concat pre with rfl | ⟨p, y, rfl⟩
  · rw [if_neg (by simp), hn.1 rfl, show wholeT s [] = ⟨#[]⟩ from rfl, nil_app]
  · obtain ⟨e1, e2, e3⟩ := hn.2 p y (by simp)
    have e : wholeT s (p.concat y) = s.extract 0 y.2 := by rw [List.concat_eq_append, wholeT_snoc]
    rw [if_pos (by simp), e, e1]
    exact ext_join (by omega) hi.2.2 e3
/-- A line by its number. -/
def lnAt (s : ByteArray) (n : Nat) : Nat × Nat := (linesF s 0).getD n (0, 0)
def lnT (s : ByteArray) (n : Nat) : ByteArray := s.extract (lnAt s n).1 (lnAt s n).2
theorem lnAt_is {s : ByteArray} {n : Nat} {x : Nat × Nat} (h : (linesF s 0)[n]? = some x) : lnAt s n = x := by unfold lnAt; rw [List.getD_eq_getElem?_getD, h]; rfl
theorem lnAt_get {s : ByteArray} {n : Nat} (h : n < (linesF s 0).length) : (linesF s 0)[n]? = some (lnAt s n) := by
  unfold lnAt; rw [List.getD_eq_getElem?_getD, List.getElem?_eq_getElem h]; rfl
theorem lnAt_bd {s : ByteArray} {n : Nat} (h : n < (linesF s 0).length) : (lnAt s n).1 ≤ (lnAt s n).2 ∧ (lnAt s n).2 ≤ s.size := by
  have := lines_in s _ 0 (Nat.le_refl _) (Nat.zero_le _) _ (List.mem_of_getElem? (lnAt_get h))
  omega
theorem lines_pos (s : ByteArray) : 0 < (linesF s 0).length := by
  rw [lines_count s _ 0 (Nat.le_refl _) (Nat.zero_le _)]; omega
theorem pre_at_last {s : ByteArray} {pre : List (Nat × Nat)} {x : Nat × Nat} (h : pre ++ [x] <+: linesF s 0) : (linesF s 0)[pre.length]? = some x := by
  obtain ⟨t, e⟩ := h
  rw [← e]; simp
end Go.Proofs.YtcphkdooemengaaDoor
