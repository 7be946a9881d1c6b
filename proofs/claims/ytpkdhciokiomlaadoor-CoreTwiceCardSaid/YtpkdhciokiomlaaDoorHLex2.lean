/- Plain: chapter 2's reserved words, signs, tokens. No program in sight. -/
import Derived.Test.YtpkdhciokiomlaaDoorHLex
import Derived.Lib.IndexMore
namespace Go.Proofs.YtpkdhciokiomlaaDoor
set_option linter.unusedVariables false
set_option linter.unusedSimpArgs false
set_option linter.unnecessarySimpa false
open Go.RowKit
/-- Words between blanks. -/
def blanked : List (List UInt8) → List UInt8
  | [] => [32]
  | w :: r => 32 :: (w ++ blanked r)
theorem blanked_cons (r : List (List UInt8)) : ∃ u, blanked r = 32 :: u := by cases r <;> exact ⟨_, rfl⟩
theorem contains_iff (s sub : List UInt8) : Lib.contains s sub = true ↔ sub <:+: s := by
  unfold Lib.contains
  rw [decide_eq_true_eq]
  constructor
  · intro h
    rcases Lib.index_spec s sub with ⟨h1, _⟩ | ⟨i, _, _, h3, _⟩
    · omega
    · obtain ⟨t, ht⟩ := List.isPrefixOf_iff_prefix.1 (show sub.isPrefixOf (s.drop i) = true from h3)
      exact ⟨s.take i, t, by rw [List.append_assoc, ht, List.take_append_drop]⟩
  · rintro ⟨p, t, h⟩
    rcases Lib.index_spec s sub with ⟨h1, h2⟩ | ⟨i, h1, _, _, _⟩
    · have hl : p.length ≤ s.length := by rw [← h]; simp
      have := h2 p.length hl
      unfold Lib.occAt at this
      rw [← h, List.append_assoc, List.drop_left] at this
      have h3 : sub.isPrefixOf (sub ++ t) = true := List.isPrefixOf_iff_prefix.2 ⟨t, rfl⟩
      rw [h3] at this
      cases this
    · omega
theorem pre_sep : ∀ (l w r : List UInt8), (∀ x ∈ l, x ≠ 32) → (∀ x ∈ w, x ≠ 32) → l ++ [32] <+: w ++ 32 :: r → l = w
  | [], [], _, _, _, _ => rfl
  | [], b :: w, r, _, hw, ⟨t, h⟩ => by
    simp at h
    exact absurd h.1.symm (hw b (by simp))
  | a :: l, [], r, hl, _, ⟨t, h⟩ => by
    simp at h
    exact absurd h.1 (hl a (by simp))
  | a :: l, b :: w, r, hl, hw, ⟨t, h⟩ => by
    simp at h
    obtain ⟨rfl, h⟩ := h
    rw [pre_sep l w r (fun x hx => hl x (by simp [hx])) (fun x hx => hw x (by simp [hx])) ⟨t, by simpa using h⟩]
theorem infix_skip : ∀ (w r l : List UInt8), (∀ x ∈ w, x ≠ 32) → (32 :: l) <:+: w ++ r → (32 :: l) <:+: r
  | [], _, _, _, h => h
  | b :: w, r, l, hw, h => by
    rcases List.infix_cons_iff.1 h with h1 | h1
    · obtain ⟨t, h1⟩ := h1
      simp at h1
      exact absurd h1.1.symm (hw b (by simp))
    · exact infix_skip w r l (fun x hx => hw x (by simp [hx])) h1
/-- A word between blanks stands among words between blanks just if it is one of them. -/
theorem among_iff (l : List UInt8) (hl : ∀ x ∈ l, x ≠ 32) : ∀ ws : List (List UInt8), (∀ w ∈ ws, ∀ x ∈ w, x ≠ 32) → ((32 :: (l ++ [32])) <:+: blanked ws ↔ l ∈ ws)
  | [], _ => by
    constructor
    · rintro h
      have := h.length_le
      simp [blanked] at this
    · intro h; cases h
  | w :: r, hw => by
    have ih := among_iff l hl r (fun v hv => hw v (by simp [hv]))
    obtain ⟨u, hu⟩ := blanked_cons r
    constructor
    · intro h
      rcases List.infix_cons_iff.1 (show _ <:+: 32 :: (w ++ blanked r) from h) with h1 | h1
      · have h2 : l ++ [32] <+: w ++ blanked r := (List.prefix_cons_inj 32).1 h1
        rw [hu] at h2
        rw [pre_sep l w u hl (hw w (by simp)) h2]
        simp
      · exact List.mem_cons_of_mem _ (ih.1 (infix_skip w _ _ (hw w (by simp)) h1))
    · intro h
      rcases List.mem_cons.1 h with rfl | h
      · refine List.infix_cons_iff.2 (.inl ((List.prefix_cons_inj 32).2 ?_))
        rw [hu]
        exact ⟨u, by simp⟩
      · refine List.infix_cons_iff.2 (.inr ?_)
        exact (ih.2 h).trans (List.suffix_append _ _).isInfix
theorem among_eq (l : List UInt8) (hl : ∀ x ∈ l, x ≠ 32) (ws : List (List UInt8)) (hw : (ws.all fun w => w.all fun x => x != 32) = true) : Lib.contains (blanked ws) (32 :: (l ++ [32])) = decide (l ∈ ws) := by
  rw [Bool.eq_iff_iff, contains_iff, decide_eq_true_eq]
  refine among_iff l hl ws (fun w h x hx => ?_)
  have h1 := List.all_eq_true.1 (List.all_eq_true.1 hw w h) x hx
  simpa using h1
def wordsL : List (List UInt8) := [[98, 114, 101, 97, 107], [99, 97, 116, 99, 104], [99, 108, 97, 115, 115], [99, 111, 110, 115, 116], [99, 111, 110, 115, 116, 114, 117, 99, 116, 111, 114], [99, 111, 110, 116, 105, 110, 117, 101], [101, 108, 115, 101], [101, 110, 117, 109], [101, 120, 112, 111, 114, 116], [101, 120, 116, 101, 110, 100, 115], [102, 97, 108, 115, 101], [102, 105, 110, 97, 108, 108, 121], [102, 111, 114], [102, 117, 110, 99, 116, 105, 111, 110], [105, 102], [105, 109, 112, 108, 101, 109, 101, 110, 116, 115], [105, 110], [105, 110, 116, 101, 114, 102, 97, 99, 101], [108, 101, 116], [110, 97, 109, 101, 115, 112, 97, 99, 101], [110, 101, 119], [110, 117, 108, 108], [111, 102], [112, 117, 98, 108, 105, 99], [114, 101, 97, 100, 111, 110, 108, 121], [114, 101, 116, 117, 114, 110], [115, 117, 112, 101, 114], [116, 104, 105, 115], [116, 104, 114, 111, 119], [116, 114, 117, 101], [116, 114, 121], [116, 121, 112, 101], [116, 121, 112, 101, 111, 102], [117, 110, 100, 101, 102, 105, 110, 101, 100], [119, 104, 105, 108, 101], [97, 115]]
def signs3 : List (List UInt8) := [[61, 61, 61], [33, 61, 61], [62, 62, 62]]
def signs2 : List (List UInt8) := [[61, 62], [43, 61], [45, 61], [42, 61], [37, 61], [60, 61], [62, 61], [60, 60], [62, 62], [38, 38], [124, 124]]
def signs1 : List (List UInt8) := [[123], [125], [40], [41], [91], [93], [46], [44], [59], [58], [63], [61], [43], [45], [42], [37], [33], [126], [60], [62], [38], [124], [94]]
def reserved (l : List UInt8) : Bool := decide (l ∈ wordsL)
theorem reserved_eq (l : List UInt8) (hl : ∀ x ∈ l, x ≠ 32) : Lib.contains (blanked wordsL) (32 :: (l ++ [32])) = reserved l := among_eq l hl wordsL (by decide)
/-- n bytes from here on. -/
def cut (s : ByteArray) (i n : Nat) : List UInt8 := (s.extract i (i + n)).data.toList
def isSign (n : Nat) (l : List UInt8) : Bool := if n = 3 then decide (l ∈ signs3) else if n = 2 then decide (l ∈ signs2) else if n = 1 then decide (l ∈ signs1) else false
/-- The longest sign that begins here: how many bytes (0: none). -/
def signAt (s : ByteArray) (i : Nat) : Nat :=
  if i + 3 ≤ s.size ∧ isSign 3 (cut s i 3) = true then 3 else if i + 2 ≤ s.size ∧ isSign 2 (cut s i 2) = true then 2 else if i + 1 ≤ s.size ∧ isSign 1 (cut s i 1) = true then 1 else 0
theorem signAt_bd (s : ByteArray) (i : Nat) : i ≤ s.size → i + signAt s i ≤ s.size := by
  intro h
  unfold signAt
  repeat' split
  all_goals omega
/-- The token that begins here; holes: the brackets that are open, true for a template's. -/
def tokAt (s : ByteArray) (i : Nat) (holes : List Bool) : Option (Tok × List Bool) :=
  if letterB (bt s i) = true then some (⟨if reserved (s.extract i (wordEnd s i)).data.toList = true then 2 else 1, s.extract i (wordEnd s i), i, wordEnd s i⟩, holes)
  else if digitB (bt s i) = true then (if numOk s i = true then some (⟨3, s.extract i (digEnd s i), i, digEnd s i⟩, holes) else none)
  else if bt s i = 34 ∨ bt s i = 39 then (quotedOf s i).map fun p => (⟨4, p.1, i, p.2⟩, holes)
  else if bt s i = 96 then (pieceOf s i).map fun p => (⟨if p.2.2 = true then 6 else 5, p.1, i, p.2.1⟩, if p.2.2 = true then holes ++ [true] else holes)
  else if bt s i = 125 ∧ holes.getLast? = some true then (pieceOf s i).map fun p => (⟨if p.2.2 = true then 7 else 8, p.1, i, p.2.1⟩, if p.2.2 = true then holes else holes.dropLast)
  else if signAt s i = 0 then none
  else some (⟨9, s.extract i (i + signAt s i), i, i + signAt s i⟩, if signAt s i = 1 ∧ bt s i = 123 then holes ++ [false] else if signAt s i = 1 ∧ bt s i = 125 then holes.dropLast else holes)
theorem tokAt_bd {s : ByteArray} {i : Nat} {holes : List Bool} (hi : i < s.size) {t : Tok} {h' : List Bool} (h : tokAt s i holes = some (t, h')) : t.lo = i ∧ i < t.hi ∧ t.hi ≤ s.size := by
  unfold tokAt at h
  split at h
  · rename_i c
    injection h with h; injection h with h _; subst h
    have := wordEnd_bd s _ (i + 1) (Nat.le_refl _) (by omega)
    rw [← wordEnd_go hi (by simp [nameB, c])] at this
    exact ⟨rfl, by show i < wordEnd s i; omega, this.2⟩
  · split at h
    · rename_i c
      split at h
      · injection h with h; injection h with h _; subst h
        have := digEnd_bd s _ (i + 1) (Nat.le_refl _) (by omega)
        rw [← digEnd_go hi c] at this
        exact ⟨rfl, by show i < digEnd s i; omega, this.2⟩
      · cases h
    · split at h
      · cases hq : quotedOf s i with
        | none => rw [hq] at h; cases h
        | some p =>
          rw [hq] at h
          injection h with h; injection h with h _; subst h
          have := quotedGo_bd s (bt s i) _ (i + 1) ⟨#[]⟩ p.1 p.2 (Nat.le_refl _) hq
          exact ⟨rfl, by show i < p.2; omega, this.2⟩
      · split at h
        · cases hq : pieceOf s i with
          | none => rw [hq] at h; cases h
          | some p =>
            rw [hq] at h
            injection h with h; injection h with h _; subst h
            have := pieceGo_bd s _ (i + 1) ⟨#[]⟩ p.1 p.2.1 p.2.2 (Nat.le_refl _) hq
            exact ⟨rfl, by show i < p.2.1; omega, this.2⟩
        · split at h
          · cases hq : pieceOf s i with
            | none => rw [hq] at h; cases h
            | some p =>
              rw [hq] at h
              injection h with h; injection h with h _; subst h
              have := pieceGo_bd s _ (i + 1) ⟨#[]⟩ p.1 p.2.1 p.2.2 (Nat.le_refl _) hq
              exact ⟨rfl, by show i < p.2.1; omega, this.2⟩
          · split at h
            · cases h
            · rename_i c
              injection h with h; injection h with h _; subst h
              have := signAt_bd s i (by omega)
              exact ⟨rfl, by show i < i + signAt s i; omega, this⟩
/-- The tokens from here on (those ahead of an error, too), and the byte of the error. -/
def toks (s : ByteArray) (i : Nat) (holes : List Bool) : List Tok × Option Nat :=
  if (skip s i).2 = false then ([], some (skip s i).1)
  else if (skip s i).1 < s.size then
    match tokAt s (skip s i).1 holes with
    | none => ([], some (skip s i).1)
    | some p => if _h2 : i < p.1.hi ∧ p.1.hi ≤ s.size then (p.1 :: (toks s p.1.hi p.2).1, (toks s p.1.hi p.2).2) else ([], none)
  else ([⟨10, ⟨#[]⟩, s.size, s.size⟩], none)
termination_by s.size - i
theorem toks_rem {s : ByteArray} {i : Nat} {holes : List Bool} {j : Nat} (h : skip s i = (j, false)) : toks s i holes = ([], some j) := by rw [toks, h]; rfl
theorem toks_end {s : ByteArray} {i : Nat} {holes : List Bool} {j : Nat} (h : skip s i = (j, true)) (hj : ¬ j < s.size) : toks s i holes = ([⟨10, ⟨#[]⟩, s.size, s.size⟩], none) := by
  rw [toks, h, if_neg (by simp), if_neg hj]
theorem toks_bad {s : ByteArray} {i : Nat} {holes : List Bool} {j : Nat} (h : skip s i = (j, true)) (hj : j < s.size) (ht : tokAt s j holes = none) : toks s i holes = ([], some j) := by
  rw [toks, h, if_neg (by simp), if_pos hj]; simp only [ht]
theorem toks_step {s : ByteArray} {i : Nat} {holes : List Bool} {j : Nat} (hi : i ≤ s.size) (h : skip s i = (j, true)) (hj : j < s.size) {t : Tok} {h' : List Bool} (ht : tokAt s j holes = some (t, h')) :
    toks s i holes = (t :: (toks s t.hi h').1, (toks s t.hi h').2) := by
  have hb := skip_bd s _ i (Nat.le_refl _) hi
  rw [h] at hb
  have := tokAt_bd hj ht
  rw [toks, h, if_neg (by simp), if_pos hj]; simp only [ht]
  rw [dif_pos ⟨by have := hb.1; show i < t.hi; simp at this; omega, this.2.2⟩]
theorem toks_len (s : ByteArray) : ∀ (n i : Nat) (holes : List Bool), s.size - i ≤ n → i ≤ s.size → (toks s i holes).1.length ≤ s.size - i + 1 := by
  intro n
  induction n with
  | zero =>
    intro i holes h hi
    have e : skip s i = (i, true) := skip_end (by omega)
    rw [toks_end e (by omega)]; simp
  | succ n ih =>
    intro i holes h hi
    have hb := skip_bd s _ i (Nat.le_refl _) hi
    cases e : skip s i with
    | mk j ok =>
      rw [e] at hb
      cases ok with
      | false => rw [toks_rem e]; simp
      | true =>
        by_cases hj : j < s.size
        · cases ht : tokAt s j holes with
          | none => rw [toks_bad e hj ht]; simp
          | some p =>
            rw [toks_step (t := p.1) (h' := p.2) hi e hj ht]
            have := tokAt_bd (t := p.1) (h' := p.2) hj ht
            have := ih p.1.hi p.2 (by simp at hb; omega) (by omega)
            simp at hb ⊢
            omega
        · rw [toks_end e hj]; simp
end Go.Proofs.YtpkdhciokiomlaaDoor
