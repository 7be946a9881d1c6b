/- Plain: chapter 2's tokens in other texts: what stands ahead, behind, between. No program in sight. -/
import Derived.Test.YtdlppdoankeilaaDoorWin
namespace Go.Proofs.YtdlppdoankeilaaDoor
set_option linter.unusedVariables false
set_option linter.unusedSimpArgs false
set_option linter.unnecessarySimpa false
open Go.RowKit
section
variable {s u : ByteArray}
/-- No blank and no remark begins here. -/
def NoSkip (s : ByteArray) (j : Nat) : Prop := blankB (bt s j) = false ∧ ¬ (bt s j = 47 ∧ j + 1 < s.size ∧ bt s (j + 1) = 47) ∧ ¬ (bt s j = 47 ∧ j + 1 < s.size ∧ bt s (j + 1) = 42)
theorem skip_fix (s : ByteArray) : ∀ (n i j : Nat), s.size - i ≤ n → skip s i = (j, true) → j < s.size → NoSkip s j := by
  intro n
  induction n with
  | zero => intro i j h e hj; rw [skip_end (by omega)] at e; injection e with e _; omega
  | succ n ih =>
    intro i j h e hj
    by_cases c : i < s.size
    · by_cases hb : blankB (bt s i) = true
      · rw [skip_blank c hb] at e; exact ih (i + 1) j (by omega) e hj
      · by_cases h1 : bt s i = 47 ∧ i + 1 < s.size ∧ bt s (i + 1) = 47
        · rw [skip_line h1.2.1 h1.1 h1.2.2] at e
          have := lineEnd_gt c (by omega)
          exact ih (lineEnd s i) j (by omega) e hj
        · by_cases h2 : bt s i = 47 ∧ i + 1 < s.size ∧ bt s (i + 1) = 42
          · have hr := remEnd_ge s _ (i + 2) (Nat.le_refl _)
            by_cases h3 : remEnd s (i + 2) + 1 < s.size
            · rw [skip_rem h2.2.1 h2.1 h2.2.2 h3] at e; exact ih (remEnd s (i + 2) + 2) j (by omega) e hj
            · rw [skip_bad h2.2.1 h2.1 h2.2.2 h3] at e; injection e with _ e; cases e
          · rw [skip_stop c (by simpa using hb) h1 h2] at e
            injection e with e _
            subst e
            exact ⟨by simpa using hb, h1, h2⟩
    · rw [skip_end c] at e; injection e with e _; omega
theorem NoSkip.skip {j : Nat} (h : NoSkip s j) (hj : j < s.size) : skip s j = (j, true) := skip_stop hj h.1 h.2.1 h.2.2
theorem lineEnd_spec (s : ByteArray) : ∀ (n i : Nat), s.size - i ≤ n → i ≤ s.size → (∀ k, i ≤ k → k < lineEnd s i → bt s k ≠ 10) ∧ (lineEnd s i < s.size → bt s (lineEnd s i) = 10) := by
  intro n
  induction n with
  | zero => intro i h hi; rw [lineEnd_stop (by omega)]; exact ⟨fun k h1 h2 => by omega, fun h1 => by omega⟩
  | succ n ih =>
    intro i h hi
    by_cases c : i < s.size ∧ bt s i ≠ 10
    · rw [lineEnd_go c.1 c.2]
      have := ih (i + 1) (by omega) (by omega)
      exact ⟨fun k h1 h2 => by
        by_cases e : k = i
        · rw [e]; exact c.2
        · exact this.1 k (by omega) h2, this.2⟩
    · rw [lineEnd_stop c]
      exact ⟨fun k h1 h2 => by omega, fun h1 => by
        by_cases e : bt s i = 10
        · exact e
        · exact absurd ⟨h1, e⟩ c⟩
theorem lineEnd_over (u : ByteArray) : ∀ (m j : Nat), j + m ≤ u.size → (∀ k, k < m → bt u (j + k) ≠ 10) → lineEnd u j = lineEnd u (j + m)
  | 0, j, _, _ => rfl
  | m + 1, j, h, hk => by
    rw [lineEnd_go (i := j) (by omega) (hk 0 (by omega)), lineEnd_over u m (j + 1) (by omega) (fun k hm => by rw [Nat.add_assoc, Nat.add_comm 1 k]; exact hk (k + 1) (by omega)), Nat.add_assoc, Nat.add_comm 1 m]
theorem remEnd_step (s : ByteArray) : ∀ (n i : Nat), s.size - i ≤ n → ∀ k, i ≤ k → k < remEnd s i → ¬ (bt s k = 42 ∧ bt s (k + 1) = 47) := by
  intro n
  induction n with
  | zero => intro i h; rw [remEnd_stop (by omega)]; exact fun k h1 h2 => by omega
  | succ n ih =>
    intro i h
    by_cases c : i + 1 < s.size ∧ ¬ (bt s i = 42 ∧ bt s (i + 1) = 47)
    · rw [remEnd_go c.1 c.2]
      have := ih (i + 1) (by omega)
      intro k h1 h2
      by_cases e : k = i
      · rw [e]; exact c.2
      · exact this k (by omega) h2
    · rw [remEnd_stop c]; exact fun k h1 h2 => by omega
theorem remEnd_hit (s : ByteArray) : ∀ (n i : Nat), s.size - i ≤ n → remEnd s i + 1 < s.size → bt s (remEnd s i) = 42 ∧ bt s (remEnd s i + 1) = 47 := by
  intro n
  induction n with
  | zero => intro i h; rw [remEnd_stop (by omega)]; exact fun h1 => by omega
  | succ n ih =>
    intro i h
    by_cases c : i + 1 < s.size ∧ ¬ (bt s i = 42 ∧ bt s (i + 1) = 47)
    · rw [remEnd_go c.1 c.2]; exact ih (i + 1) (by omega)
    · rw [remEnd_stop c]
      intro h1
      by_cases h2 : bt s i = 42 ∧ bt s (i + 1) = 47
      · exact h2
      · exact absurd ⟨h1, h2⟩ c
theorem remEnd_over (u : ByteArray) : ∀ (m j : Nat), j + m + 1 < u.size → (∀ k, k < m → ¬ (bt u (j + k) = 42 ∧ bt u (j + k + 1) = 47)) → bt u (j + m) = 42 → bt u (j + m + 1) = 47 → remEnd u j = j + m
  | 0, j, _, _, h1, h2 => remEnd_stop (by rintro ⟨_, h⟩; exact h ⟨h1, h2⟩)
  | m + 1, j, h, hk, h1, h2 => by
    rw [remEnd_go (i := j) (by omega) (hk 0 (by omega)), remEnd_over u m (j + 1) (by omega) (fun k hm => by rw [show j + 1 + k = j + (k + 1) by omega]; exact hk (k + 1) (by omega)) (by rw [show j + 1 + m = j + (m + 1) by omega]; exact h1) (by rw [show j + 1 + m = j + (m + 1) by omega]; exact h2)]
    omega
/-- A gap that ends at the window's end is passed in another text; but a line remark that ends with the text goes on. -/
theorem skip_win (s u : ByteArray) : ∀ (f i j n : Nat), n ≤ f → Win s i u j n → skip s i = (i + n, true) → skip u j = skip u (j + n) ∨ (i + n = s.size ∧ skip u j = skip u (lineEnd u (j + n))) := by
  intro f
  induction f with
  | zero => intro i j n hf h e; obtain rfl : n = 0 := by omega
            exact .inl rfl
  | succ f ih =>
    intro i j n hf h e
    by_cases h0 : n = 0
    · subst h0; exact .inl rfl
    · have ha := h.a
      have hb' := h.b
      have hz := h.z (by omega)
      have c : i < s.size := by omega
      by_cases hb : blankB (bt s i) = true
      · rw [skip_blank c hb] at e
        rw [skip_blank (s := u) (by omega) (by rw [hz]; exact hb)]
        have := ih (i + 1) (j + 1) (n - 1) (by omega) (h.tl 1 (by omega)) (by rw [e, show i + 1 + (n - 1) = i + n by omega])
        rw [show i + 1 + (n - 1) = i + n by omega, show j + 1 + (n - 1) = j + n by omega] at this
        exact this
      · by_cases h1 : bt s i = 47 ∧ i + 1 < s.size ∧ bt s (i + 1) = 47
        · rw [skip_line h1.2.1 h1.1 h1.2.2] at e
          have hlt := lineEnd_gt c (by omega)
          have hbd := skip_bd s _ (lineEnd s i) (Nat.le_refl _) hlt.2
          rw [e] at hbd
          simp only at hbd
          obtain ⟨p1, p2⟩ := lineEnd_spec s _ i (Nat.le_refl _) (by omega)
          have h2 : i + 1 < lineEnd s i := by
            rcases Nat.lt_or_ge (i + 1) (lineEnd s i) with q | q
            · exact q
            · have := p2 (by omega)
              rw [show lineEnd s i = i + 1 by omega, h1.2.2] at this; cases this
          have ho : lineEnd u j = lineEnd u (j + (lineEnd s i - i)) := lineEnd_over u _ j (by omega) (fun k hk => by rw [h.e k (by omega)]; exact p1 _ (by omega) (by omega))
          rw [skip_line (s := u) (by omega) (by rw [hz]; exact h1.1) (by rw [h.e 1 (by omega)]; exact h1.2.2), ho]
          by_cases hl : lineEnd s i < s.size
          · have h10 := p2 hl
            rw [skip_blank hl (by rw [h10]; decide)] at e
            have hbd2 := skip_bd s _ (lineEnd s i + 1) (Nat.le_refl _) (by omega)
            rw [e] at hbd2
            simp only at hbd2
            have hu10 : bt u (j + (lineEnd s i - i)) = 10 := by rw [h.e _ (by omega), show i + (lineEnd s i - i) = lineEnd s i by omega]; exact h10
            rw [lineEnd_stop (s := u) (i := j + (lineEnd s i - i)) (by rintro ⟨_, q⟩; exact q hu10), skip_blank (s := u) (by omega) (by rw [hu10]; decide)]
            have := ih (lineEnd s i + 1) (j + (lineEnd s i - i) + 1) (n - (lineEnd s i + 1 - i)) (by omega) (by
              have := h.tl (lineEnd s i + 1 - i) (r := n - (lineEnd s i + 1 - i)) (by omega)
              rw [show i + (lineEnd s i + 1 - i) = lineEnd s i + 1 by omega, show j + (lineEnd s i + 1 - i) = j + (lineEnd s i - i) + 1 by omega] at this
              exact this) (by rw [e, show lineEnd s i + 1 + (n - (lineEnd s i + 1 - i)) = i + n by omega])
            rw [show lineEnd s i + 1 + (n - (lineEnd s i + 1 - i)) = i + n by omega, show j + (lineEnd s i - i) + 1 + (n - (lineEnd s i + 1 - i)) = j + n by omega] at this
            exact this
          · exact .inr ⟨by omega, by rw [show lineEnd s i - i = n by omega]⟩
        · by_cases h2 : bt s i = 47 ∧ i + 1 < s.size ∧ bt s (i + 1) = 42
          · have hr := remEnd_ge s _ (i + 2) (Nat.le_refl _)
            by_cases h3 : remEnd s (i + 2) + 1 < s.size
            · rw [skip_rem h2.2.1 h2.1 h2.2.2 h3] at e
              have hbd := skip_bd s _ (remEnd s (i + 2) + 2) (Nat.le_refl _) (by omega)
              rw [e] at hbd
              simp only at hbd
              have p1 := remEnd_step s _ (i + 2) (Nat.le_refl _)
              obtain ⟨p2, p3⟩ := remEnd_hit s _ (i + 2) (Nat.le_refl _) h3
              have ho : remEnd u (j + 2) = j + 2 + (remEnd s (i + 2) - (i + 2)) := remEnd_over u _ (j + 2) (by omega) (fun k hk => by
                rw [show j + 2 + k = j + (2 + k) by omega, show j + (2 + k) + 1 = j + (2 + k + 1) by omega, h.e (2 + k) (by omega), h.e (2 + k + 1) (by omega)]
                have := p1 (i + 2 + k) (by omega) (by omega)
                rw [show i + 2 + k + 1 = i + (2 + k + 1) by omega, show i + 2 + k = i + (2 + k) by omega] at this
                exact this)
                (by rw [show j + 2 + (remEnd s (i + 2) - (i + 2)) = j + (remEnd s (i + 2) - i) by omega, h.e _ (by omega), show i + (remEnd s (i + 2) - i) = remEnd s (i + 2) by omega]; exact p2)
                (by rw [show j + 2 + (remEnd s (i + 2) - (i + 2)) + 1 = j + (remEnd s (i + 2) + 1 - i) by omega, h.e _ (by omega), show i + (remEnd s (i + 2) + 1 - i) = remEnd s (i + 2) + 1 by omega]; exact p3)
              rw [skip_rem (s := u) (by omega) (by rw [hz]; exact h2.1) (by rw [h.e 1 (by omega)]; exact h2.2.2) (by omega), ho]
              have := ih (remEnd s (i + 2) + 2) (j + 2 + (remEnd s (i + 2) - (i + 2)) + 2) (n - (remEnd s (i + 2) + 2 - i)) (by omega) (by
                have := h.tl (remEnd s (i + 2) + 2 - i) (r := n - (remEnd s (i + 2) + 2 - i)) (by omega)
                rw [show i + (remEnd s (i + 2) + 2 - i) = remEnd s (i + 2) + 2 by omega, show j + (remEnd s (i + 2) + 2 - i) = j + 2 + (remEnd s (i + 2) - (i + 2)) + 2 by omega] at this
                exact this) (by rw [e, show remEnd s (i + 2) + 2 + (n - (remEnd s (i + 2) + 2 - i)) = i + n by omega])
              rw [show remEnd s (i + 2) + 2 + (n - (remEnd s (i + 2) + 2 - i)) = i + n by omega, show j + 2 + (remEnd s (i + 2) - (i + 2)) + 2 + (n - (remEnd s (i + 2) + 2 - i)) = j + n by omega] at this
              exact this
            · rw [skip_bad h2.2.1 h2.1 h2.2.2 h3] at e; injection e with _ e; cases e
          · rw [skip_stop c (by simpa using hb) h1 h2] at e
            injection e with e _; omega
theorem toks_skip {a b : Nat} (ha : a ≤ u.size) (hb : b ≤ u.size) (h : skip u a = skip u b) (holes : List Bool) : toks u a holes = toks u b holes := by
  cases e : skip u b with
  | mk j ok =>
    rw [e] at h
    cases ok with
    | false => rw [toks_rem e, toks_rem h]
    | true =>
      by_cases hj : j < u.size
      · cases ht : tokAt u j holes with
        | none => rw [toks_bad e hj ht, toks_bad h hj ht]
        | some p => rw [toks_step (t := p.1) (h' := p.2) hb e hj ht, toks_step (t := p.1) (h' := p.2) ha h hj ht]
      · rw [toks_end e hj, toks_end h hj]
/-- From i0 on the one text is the other, d bytes further on. -/
structure Suf (s u : ByteArray) (i0 d : Nat) : Prop where
  size : u.size = s.size + d
  e : ∀ k, i0 ≤ k → k < s.size → bt u (k + d) = bt s k
theorem Suf.win {i0 d i : Nat} (h : Suf s u i0 d) (hi : i0 ≤ i) (hs : i ≤ s.size) : Win s i u (i + d) (s.size - i) :=
  ⟨by omega, by have := h.size; omega, fun k hk => by rw [show i + d + k = i + k + d by omega]; exact h.e _ (by omega) (by omega)⟩
theorem lineEnd_suf {i0 d : Nat} (h : Suf s u i0 d) : ∀ (n i : Nat), s.size - i ≤ n → i0 ≤ i → i ≤ s.size → lineEnd u (i + d) = lineEnd s i + d := by
  have hsz := h.size
  intro n
  induction n with
  | zero => intro i hn hi hs; rw [lineEnd_stop (by omega), lineEnd_stop (by omega)]
  | succ n ih =>
    intro i hn hi hs
    by_cases c : i < s.size ∧ bt s i ≠ 10
    · rw [lineEnd_go c.1 c.2, lineEnd_go (s := u) (by omega) (by rw [h.e i hi c.1]; exact c.2), show i + d + 1 = i + 1 + d by omega, ih (i + 1) (by omega) (by omega) (by omega)]
    · rw [lineEnd_stop c, lineEnd_stop (s := u) (by rintro ⟨q1, q2⟩; rw [h.e i hi (by omega)] at q2; exact c ⟨by omega, q2⟩)]
theorem remEnd_suf {i0 d : Nat} (h : Suf s u i0 d) : ∀ (n i : Nat), s.size - i ≤ n → i0 ≤ i → remEnd u (i + d) = remEnd s i + d := by
  have hsz := h.size
  intro n
  induction n with
  | zero => intro i hn hi; rw [remEnd_stop (by omega), remEnd_stop (by omega)]
  | succ n ih =>
    intro i hn hi
    by_cases c : i + 1 < s.size ∧ ¬ (bt s i = 42 ∧ bt s (i + 1) = 47)
    · rw [remEnd_go c.1 c.2, remEnd_go (s := u) (by omega) (by rw [h.e i hi (by omega), show i + d + 1 = i + 1 + d by omega, h.e (i + 1) (by omega) (by omega)]; exact c.2), show i + d + 1 = i + 1 + d by omega, ih (i + 1) (by omega) (by omega)]
    · rw [remEnd_stop c, remEnd_stop (s := u) (by
        rintro ⟨q1, q2⟩
        rw [h.e i hi (by omega), show i + d + 1 = i + 1 + d by omega, h.e (i + 1) (by omega) (by omega)] at q2
        exact c ⟨by omega, q2⟩)]
theorem skip_suf {i0 d : Nat} (h : Suf s u i0 d) : ∀ (n i : Nat), s.size - i ≤ n → i0 ≤ i → i ≤ s.size → skip u (i + d) = ((skip s i).1 + d, (skip s i).2) := by
  have hsz := h.size
  intro n
  induction n with
  | zero => intro i hn hi hs; rw [skip_end (by omega), skip_end (by omega)]
  | succ n ih =>
    intro i hn hi hs
    by_cases c : i < s.size
    · have e0 := h.e i hi c
      by_cases hb : blankB (bt s i) = true
      · rw [skip_blank c hb, skip_blank (s := u) (by omega) (by rw [e0]; exact hb), show i + d + 1 = i + 1 + d by omega]; exact ih (i + 1) (by omega) (by omega) (by omega)
      · by_cases h1 : bt s i = 47 ∧ i + 1 < s.size ∧ bt s (i + 1) = 47
        · have := lineEnd_gt c (by omega)
          rw [skip_line h1.2.1 h1.1 h1.2.2, skip_line (s := u) (by omega) (by rw [e0]; exact h1.1) (by rw [show i + d + 1 = i + 1 + d by omega, h.e (i + 1) (by omega) (by omega)]; exact h1.2.2), lineEnd_suf h _ i (Nat.le_refl _) hi hs]
          exact ih _ (by omega) (by omega) (by omega)
        · by_cases h2 : bt s i = 47 ∧ i + 1 < s.size ∧ bt s (i + 1) = 42
          · have hr := remEnd_ge s _ (i + 2) (Nat.le_refl _)
            have hrs := remEnd_suf h _ (i + 2) (Nat.le_refl _) (by omega)
            rw [show i + 2 + d = i + d + 2 by omega] at hrs
            have q2 : bt u (i + d + 1) = 42 := by rw [show i + d + 1 = i + 1 + d by omega, h.e (i + 1) (by omega) (by omega)]; exact h2.2.2
            by_cases h3 : remEnd s (i + 2) + 1 < s.size
            · rw [skip_rem h2.2.1 h2.1 h2.2.2 h3, skip_rem (s := u) (by omega) (by rw [e0]; exact h2.1) q2 (by rw [hrs]; omega), hrs, show remEnd s (i + 2) + d + 2 = remEnd s (i + 2) + 2 + d by omega]
              exact ih _ (by omega) (by omega) (by omega)
            · rw [skip_bad h2.2.1 h2.1 h2.2.2 h3, skip_bad (s := u) (by omega) (by rw [e0]; exact h2.1) q2 (by rw [hrs]; omega)]
          · rw [skip_stop c (by simpa using hb) h1 h2, skip_stop (s := u) (by omega) (by rw [e0]; simpa using hb) (by
              rintro ⟨q1, q2, q3⟩
              rw [show i + d + 1 = i + 1 + d by omega, h.e (i + 1) (by omega) (by omega)] at q3
              rw [e0] at q1
              exact h1 ⟨q1, by omega, q3⟩) (by
              rintro ⟨q1, q2, q3⟩
              rw [show i + d + 1 = i + 1 + d by omega, h.e (i + 1) (by omega) (by omega)] at q3
              rw [e0] at q1
              exact h2 ⟨q1, by omega, q3⟩)]
    · rw [skip_end c, skip_end (s := u) (by omega)]
def shiftT (d : Nat) (t : Tok) : Tok := ⟨t.kind, t.text, t.lo + d, t.hi + d⟩
theorem toks_suf {i0 d : Nat} (h : Suf s u i0 d) : ∀ (n i : Nat) (holes : List Bool), s.size - i ≤ n → i0 ≤ i → i ≤ s.size → (toks s i holes).2 = none → toks u (i + d) holes = ((toks s i holes).1.map (shiftT d), none) := by
  have hsz := h.size
  intro n
  induction n with
  | zero =>
    intro i holes hn hi hs h0
    obtain rfl : i = s.size := by omega
    rw [toks_end (s := s) (skip_end (by omega)) (by omega), toks_end (s := u) (skip_end (by omega)) (by omega), hsz]
    rfl
  | succ n ih =>
    intro i holes hn hi hs h0
    have hsf := skip_suf h _ i (Nat.le_refl _) hi hs
    have hbd := skip_bd s _ i (Nat.le_refl _) hs
    cases e : skip s i with
    | mk j ok =>
      rw [e] at hsf hbd
      simp only at hsf hbd
      cases ok with
      | false => rw [toks_rem e] at h0; cases h0
      | true =>
        by_cases hj : j < s.size
        · cases ht : tokAt s j holes with
          | none => rw [toks_bad e hj ht] at h0; cases h0
          | some p =>
            have htb := tokAt_bd (t := p.1) (h' := p.2) hj ht
            have hw := tokAt_win (t := p.1) (hh := p.2) (h.win (i := j) (by omega) (by omega)) hj (.inl (by omega)) ht (by omega)
            rw [toks_step (t := p.1) (h' := p.2) hs e hj ht] at h0 ⊢
            simp only at h0
            rw [toks_step (s := u) (by omega) hsf (by omega) hw]
            show ((_ :: (toks u (p.1.hi + (j + d) - j) p.2).1, (toks u (p.1.hi + (j + d) - j) p.2).2) : List Tok × Option Nat) = _
            rw [show p.1.hi + (j + d) - j = p.1.hi + d by omega, ih p.1.hi p.2 (by omega) (by omega) htb.2.2 h0]
            simp only [List.map_cons]
            congr 2
            unfold shiftT
            rw [htb.1]
        · rw [toks_end e hj, toks_end (s := u) hsf (by omega), hsz]; rfl
theorem toks_lo (s : ByteArray) : ∀ (l : List Tok) (i : Nat) (holes : List Bool), i ≤ s.size → (toks s i holes).1 = l → ∀ t ∈ l, i ≤ t.lo ∧ t.lo ≤ t.hi ∧ t.hi ≤ s.size := by
  intro l
  induction l with
  | nil => intro i holes hi h t ht; cases ht
  | cons x l ih =>
    intro i holes hi h t ht
    have hbd := skip_bd s _ i (Nat.le_refl _) hi
    cases e : skip s i with
    | mk j ok =>
      rw [e] at hbd
      simp only at hbd
      cases ok with
      | false => rw [toks_rem e] at h; cases h
      | true =>
        by_cases hj : j < s.size
        · cases htt : tokAt s j holes with
          | none => rw [toks_bad e hj htt] at h; cases h
          | some p =>
            have htb := tokAt_bd (t := p.1) (h' := p.2) hj htt
            rw [toks_step (t := p.1) (h' := p.2) hi e hj htt] at h
            injection h with h1 h2
            rcases List.mem_cons.1 ht with q | q
            · rw [q, ← h1]; omega
            · have := ih p.1.hi p.2 (by omega) h2 t q; omega
        · rw [toks_end e hj] at h
          injection h with h1 h2
          subst h2
          rcases List.mem_cons.1 ht with q | q
          · rw [q, ← h1]; exact ⟨by show i ≤ s.size; omega, Nat.le_refl _, Nat.le_refl _⟩
          · cases q
/-- Ahead of a token that begins at n, in a text that is the same up to n and stops there: the same tokens; then what stands there. -/
theorem toks_pre {n : Nat} (hw : Win s 0 u 0 n) (hst : Stop u n) (P : List Bool → Prop) : ∀ (pre : List Tok) (i : Nat) (holes : List Bool) (t : Tok) (rest : List Tok), i ≤ n → P holes →
    (∀ (x : Tok) (j : Nat) (h1 h2 : List Bool), x ∈ pre → j < s.size → P h1 → tokAt s j h1 = some (x, h2) → P h2) → toks s i holes = (pre ++ t :: rest, none) → t.lo = n →
    ∃ (i' : Nat) (h' : List Bool), i' ≤ n ∧ P h' ∧ toks u i holes = (pre ++ (toks u i' h').1, (toks u i' h').2) ∧ toks s i' h' = (t :: rest, none) ∧ skip s i' = (n, true) := by
  intro pre
  induction pre with
  | nil =>
    intro i holes t rest hi hP _ h hn
    refine ⟨i, holes, hi, hP, rfl, h, ?_⟩
    have ha := hw.a
    have hbd := skip_bd s _ i (Nat.le_refl _) (by omega)
    cases e : skip s i with
    | mk j ok =>
      cases ok with
      | false => rw [toks_rem e] at h; cases h
      | true =>
        by_cases hj : j < s.size
        · cases ht : tokAt s j holes with
          | none => rw [toks_bad e hj ht] at h; cases h
          | some p =>
            have htb := tokAt_bd (t := p.1) (h' := p.2) hj ht
            rw [toks_step (t := p.1) (h' := p.2) (by omega) e hj ht] at h
            injection h with h _
            injection h with h _
            rw [← h, htb.1] at hn
            rw [hn]
        · rw [toks_end e hj] at h
          injection h with h _
          injection h with h _
          rw [e] at hbd
          rw [← h] at hn
          simp only at hn hbd
          rw [← hn, show j = s.size by omega]
  | cons x pre ih =>
    intro i holes t rest hi hP hPs h hn
    have ha := hw.a
    have hb := hw.b
    have hbd := skip_bd s _ i (Nat.le_refl _) (by omega)
    cases e : skip s i with
    | mk j ok =>
      rw [e] at hbd
      simp only at hbd
      cases ok with
      | false => rw [toks_rem e] at h; cases h
      | true =>
        by_cases hj : j < s.size
        · cases ht : tokAt s j holes with
          | none => rw [toks_bad e hj ht] at h; cases h
          | some p =>
            have htb := tokAt_bd (t := p.1) (h' := p.2) hj ht
            rw [toks_step (t := p.1) (h' := p.2) (by omega) e hj ht] at h
            injection h with h h0
            injection h with h h1
            have h2 : toks s p.1.hi p.2 = (pre ++ t :: rest, none) := Prod.ext h1 h0
            have hle : p.1.hi ≤ n := by
              rw [← hn]
              exact (toks_lo s (pre ++ t :: rest) p.1.hi p.2 (by omega) (by rw [h2]) t (by simp)).1
            have hwj : Win s j u j (n - j) := by
              have := hw.tl j (r := n - j) (by omega)
              rw [Nat.zero_add] at this; exact this
            have hns := skip_fix s _ i j (Nat.le_refl _) e hj
            have hz := hwj.z (by omega)
            have hnu : NoSkip u j := by
              refine ⟨by rw [hz]; exact hns.1, ?_, ?_⟩
              · rintro ⟨q1, q2, q3⟩
                rw [hz] at q1
                by_cases c : j + 1 < n
                · have := hwj.e 1 (by omega)
                  rw [this] at q3
                  exact hns.2.1 ⟨q1, by omega, q3⟩
                · rcases hst with q | ⟨_, q⟩
                  · omega
                  · rw [show n = j + 1 by omega, q3] at q; cases q
              · rintro ⟨q1, q2, q3⟩
                rw [hz] at q1
                by_cases c : j + 1 < n
                · have := hwj.e 1 (by omega)
                  rw [this] at q3
                  exact hns.2.2 ⟨q1, by omega, q3⟩
                · rcases hst with q | ⟨_, q⟩
                  · omega
                  · rw [show n = j + 1 by omega, q3] at q; cases q
            have hsu : skip u i = (j, true) := by
              have hwi : Win s i u i (j - i) := by
                have := hw.tl i (r := n - i) (by omega)
                rw [Nat.zero_add] at this
                exact this.hd (by omega)
              rcases skip_win s u _ i i (j - i) (Nat.le_refl _) hwi (by rw [e, show i + (j - i) = j by omega]) with q | ⟨q, _⟩
              · rw [q, show i + (j - i) = j by omega]; exact hnu.skip (by omega)
              · omega
            have hwt := tokAt_win (t := p.1) (hh := p.2) hwj hj (by rw [show j + (n - j) = n by omega]; exact hst) ht (by omega)
            have htu : tokAt u j holes = some (p.1, p.2) := by
              rw [hwt]
              have e1 : (⟨p.1.kind, p.1.text, j, p.1.hi + j - j⟩ : Tok) = p.1 := by
                rw [Nat.add_sub_cancel, ← htb.1]
              rw [e1]
            obtain ⟨i', h', r1, r2, r3, r4, r5⟩ := ih p.1.hi p.2 t rest hle (hPs p.1 j holes p.2 (by rw [h]; simp) hj hP ht) (fun x' j' a b hx => hPs x' j' a b (List.mem_cons_of_mem _ hx)) h2 hn
            refine ⟨i', h', r1, r2, ?_, r4, r5⟩
            rw [toks_step (t := p.1) (h' := p.2) (by omega) hsu (by omega) htu, r3, ← h]
            rfl
        · rw [toks_end e hj] at h
          injection h with h _
          injection h with _ h
          simp at h
end
section
variable {s u : ByteArray}
def endT (n : Nat) : Tok := ⟨10, ⟨#[]⟩, n, n⟩
/-- The bytes between two tokens, a line's end behind them, are no token. -/
theorem gap_blank {i n : Nat} (h : skip s i = (i + n, true)) (hw : Win s i u 0 n) (hz : u.size = n + 1) (h10 : bt u n = 10) : toks u 0 [] = ([endT u.size], none) := by
  have key : skip u n = (u.size, true) := by
    rw [skip_blank (by omega) (by rw [h10]; decide), skip_end (by omega), hz]
  have hl : lineEnd u n = n := lineEnd_stop (by rintro ⟨_, q⟩; exact q h10)
  have e : skip u 0 = (u.size, true) := by
    rcases skip_win s u _ i 0 n (Nat.le_refl _) hw h with q | ⟨_, q⟩
    · rw [q, Nat.zero_add, key]
    · rw [q, Nat.zero_add, hl, key]
  exact toks_end e (by omega)
/-- A token that is no later piece of a template is the same, whatever brackets are open. -/
theorem tokAt_bare {j : Nat} {holes hh : List Bool} {t : Tok} (h : tokAt s j holes = some (t, hh)) (h7 : t.kind ≠ 7) (h8 : t.kind ≠ 8) : ∃ h', tokAt s j [] = some (t, h') := by
  unfold tokAt at h ⊢
  by_cases c1 : letterB (bt s j) = true
  · rw [if_pos c1] at h ⊢; injection h with h; injection h with h _; exact ⟨_, by rw [h]⟩
  · rw [if_neg c1] at h ⊢
    by_cases c2 : digitB (bt s j) = true
    · rw [if_pos c2] at h ⊢
      by_cases c3 : numOk s j = true
      · rw [if_pos c3] at h ⊢; injection h with h; injection h with h _; exact ⟨_, by rw [h]⟩
      · rw [if_neg c3] at h; cases h
    · rw [if_neg c2] at h ⊢
      by_cases c3 : bt s j = 34 ∨ bt s j = 39
      · rw [if_pos c3] at h ⊢
        rw [Option.map_eq_some_iff] at h
        obtain ⟨p, hp, h⟩ := h
        injection h with h _
        rw [hp]; exact ⟨_, by rw [← h]; rfl⟩
      · rw [if_neg c3] at h ⊢
        by_cases c4 : bt s j = 96
        · rw [if_pos c4] at h ⊢
          rw [Option.map_eq_some_iff] at h
          obtain ⟨p, hp, h⟩ := h
          injection h with h _
          rw [hp]; exact ⟨_, by rw [← h]; rfl⟩
        · rw [if_neg c4] at h ⊢
          by_cases c5 : bt s j = 125 ∧ holes.getLast? = some true
          · rw [if_pos c5] at h
            rw [Option.map_eq_some_iff] at h
            obtain ⟨p, hp, h⟩ := h
            injection h with h _
            subst h
            simp only at h7 h8
            by_cases c6 : p.2.2 = true
            · rw [if_pos c6] at h7; exact absurd rfl h7
            · rw [if_neg c6] at h8; exact absurd rfl h8
          · rw [if_neg c5] at h
            rw [if_neg (by rintro ⟨_, q⟩; cases q)]
            by_cases c6 : signAt s j = 0
            · rw [if_pos c6] at h; cases h
            · rw [if_neg c6] at h ⊢
              injection h with h; injection h with h _; exact ⟨_, by rw [h]⟩
/-- A token's bytes alone are it. -/
theorem tok_alone {j : Nat} (hj : j < s.size) {holes hh : List Bool} {t : Tok} (h : tokAt s j holes = some (t, hh)) (h7 : t.kind ≠ 7) (h8 : t.kind ≠ 8) (hns : NoSkip s j) (hw : Win s j u 0 (t.hi - j)) (hz : u.size = t.hi - j) :
    toks u 0 [] = ([⟨t.kind, t.text, 0, t.hi - j⟩, endT u.size], none) := by
  obtain ⟨h', hb⟩ := tokAt_bare h h7 h8
  have hbd := tokAt_bd hj h
  have ht := tokAt_win hw hj (.inl (by omega)) hb (by omega)
  rw [Nat.add_zero] at ht
  have h0 := hw.z (by omega)
  have hnu : NoSkip u 0 := by
    refine ⟨by rw [h0]; exact hns.1, ?_, ?_⟩
    · rintro ⟨q1, q2, q3⟩
      rw [hw.e 1 (by omega)] at q3
      rw [h0] at q1
      exact hns.2.1 ⟨q1, by omega, q3⟩
    · rintro ⟨q1, q2, q3⟩
      rw [hw.e 1 (by omega)] at q3
      rw [h0] at q1
      exact hns.2.2 ⟨q1, by omega, q3⟩
  rw [toks_step (by omega) (hnu.skip (by omega)) (by omega) ht]
  show (_ :: (toks u (t.hi - j) h').1, (toks u (t.hi - j) h').2) = _
  rw [← hz, toks_end (skip_end (Nat.lt_irrefl _)) (Nat.lt_irrefl _)]
  rfl
/-- A gap of blanks and remarks: it is passed wherever it stands; and behind a line remark that the text's end ended. -/
structure Gap (g : ByteArray) : Prop where
  pass : ∀ (u : ByteArray) (n : Nat), Win g 0 u n g.size → skip u n = skip u (n + g.size)
  line : ∀ (u : ByteArray) (n : Nat), Win g 0 u n g.size → u.size = n + g.size → skip u (lineEnd u n) = (u.size, true)
  first : bt g 0 = 32 ∧ 0 < g.size
/-- A text with a gap laid ahead of one of its tokens: the same tokens, those behind it shifted. -/
theorem blanks_law {g : ByteArray} {n : Nat} (hg : Gap g) (hw : Win s 0 u 0 n) (hgw : Win g 0 u n g.size) (hsf : Suf s u n g.size) {pre rest : List Tok} {t : Tok} (h : toks s 0 [] = (pre ++ t :: rest, none)) (hn : t.lo = n) :
    toks u 0 [] = (pre ++ (t :: rest).map (shiftT g.size), none) := by
  have hsz := hsf.size
  have ha := hw.a
  have hst : Stop u n := .inr ⟨by have := hg.first.2; omega, by rw [hgw.z hg.first.2, hg.first.1]; decide⟩
  obtain ⟨i', h', r1, _, r3, r4, r5⟩ := toks_pre hw hst (fun _ => True) pre 0 [] t rest (Nat.zero_le _) trivial (fun _ _ _ _ _ _ _ _ => trivial) h hn
  rw [r3]
  have hwi : Win s i' u i' (n - i') := by
    have := hw.tl i' (r := n - i') (by omega)
    rw [Nat.zero_add] at this; exact this
  have e5 : skip s i' = (i' + (n - i'), true) := by rw [r5, show i' + (n - i') = n by omega]
  have hsk : skip u i' = skip u (n + g.size) := by
    rcases skip_win s u _ i' i' (n - i') (Nat.le_refl _) hwi e5 with q | ⟨q1, q⟩
    · rw [q, show i' + (n - i') = n by omega]; exact hg.pass u n hgw
    · have : n = s.size := by omega
      rw [q, show i' + (n - i') = n by omega, hg.line u n hgw (by omega), show n + g.size = u.size by omega, skip_end (Nat.lt_irrefl _)]
  have hsn : skip s i' = skip s n := by
    rw [r5]
    by_cases c : n < s.size
    · exact ((skip_fix s _ i' n (Nat.le_refl _) r5 c).skip c).symm
    · exact (skip_end c).symm
  have h4 : toks s n h' = (t :: rest, none) := by rw [← toks_skip (by omega) (by omega) hsn, r4]
  have h5 := toks_suf hsf _ n h' (Nat.le_refl _) (Nat.le_refl _) (by omega) (by rw [h4])
  rw [toks_skip (by omega) (by omega) hsk, h5, h4]
/-- No token but a template's first piece, and no brace, opens a bracket. -/
theorem tokAt_flat {j : Nat} {hh : List Bool} {t : Tok} (hj : j < s.size) (h : tokAt s j [] = some (t, hh)) (h6 : t.kind ≠ 6) (hb : t.text ≠ ⟨#[123]⟩) : hh = [] := by
  unfold tokAt at h
  split at h
  · injection h with h; injection h with _ h; exact h.symm
  · split at h
    · split at h
      · injection h with h; injection h with _ h; exact h.symm
      · cases h
    · split at h
      · rw [Option.map_eq_some_iff] at h
        obtain ⟨p, hp, h⟩ := h
        injection h with _ h; exact h.symm
      · split at h
        · rw [Option.map_eq_some_iff] at h
          obtain ⟨p, hp, h⟩ := h
          injection h with h1 h
          subst h1
          by_cases c6 : p.2.2 = true
          · simp only [c6, if_true] at h6; exact absurd rfl h6
          · rw [if_neg c6] at h; exact h.symm
        · split at h
          · rename_i c; cases c.2
          · split at h
            · cases h
            · injection h with h
              injection h with h1 h
              split at h
              · rename_i c
                refine absurd ?_ hb
                rw [← h1]
                show s.extract j (j + signAt s j) = _
                rw [c.1]
                apply ByteArray.ext
                apply Array.ext
                · show (s.extract j (j + 1)).size = 1
                  rw [ByteArray.size_extract]; omega
                · intro k k1 k2
                  have e1 := get_bt (s.extract j (j + 1)) k k1
                  have hk : k = 0 := by simp at k2; exact k2
                  subst hk
                  have e2 : bt (s.extract j (j + 1)) 0 = bt s (j + 0) := bt_extract (by omega) (by omega)
                  exact UInt8.toNat_inj.1 (show ((s.extract j (j + 1))[0]'k1).toNat = 123 from e1.trans (e2.trans c.2))
              · split at h
                · exact h.symm
                · exact h.symm
theorem joins_law {a b : ByteArray} (hw : Win a 0 u 0 a.size) (h10 : bt u a.size = 10) (hsf : Suf b u 0 (a.size + 1)) {pre : List Tok} {t : Tok} (ha : toks a 0 [] = (pre ++ [t], none)) (hlo : t.lo = a.size) (hp : ∀ x ∈ pre, x.kind ≠ 6 ∧ x.text ≠ ⟨#[123]⟩) {m : List Tok} (hb : toks b 0 [] = (m, none)) :
    toks u 0 [] = (pre ++ m.map (shiftT (a.size + 1)), none) := by
  have hsz := hsf.size
  have hst : Stop u a.size := .inr ⟨by omega, by rw [h10]; decide⟩
  obtain ⟨i', h', r1, r2, r3, r4, r5⟩ := toks_pre hw hst (· = []) pre 0 [] t [] (Nat.zero_le _) rfl (fun x j h1 h2 hx hj e1 e2 => by subst e1; exact tokAt_flat hj e2 (hp x hx).1 (hp x hx).2) ha hlo
  subst r2
  rw [r3]
  have hwi : Win a i' u i' (a.size - i') := by
    have := hw.tl i' (r := a.size - i') (by omega)
    rw [Nat.zero_add] at this; exact this
  have hl : lineEnd u a.size = a.size := lineEnd_stop (by rintro ⟨_, q⟩; exact q h10)
  have hsk : skip u i' = skip u (0 + (a.size + 1)) := by
    have e1 : skip u a.size = skip u (0 + (a.size + 1)) := by rw [skip_blank (by omega) (by rw [h10]; decide), Nat.zero_add]
    rcases skip_win a u _ i' i' (a.size - i') (Nat.le_refl _) hwi (by rw [r5, show i' + (a.size - i') = a.size by omega]) with q | ⟨_, q⟩
    · rw [q, show i' + (a.size - i') = a.size by omega, e1]
    · rw [q, show i' + (a.size - i') = a.size by omega, hl, e1]
  have h5 := toks_suf hsf _ 0 [] (Nat.le_refl _) (Nat.le_refl _) (Nat.zero_le _) (by rw [hb])
  rw [toks_skip (by omega) (by omega) hsk, h5, hb]
end
/-! The laws' gaps. -/
theorem skip_sp {u : ByteArray} {n : Nat} (h : n < u.size) (hb : blankB (bt u n) = true) {m : Nat} (hm : m = n + 1) : skip u n = skip u m := by rw [hm]; exact skip_blank h hb
def gapB : Nat → ByteArray
  | 0 => ⟨#[32, 32, 32]⟩
  | 1 => ⟨#[32, 10, 32]⟩
  | 2 => ⟨#[32, 9, 13, 32, 32]⟩
  | 3 => ⟨#[32, 47, 42, 32, 195, 169, 32, 42, 47, 32]⟩
  | 4 => ⟨#[32, 47, 42, 120, 42, 47, 32, 32]⟩
  | _ => ⟨#[32, 47, 47, 120, 10, 32]⟩
theorem Win.at' {g u : ByteArray} {n : Nat} (h : Win g 0 u n g.size) {k c : Nat} (hk : k < g.size) (hc : bt g k = c) : n + k < u.size ∧ bt u (n + k) = c := ⟨by have := h.b; omega, by rw [h.e k hk, Nat.zero_add, hc]⟩
theorem gap_blanks {g u : ByteArray} {n : Nat} (h : Win g 0 u n g.size) : ∀ (m k : Nat), k + m ≤ g.size → (∀ j, k ≤ j → j < k + m → blankB (bt g j) = true) → skip u (n + k) = skip u (n + (k + m))
  | 0, _, _, _ => rfl
  | m + 1, k, hm, hb => by
    obtain ⟨a, b⟩ := h.at' (k := k) (by omega) rfl
    rw [skip_blank a (by rw [b]; exact hb k (by omega) (by omega)), Nat.add_assoc, gap_blanks h m (k + 1) (by omega) (fun j h1 h2 => hb j (by omega) (by omega)), show k + 1 + m = k + (m + 1) by omega]
theorem gap_rem {g u : ByteArray} {n : Nat} (h : Win g 0 u n g.size) {k m : Nat} (hm : k + m + 3 < g.size) (h1 : bt g k = 47) (h2 : bt g (k + 1) = 42) (hb : ∀ j, j < m → bt g (k + 2 + j) ≠ 42) (h3 : bt g (k + 2 + m) = 42) (h4 : bt g (k + 3 + m) = 47) : skip u (n + k) = skip u (n + (k + m + 4)) := by
  obtain ⟨a1, b1⟩ := h.at' (k := k) (by omega) h1
  obtain ⟨a2, b2⟩ := h.at' (k := k + 1) (by omega) h2
  obtain ⟨a3, b3⟩ := h.at' (k := k + 2 + m) (by omega) h3
  obtain ⟨a4, b4⟩ := h.at' (k := k + 3 + m) (by omega) h4
  have hr : remEnd u (n + k + 2) = n + k + 2 + m := remEnd_over u m (n + k + 2) (by omega) (fun j hj => by
    rintro ⟨q, _⟩
    have := (h.at' (k := k + 2 + j) (by omega) rfl).2
    rw [show n + (k + 2 + j) = n + k + 2 + j by omega, q] at this
    exact hb j hj this.symm) (by rw [show n + k + 2 + m = n + (k + 2 + m) by omega]; exact b3) (by rw [show n + k + 2 + m + 1 = n + (k + 3 + m) by omega]; exact b4)
  rw [skip_rem (by omega) b1 (by rw [show n + k + 1 = n + (k + 1) by omega]; exact b2) (by rw [hr]; omega), hr, show n + k + 2 + m + 2 = n + (k + m + 4) by omega]
theorem gap_line {g u : ByteArray} {n : Nat} (h : Win g 0 u n g.size) {k m : Nat} (hm : k + m ≤ g.size) (hb : ∀ j, k ≤ j → j < k + m → bt g j ≠ 10) : lineEnd u (n + k) = lineEnd u (n + (k + m)) := by
  have hB := h.b
  rw [lineEnd_over u m (n + k) (by omega) (fun j hj => by
    have := (h.at' (k := k + j) (by omega) rfl).2
    rw [show n + (k + j) = n + k + j by omega] at this
    rw [this]; exact hb _ (by omega) (by omega)), Nat.add_assoc]
theorem gap_here {g u : ByteArray} {n : Nat} (h : Win g 0 u n g.size) {k : Nat} (hk : k < g.size) (h10 : bt g k = 10) : lineEnd u (n + k) = n + k := lineEnd_stop (by rintro ⟨_, q⟩; exact q (h.at' hk h10).2)
theorem upto_of {P : Nat → Prop} {m : Nat} (k : Nat) (h : ∀ j : Fin m, P (k + j)) : ∀ j, k ≤ j → j < k + m → P j := fun j h1 h2 => by
  have := h ⟨j - k, by omega⟩
  rwa [show k + (j - k) = j by omega] at this
theorem gap_fine (w : Nat) : Gap (gapB w) := by
  match w with
  | 0 => exact ⟨fun u n h => gap_blanks h 3 0 (by decide) (upto_of 0 (by decide)), fun u n h hz => by
      have := gap_line h (k := 0) (m := 3) (by decide) (upto_of 0 (by decide))
      rw [Nat.add_zero] at this
      rw [this, show n + (0 + 3) = u.size by rw [hz]; rfl, lineEnd_stop (by omega), skip_end (by omega)], by decide⟩
  | 1 => exact ⟨fun u n h => gap_blanks h 3 0 (by decide) (upto_of 0 (by decide)), fun u n h hz => by
      have := gap_line h (k := 0) (m := 1) (by decide) (upto_of 0 (by decide))
      rw [Nat.add_zero] at this
      rw [this, gap_here h (k := 0 + 1) (by decide) (by decide), gap_blanks h 2 1 (by decide) (upto_of 1 (by decide)), show n + (1 + 2) = u.size by rw [hz]; rfl, skip_end (by omega)], by decide⟩
  | 2 => exact ⟨fun u n h => gap_blanks h 5 0 (by decide) (upto_of 0 (by decide)), fun u n h hz => by
      have := gap_line h (k := 0) (m := 5) (by decide) (upto_of 0 (by decide))
      rw [Nat.add_zero] at this
      rw [this, show n + (0 + 5) = u.size by rw [hz]; rfl, lineEnd_stop (by omega), skip_end (by omega)], by decide⟩
  | 3 => exact ⟨fun u n h => by
      have h1 := gap_blanks h 1 0 (by decide) (upto_of 0 (by decide))
      have h2 := gap_rem h (k := 1) (m := 4) (by decide) (by decide) (by decide) (by decide) (by decide) (by decide)
      have h3 := gap_blanks h 1 9 (by decide) (upto_of 9 (by decide))
      rw [Nat.add_zero] at h1
      rw [h1, h2, h3]; rfl, fun u n h hz => by
      have := gap_line h (k := 0) (m := 10) (by decide) (upto_of 0 (by decide))
      rw [Nat.add_zero] at this
      rw [this, show n + (0 + 10) = u.size by rw [hz]; rfl, lineEnd_stop (by omega), skip_end (by omega)], by decide⟩
  | 4 => exact ⟨fun u n h => by
      have h1 := gap_blanks h 1 0 (by decide) (upto_of 0 (by decide))
      have h2 := gap_rem h (k := 1) (m := 1) (by decide) (by decide) (by decide) (by decide) (by decide) (by decide)
      have h3 := gap_blanks h 2 6 (by decide) (upto_of 6 (by decide))
      rw [Nat.add_zero] at h1
      rw [h1, h2, h3]; rfl, fun u n h hz => by
      have := gap_line h (k := 0) (m := 8) (by decide) (upto_of 0 (by decide))
      rw [Nat.add_zero] at this
      rw [this, show n + (0 + 8) = u.size by rw [hz]; rfl, lineEnd_stop (by omega), skip_end (by omega)], by decide⟩
  | w + 5 => exact show Gap (⟨#[32, 47, 47, 120, 10, 32]⟩ : ByteArray) from ⟨fun u n h => by
      have h1 := gap_blanks h 1 0 (by decide) (upto_of 0 (by decide))
      obtain ⟨a1, b1⟩ := h.at' (k := 1) (c := 47) (by decide) (by decide)
      obtain ⟨a2, b2⟩ := h.at' (k := 2) (c := 47) (by decide) (by decide)
      have h2 := gap_line h (k := 1) (m := 3) (by decide) (upto_of 1 (by decide))
      have h3 := gap_blanks h 2 4 (by decide) (upto_of 4 (by decide))
      rw [Nat.add_zero] at h1
      rw [h1, skip_line (by omega) b1 b2, h2, gap_here h (k := 1 + 3) (by decide) (by decide), h3]; rfl, fun u n h hz => by
      have h2 := gap_line h (k := 0) (m := 4) (by decide) (upto_of 0 (by decide))
      have h3 := gap_blanks h 2 4 (by decide) (upto_of 4 (by decide))
      rw [Nat.add_zero] at h2
      rw [h2, gap_here h (k := 0 + 4) (by decide) (by decide), h3, show n + (4 + 2) = u.size by rw [hz]; rfl, skip_end (by omega)], by decide⟩
end Go.Proofs.YtdlppdoankeilaaDoor
