/- Plain: chapter 2's tokens in other texts: what stands ahead, behind, between. No program in sight. -/
import Derived.Test.YtdlppdoankeilaaWin
namespace Go.Proofs.Ytdlppdoankeilaa
set_option linter.unusedVariables false
set_option linter.unusedSimpArgs false
set_option linter.unnecessarySimpa false
open Go.RowKit
section
variable {s u : ByteArray}
/-- No blank and no remark begins here. -/
def NoSkip (s : ByteArray) (j : Nat) : Prop := blankB (bt s j) = false ∧ ¬ (bt s j = 47 ∧ j + 1 < s.size ∧ bt s (j + 1) = 47) ∧ ¬ (bt s j = 47 ∧ j + 1 < s.size ∧ bt s (j + 1) = 42)
theorem skip_fix (s : ByteArray) : ∀ (n i j : Nat), s.size - i ≤ n → skip s i = (j, true) → j < s.size → NoSkip s j := by
  intro n
  induction n with
  | zero => intro i j h e hj; rw [skip_end (by omega)] at e; injection e with e _; omega
  | succ n ih =>
    intro i j h e hj
    by_cases c : i < s.size
    · by_cases hb : blankB (bt s i) = true
      · rw [skip_blank c hb] at e; exact ih (i + 1) j (by omega) e hj
      · by_cases h1 : bt s i = 47 ∧ i + 1 < s.size ∧ bt s (i + 1) = 47
        · rw [skip_line h1.2.1 h1.1 h1.2.2] at e
          have := lineEnd_gt c (by omega)
          exact ih (lineEnd s i) j (by omega) e hj
        · by_cases h2 : bt s i = 47 ∧ i + 1 < s.size ∧ bt s (i + 1) = 42
          · have hr := remEnd_ge s _ (i + 2) (Nat.le_refl _)
            by_cases h3 : remEnd s (i + 2) + 1 < s.size
            · rw [skip_rem h2.2.1 h2.1 h2.2.2 h3] at e; exact ih (remEnd s (i + 2) + 2) j (by omega) e hj
            · rw [skip_bad h2.2.1 h2.1 h2.2.2 h3] at e; injection e with _ e; cases e
          · rw [skip_stop c (by simpa using hb) h1 h2] at e
            injection e with e _
            subst e
            exact ⟨by simpa using hb, h1, h2⟩
    · rw [skip_end c] at e; injection e with e _; omega
theorem NoSkip.skip {j : Nat} (h : NoSkip s j) (hj : j < s.size) : skip s j = (j, true) := skip_stop hj h.1 h.2.1 h.2.2
theorem lineEnd_spec (s : ByteArray) : ∀ (n i : Nat), s.size - i ≤ n → i ≤ s.size → (∀ k, i ≤ k → k < lineEnd s i → bt s k ≠ 10) ∧ (lineEnd s i < s.size → bt s (lineEnd s i) = 10) := by
  intro n
  induction n with
  | zero => intro i h hi; rw [lineEnd_stop (by omega)]; exact ⟨fun k h1 h2 => by omega, fun h1 => by omega⟩
  | succ n ih =>
    intro i h hi
    by_cases c : i < s.size ∧ bt s i ≠ 10
    · rw [lineEnd_go c.1 c.2]
      have := ih (i + 1) (by omega) (by omega)
      exact ⟨fun k h1 h2 => by
        by_cases e : k = i
        · rw [e]; exact c.2
        · exact this.1 k (by omega) h2, this.2⟩
    · rw [lineEnd_stop c]
      exact ⟨fun k h1 h2 => by omega, fun h1 => by
        by_cases e : bt s i = 10
        · exact e
        · exact absurd ⟨h1, e⟩ c⟩
theorem lineEnd_over (u : ByteArray) : ∀ (m j : Nat), j + m ≤ u.size → (∀ k, k < m → bt u (j + k) ≠ 10) → lineEnd u j = lineEnd u (j + m)
  | 0, j, _, _ => rfl
  | m + 1, j, h, hk => by
    rw [lineEnd_go (i := j) (by omega) (hk 0 (by omega)), lineEnd_over u m (j + 1) (by omega) (fun k hm => by rw [Nat.add_assoc, Nat.add_comm 1 k]; exact hk (k + 1) (by omega)), Nat.add_assoc, Nat.add_comm 1 m]
theorem remEnd_step (s : ByteArray) : ∀ (n i : Nat), s.size - i ≤ n → ∀ k, i ≤ k → k < remEnd s i → ¬ (bt s k = 42 ∧ bt s (k + 1) = 47) := by
  intro n
  induction n with
  | zero => intro i h; rw [remEnd_stop (by omega)]; exact fun k h1 h2 => by omega
  | succ n ih =>
    intro i h
    by_cases c : i + 1 < s.size ∧ ¬ (bt s i = 42 ∧ bt s (i + 1) = 47)
    · rw [remEnd_go c.1 c.2]
      have := ih (i + 1) (by omega)
      intro k h1 h2
      by_cases e : k = i
      · rw [e]; exact c.2
      · exact this k (by omega) h2
    · rw [remEnd_stop c]; exact fun k h1 h2 => by omega
theorem remEnd_hit (s : ByteArray) : ∀ (n i : Nat), s.size - i ≤ n → remEnd s i + 1 < s.size → bt s (remEnd s i) = 42 ∧ bt s (remEnd s i + 1) = 47 := by
  intro n
  induction n with
  | zero => intro i h; rw [remEnd_stop (by omega)]; exact fun h1 => by omega
  | succ n ih =>
    intro i h
    by_cases c : i + 1 < s.size ∧ ¬ (bt s i = 42 ∧ bt s (i + 1) = 47)
    · rw [remEnd_go c.1 c.2]; exact ih (i + 1) (by omega)
    · rw [remEnd_stop c]
      intro h1
      by_cases h2 : bt s i = 42 ∧ bt s (i + 1) = 47
      · exact h2
      · exact absurd ⟨h1, h2⟩ c
theorem remEnd_over (u : ByteArray) : ∀ (m j : Nat), j + m + 1 < u.size → (∀ k, k < m → ¬ (bt u (j + k) = 42 ∧ bt u (j + k + 1) = 47)) → bt u (j + m) = 42 → bt u (j + m + 1) = 47 → remEnd u j = j + m
  | 0, j, _, _, h1, h2 => remEnd_stop (by rintro ⟨_, h⟩; exact h ⟨h1, h2⟩)
  | m + 1, j, h, hk, h1, h2 => by
    rw [remEnd_go (i := j) (by omega) (hk 0 (by omega)), remEnd_over u m (j + 1) (by omega) (fun k hm => by rw [show j + 1 + k = j + (k + 1) by omega]; exact hk (k + 1) (by omega)) (by rw [show j + 1 + m = j + (m + 1) by omega]; exact h1) (by rw [show j + 1 + m = j + (m + 1) by omega]; exact h2)]
    omega
/-- A gap that ends at the window's end is passed in another text; but a line remark that ends with the text goes on. -/
theorem skip_win (s u : ByteArray) : ∀ (f i j n : Nat), n ≤ f → Win s i u j n → skip s i = (i + n, true) → skip u j = skip u (j + n) ∨ (i + n = s.size ∧ skip u j = skip u (lineEnd u (j + n))) := by
  intro f
  induction f with
  | zero => intro i j n hf h e; obtain rfl : n = 0 := by omega
            exact .inl rfl
  | succ f ih =>
    intro i j n hf h e
    by_cases h0 : n = 0
    · subst h0; exact .inl rfl
    · have ha := h.a
      have hb' := h.b
      have hz := h.z (by omega)
      have c : i < s.size := by omega
      by_cases hb : blankB (bt s i) = true
      · rw [skip_blank c hb] at e
        rw [skip_blank (s := u) (by omega) (by rw [hz]; exact hb)]
        have := ih (i + 1) (j + 1) (n - 1) (by omega) (h.tl 1 (by omega)) (by rw [e, show i + 1 + (n - 1) = i + n by omega])
        rw [show i + 1 + (n - 1) = i + n by omega, show j + 1 + (n - 1) = j + n by omega] at this
        exact this
      · by_cases h1 : bt s i = 47 ∧ i + 1 < s.size ∧ bt s (i + 1) = 47
        · rw [skip_line h1.2.1 h1.1 h1.2.2] at e
          have hlt := lineEnd_gt c (by omega)
          have hbd := skip_bd s _ (lineEnd s i) (Nat.le_refl _) hlt.2
          rw [e] at hbd
          simp only at hbd
          obtain ⟨p1, p2⟩ := lineEnd_spec s _ i (Nat.le_refl _) (by omega)
          have h2 : i + 1 < lineEnd s i := by
            rcases Nat.lt_or_ge (i + 1) (lineEnd s i) with q | q
            · exact q
            · have := p2 (by omega)
              rw [show lineEnd s i = i + 1 by omega, h1.2.2] at this; cases this
          have ho : lineEnd u j = lineEnd u (j + (lineEnd s i - i)) := lineEnd_over u _ j (by omega) (fun k hk => by rw [h.e k (by omega)]; exact p1 _ (by omega) (by omega))
          rw [skip_line (s := u) (by omega) (by rw [hz]; exact h1.1) (by rw [h.e 1 (by omega)]; exact h1.2.2), ho]
          by_cases hl : lineEnd s i < s.size
          · have h10 := p2 hl
            rw [skip_blank hl (by rw [h10]; decide)] at e
            have hbd2 := skip_bd s _ (lineEnd s i + 1) (Nat.le_refl _) (by omega)
            rw [e] at hbd2
            simp only at hbd2
            have hu10 : bt u (j + (lineEnd s i - i)) = 10 := by rw [h.e _ (by omega), show i + (lineEnd s i - i) = lineEnd s i by omega]; exact h10
            rw [lineEnd_stop (s := u) (i := j + (lineEnd s i - i)) (by rintro ⟨_, q⟩; exact q hu10), skip_blank (s := u) (by omega) (by rw [hu10]; decide)]
            have := ih (lineEnd s i + 1) (j + (lineEnd s i - i) + 1) (n - (lineEnd s i + 1 - i)) (by omega) (by
              have := h.tl (lineEnd s i + 1 - i) (r := n - (lineEnd s i + 1 - i)) (by omega)
              rw [show i + (lineEnd s i + 1 - i) = lineEnd s i + 1 by omega, show j + (lineEnd s i + 1 - i) = j + (lineEnd s i - i) + 1 by omega] at this
              exact this) (by rw [e, show lineEnd s i + 1 + (n - (lineEnd s i + 1 - i)) = i + n by omega])
            rw [show lineEnd s i + 1 + (n - (lineEnd s i + 1 - i)) = i + n by omega, show j + (lineEnd s i - i) + 1 + (n - (lineEnd s i + 1 - i)) = j + n by omega] at this
            exact this
          · exact .inr ⟨by omega, by rw [show lineEnd s i - i = n by omega]⟩
        · by_cases h2 : bt s i = 47 ∧ i + 1 < s.size ∧ bt s (i + 1) = 42
          · have hr := remEnd_ge s _ (i + 2) (Nat.le_refl _)
            by_cases h3 : remEnd s (i + 2) + 1 < s.size
            · rw [skip_rem h2.2.1 h2.1 h2.2.2 h3] at e
              have hbd := skip_bd s _ (remEnd s (i + 2) + 2) (Nat.le_refl _) (by omega)
              rw [e] at hbd
              simp only at hbd
              have p1 := remEnd_step s _ (i + 2) (Nat.le_refl _)
              obtain ⟨p2, p3⟩ := remEnd_hit s _ (i + 2) (Nat.le_refl _) h3
              have ho : remEnd u (j + 2) = j + 2 + (remEnd s (i + 2) - (i + 2)) := remEnd_over u _ (j + 2) (by omega) (fun k hk => by
                rw [show j + 2 + k = j + (2 + k) by omega, show j + (2 + k) + 1 = j + (2 + k + 1) by omega, h.e (2 + k) (by omega), h.e (2 + k + 1) (by omega)]
                have := p1 (i + 2 + k) (by omega) (by omega)
                rw [show i + 2 + k + 1 = i + (2 + k + 1) by omega, show i + 2 + k = i + (2 + k) by omega] at this
                exact this)
                (by rw [show j + 2 + (remEnd s (i + 2) - (i + 2)) = j + (remEnd s (i + 2) - i) by omega, h.e _ (by omega), show i + (remEnd s (i + 2) - i) = remEnd s (i + 2) by omega]; exact p2)
                (by rw [show j + 2 + (remEnd s (i + 2) - (i + 2)) + 1 = j + (remEnd s (i + 2) + 1 - i) by omega, h.e _ (by omega), show i + (remEnd s (i + 2) + 1 - i) = remEnd s (i + 2) + 1 by omega]; exact p3)
              rw [skip_rem (s := u) (by omega) (by rw [hz]; exact h2.1) (by rw [h.e 1 (by omega)]; exact h2.2.2) (by omega), ho]
              have := ih (remEnd s (i + 2) + 2) (j + 2 + (remEnd s (i + 2) - (i + 2)) + 2) (n - (remEnd s (i + 2) + 2 - i)) (by omega) (by
                have := h.tl (remEnd s (i + 2) + 2 - i) (r := n - (remEnd s (i + 2) + 2 - i)) (by omega)
                rw [show i + (remEnd s (i + 2) + 2 - i) = remEnd s (i + 2) + 2 by omega, show j + (remEnd s (i + 2) + 2 - i) = j + 2 + (remEnd s (i + 2) - (i + 2)) + 2 by omega] at this
                exact this) (by rw [e, show remEnd s (i + 2) + 2 + (n - (remEnd s (i + 2) + 2 - i)) = i + n by omega])
              rw [show remEnd s (i + 2) + 2 + (n - (remEnd s (i + 2) + 2 - i)) = i + n by omega, show j + 2 + (remEnd s (i + 2) - (i + 2)) + 2 + (n - (remEnd s (i + 2) + 2 - i)) = j + n by omega] at this
              exact this
            · rw [skip_bad h2.2.1 h2.1 h2.2.2 h3] at e; injection e with _ e; cases e
          · rw [skip_stop c (by simpa using hb) h1 h2] at e
            injection e with e _; omega
theorem toks_skip {a b : Nat} (ha : a ≤ u.size) (hb : b ≤ u.size) (h : skip u a = skip u b) (holes : List Bool) : toks u a holes = toks u b holes := by
  cases e : skip u b with
  | mk j ok =>
    rw [e] at h
    cases ok with
    | false => rw [toks_rem e, toks_rem h]
    | true =>
      by_cases hj : j < u.size
      · cases ht : tokAt u j holes with
        | none => rw [toks_bad e hj ht, toks_bad h hj ht]
        | some p => rw [toks_step (t := p.1) (h' := p.2) hb e hj ht, toks_step (t := p.1) (h' := p.2) ha h hj ht]
      · rw [toks_end e hj, toks_end h hj]
/-- From i0 on the one text is the other, d bytes further on. -/
structure Suf (s u : ByteArray) (i0 d : Nat) : Prop where
  size : u.size = s.size + d
  e : ∀ k, i0 ≤ k → k < s.size → bt u (k + d) = bt s k
theorem Suf.win {i0 d i : Nat} (h : Suf s u i0 d) (hi : i0 ≤ i) (hs : i ≤ s.size) : Win s i u (i + d) (s.size - i) :=
  ⟨by omega, by have := h.size; omega, fun k hk => by rw [show i + d + k = i + k + d by omega]; exact h.e _ (by omega) (by omega)⟩
theorem lineEnd_suf {i0 d : Nat} (h : Suf s u i0 d) : ∀ (n i : Nat), s.size - i ≤ n → i0 ≤ i → i ≤ s.size → lineEnd u (i + d) = lineEnd s i + d := by
  have hsz := h.size
  intro n
  induction n with
  | zero => intro i hn hi hs; rw [lineEnd_stop (by omega), lineEnd_stop (by omega)]
  | succ n ih =>
    intro i hn hi hs
    by_cases c : i < s.size ∧ bt s i ≠ 10
    · rw [lineEnd_go c.1 c.2, lineEnd_go (s := u) (by omega) (by rw [h.e i hi c.1]; exact c.2), show i + d + 1 = i + 1 + d by omega, ih (i + 1) (by omega) (by omega) (by omega)]
    · rw [lineEnd_stop c, lineEnd_stop (s := u) (by rintro ⟨q1, q2⟩; rw [h.e i hi (by omega)] at q2; exact c ⟨by omega, q2⟩)]
theorem remEnd_suf {i0 d : Nat} (h : Suf s u i0 d) : ∀ (n i : Nat), s.size - i ≤ n → i0 ≤ i → remEnd u (i + d) = remEnd s i + d := by
  have hsz := h.size
  intro n
  induction n with
  | zero => intro i hn hi; rw [remEnd_stop (by omega), remEnd_stop (by omega)]
  | succ n ih =>
    intro i hn hi
    by_cases c : i + 1 < s.size ∧ ¬ (bt s i = 42 ∧ bt s (i + 1) = 47)
    · rw [remEnd_go c.1 c.2, remEnd_go (s := u) (by omega) (by rw [h.e i hi (by omega), show i + d + 1 = i + 1 + d by omega, h.e (i + 1) (by omega) (by omega)]; exact c.2), show i + d + 1 = i + 1 + d by omega, ih (i + 1) (by omega) (by omega)]
    · rw [remEnd_stop c, remEnd_stop (s := u) (by
        rintro ⟨q1, q2⟩
        rw [h.e i hi (by omega), show i + d + 1 = i + 1 + d by omega, h.e (i + 1) (by omega) (by omega)] at q2
        exact c ⟨by omega, q2⟩)]
theorem skip_suf {i0 d : Nat} (h : Suf s u i0 d) : ∀ (n i : Nat), s.size - i ≤ n → i0 ≤ i → i ≤ s.size → skip u (i + d) = ((skip s i).1 + d, (skip s i).2) := by
  have hsz := h.size
  intro n
  induction n with
  | zero => intro i hn hi hs; rw [skip_end (by omega), skip_end (by omega)]
  | succ n ih =>
    intro i hn hi hs
    by_cases c : i < s.size
    · have e0 := h.e i hi c
      by_cases hb : blankB (bt s i) = true
      · rw [skip_blank c hb, skip_blank (s := u) (by omega) (by rw [e0]; exact hb), show i + d + 1 = i + 1 + d by omega]; exact ih (i + 1) (by omega) (by omega) (by omega)
      · by_cases h1 : bt s i = 47 ∧ i + 1 < s.size ∧ bt s (i + 1) = 47
        · have := lineEnd_gt c (by omega)
          rw [skip_line h1.2.1 h1.1 h1.2.2, skip_line (s := u) (by omega) (by rw [e0]; exact h1.1) (by rw [show i + d + 1 = i + 1 + d by omega, h.e (i + 1) (by omega) (by omega)]; exact h1.2.2), lineEnd_suf h _ i (Nat.le_refl _) hi hs]
          exact ih _ (by omega) (by omega) (by omega)
        · by_cases h2 : bt s i = 47 ∧ i + 1 < s.size ∧ bt s (i + 1) = 42
          · have hr := remEnd_ge s _ (i + 2) (Nat.le_refl _)
            have hrs := remEnd_suf h _ (i + 2) (Nat.le_refl _) (by omega)
            rw [show i + 2 + d = i + d + 2 by omega] at hrs
            have q2 : bt u (i + d + 1) = 42 := by rw [show i + d + 1 = i + 1 + d by omega, h.e (i + 1) (by omega) (by omega)]; exact h2.2.2
            by_cases h3 : remEnd s (i + 2) + 1 < s.size
            · rw [skip_rem h2.2.1 h2.1 h2.2.2 h3, skip_rem (s := u) (by omega) (by rw [e0]; exact h2.1) q2 (by rw [hrs]; omega), hrs, show remEnd s (i + 2) + d + 2 = remEnd s (i + 2) + 2 + d by omega]
              exact ih _ (by omega) (by omega) (by omega)
            · rw [skip_bad h2.2.1 h2.1 h2.2.2 h3, skip_bad (s := u) (by omega) (by rw [e0]; exact h2.1) q2 (by rw [hrs]; omega)]
          · rw [skip_stop c (by simpa using hb) h1 h2, skip_stop (s := u) (by omega) (by rw [e0]; simpa using hb) (by
              rintro ⟨q1, q2, q3⟩
              rw [show i + d + 1 = i + 1 + d by omega, h.e (i + 1) (by omega) (by omega)] at q3
              rw [e0] at q1
              exact h1 ⟨q1, by omega, q3⟩) (by
              rintro ⟨q1, q2, q3⟩
              rw [show i + d + 1 = i + 1 + d by omega, h.e (i + 1) (by omega) (by omega)] at q3
              rw [e0] at q1
              exact h2 ⟨q1, by omega, q3⟩)]
    · rw [skip_end c, skip_end (s := u) (by omega)]
def shiftT (d : Nat) (t : Tok) : Tok := ⟨t.kind, t.text, t.lo + d, t.hi + d⟩
theorem toks_suf {i0 d : Nat} (h : Suf s u i0 d) : ∀ (n i : Nat) (holes : List Bool), s.size - i ≤ n → i0 ≤ i → i ≤ s.size → (toks s i holes).2 = none → toks u (i + d) holes = ((toks s i holes).1.map (shiftT d), none) := by
  have hsz := h.size
  intro n
  induction n with
  | zero =>
    intro i holes hn hi hs h0
    obtain rfl : i = s.size := by omega
    rw [toks_end (s := s) (skip_end (by omega)) (by omega), toks_end (s := u) (skip_end (by omega)) (by omega), hsz]
    rfl
  | succ n ih =>
    intro i holes hn hi hs h0
    have hsf := skip_suf h _ i (Nat.le_refl _) hi hs
    have hbd := skip_bd s _ i (Nat.le_refl _) hs
    cases e : skip s i with
    | mk j ok =>
      rw [e] at hsf hbd
      simp only at hsf hbd
      cases ok with
      | false => rw [toks_rem e] at h0; cases h0
      | true =>
        by_cases hj : j < s.size
        · cases ht : tokAt s j holes with
          | none => rw [toks_bad e hj ht] at h0; cases h0
          | some p =>
            have htb := tokAt_bd (t := p.1) (h' := p.2) hj ht
            have hw := tokAt_win (t := p.1) (hh := p.2) (h.win (i := j) (by omega) (by omega)) hj (.inl (by omega)) ht (by omega)
            rw [toks_step (t := p.1) (h' := p.2) hs e hj ht] at h0 ⊢
            simp only at h0
            rw [toks_step (s := u) (by omega) hsf (by omega) hw]
            show ((_ :: (toks u (p.1.hi + (j + d) - j) p.2).1, (toks u (p.1.hi + (j + d) - j) p.2).2) : List Tok × Option Nat) = _
            rw [show p.1.hi + (j + d) - j = p.1.hi + d by omega, ih p.1.hi p.2 (by omega) (by omega) htb.2.2 h0]
            simp only [List.map_cons]
            congr 2
            unfold shiftT
            rw [htb.1]
        · rw [toks_end e hj, toks_end (s := u) hsf (by omega), hsz]; rfl
theorem toks_lo (s : ByteArray) : ∀ (l : List Tok) (i : Nat) (holes : List Bool), i ≤ s.size → (toks s i holes).1 = l → ∀ t ∈ l, i ≤ t.lo ∧ t.lo ≤ t.hi ∧ t.hi ≤ s.size := by
  intro l
  induction l with
  | nil => intro i holes hi h t ht; cases ht
  | cons x l ih =>
    intro i holes hi h t ht
    have hbd := skip_bd s _ i (Nat.le_refl _) hi
    cases e : skip s i with
    | mk j ok =>
      rw [e] at hbd
      simp only at hbd
      cases ok with
      | false => rw [toks_rem e] at h; cases h
      | true =>
        by_cases hj : j < s.size
        · cases htt : tokAt s j holes with
          | none => rw [toks_bad e hj htt] at h; cases h
          | some p =>
            have htb := tokAt_bd (t := p.1) (h' := p.2) hj htt
            rw [toks_step (t := p.1) (h' := p.2) hi e hj htt] at h
            injection h with h1 h2
            rcases List.mem_cons.1 ht with q | q
            · rw [q, ← h1]; omega
            · have := ih p.1.hi p.2 (by omega) h2 t q; omega
        · rw [toks_end e hj] at h
          injection h with h1 h2
          subst h2
          rcases List.mem_cons.1 ht with q | q
          · rw [q, ← h1]; exact ⟨by show i ≤ s.size; omega, Nat.le_refl _, Nat.le_refl _⟩
          · cases q
/-- Ahead of a token that begins at n, in a text that is the same up to n and stops there: the same tokens; then what stands there. -/
theorem toks_pre {n : Nat} (hw : Win s 0 u 0 n) (hst : Stop u n) (P : List Bool → Prop) : ∀ (pre : List Tok) (i : Nat) (holes : List Bool) (t : Tok) (rest : List Tok), i ≤ n → P holes →
    (∀ (x : Tok) (j : Nat) (h1 h2 : List Bool), x ∈ pre → j < s.size → P h1 → tokAt s j h1 = some (x, h2) → P h2) → toks s i holes = (pre ++ t :: rest, none) → t.lo = n →
    ∃ (i' : Nat) (h' : List Bool), i' ≤ n ∧ P h' ∧ toks u i holes = (pre ++ (toks u i' h').1, (toks u i' h').2) ∧ toks s i' h' = (t :: rest, none) ∧ skip s i' = (n, true) := by
  intro pre
  induction pre with
  | nil =>
    intro i holes t rest hi hP _ h hn
    refine ⟨i, holes, hi, hP, rfl, h, ?_⟩
    have ha := hw.a
    have hbd := skip_bd s _ i (Nat.le_refl _) (by omega)
    cases e : skip s i with
    | mk j ok =>
      cases ok with
      | false => rw [toks_rem e] at h; cases h
      | true =>
        by_cases hj : j < s.size
        · cases ht : tokAt s j holes with
          | none => rw [toks_bad e hj ht] at h; cases h
          | some p =>
            have htb := tokAt_bd (t := p.1) (h' := p.2) hj ht
            rw [toks_step (t := p.1) (h' := p.2) (by omega) e hj ht] at h
            injection h with h _
            injection h with h _
            rw [← h, htb.1] at hn
            rw [hn]
        · rw [toks_end e hj] at h
          injection h with h _
          injection h with h _
          rw [e] at hbd
          rw [← h] at hn
          simp only at hn hbd
          rw [← hn, show j = s.size by omega]
  | cons x pre ih =>
    intro i holes t rest hi hP hPs h hn
    have ha := hw.a
    have hb := hw.b
    have hbd := skip_bd s _ i (Nat.le_refl _) (by omega)
    cases e : skip s i with
    | mk j ok =>
      rw [e] at hbd
      simp only at hbd
      cases ok with
      | false => rw [toks_rem e] at h; cases h
      | true =>
        by_cases hj : j < s.size
        · cases ht : tokAt s j holes with
          | none => rw [toks_bad e hj ht] at h; cases h
          | some p =>
            have htb := tokAt_bd (t := p.1) (h' := p.2) hj ht
            rw [toks_step (t := p.1) (h' := p.2) (by omega) e hj ht] at h
            injection h with h h0
            injection h with h h1
            have h2 : toks s p.1.hi p.2 = (pre ++ t :: rest, none) := Prod.ext h1 h0
            have hle : p.1.hi ≤ n := by
              rw [← hn]
              exact (toks_lo s (pre ++ t :: rest) p.1.hi p.2 (by omega) (by rw [h2]) t (by simp)).1
            have hwj : Win s j u j (n - j) := by
              have := hw.tl j (r := n - j) (by omega)
              rw [Nat.zero_add] at this; exact this
            have hns := skip_fix s _ i j (Nat.le_refl _) e hj
            have hz := hwj.z (by omega)
            have hnu : NoSkip u j := by
              refine ⟨by rw [hz]; exact hns.1, ?_, ?_⟩
              · rintro ⟨q1, q2, q3⟩
                rw [hz] at q1
                by_cases c : j + 1 < n
                · have := hwj.e 1 (by omega)
                  rw [this] at q3
                  exact hns.2.1 ⟨q1, by omega, q3⟩
                · rcases hst with q | ⟨_, q⟩
                  · omega
                  · rw [show n = j + 1 by omega, q3] at q; cases q
              · rintro ⟨q1, q2, q3⟩
                rw [hz] at q1
                by_cases c : j + 1 < n
                · have := hwj.e 1 (by omega)
                  rw [this] at q3
                  exact hns.2.2 ⟨q1, by omega, q3⟩
                · rcases hst with q | ⟨_, q⟩
                  · omega
                  · rw [show n = j + 1 by omega, q3] at q; cases q
            have hsu : skip u i = (j, true) := by
              have hwi : Win s i u i (j - i) := by
                have := hw.tl i (r := n - i) (by omega)
                rw [Nat.zero_add] at this
                exact this.hd (by omega)
              rcases skip_win s u _ i i (j - i) (Nat.le_refl _) hwi (by rw [e, show i + (j - i) = j by omega]) with q | ⟨q, _⟩
              · rw [q, show i + (j - i) = j by omega]; exact hnu.skip (by omega)
              · omega
            have hwt := tokAt_win (t := p.1) (hh := p.2) hwj hj (by rw [show j + (n - j) = n by omega]; exact hst) ht (by omega)
            have htu : tokAt u j holes = some (p.1, p.2) := by
              rw [hwt]
              have e1 : (⟨p.1.kind, p.1.text, j, p.1.hi + j - j⟩ : Tok) = p.1 := by
                rw [Nat.add_sub_cancel, ← htb.1]
              rw [e1]
            obtain ⟨i', h', r1, r2, r3, r4, r5⟩ := ih p.1.hi p.2 t rest hle (hPs p.1 j holes p.2 (by rw [h]; simp) hj hP ht) (fun x' j' a b hx => hPs x' j' a b (List.mem_cons_of_mem _ hx)) h2 hn
            refine ⟨i', h', r1, r2, ?_, r4, r5⟩
            rw [toks_step (t := p.1) (h' := p.2) (by omega) hsu (by omega) htu, r3, ← h]
            rfl
        · rw [toks_end e hj] at h
          injection h with h _
          injection h with _ h
          simp at h
end
end Go.Proofs.Ytdlppdoankeilaa
