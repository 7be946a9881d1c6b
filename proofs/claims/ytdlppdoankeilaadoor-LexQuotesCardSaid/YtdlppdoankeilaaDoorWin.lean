/- Plain: chapter 2's tokens: what a token reads. No program in sight. -/
import Derived.Test.YtdlppdoankeilaaDoorLex2
import Derived.Test.YtdlppdoankeilaaDoorCut
namespace Go.Proofs.YtdlppdoankeilaaDoor
set_option linter.unusedVariables false
set_option linter.unusedSimpArgs false
set_option linter.unnecessarySimpa false
open Go.RowKit
theorem get_bt (q : ByteArray) (i : Nat) (h : i < q.size) : (q[i]'h).toNat = bt q i := by
  rw [data_at h, Array.getElem_toList]; rfl
/-- n bytes from i on in one text are those from j on in another. -/
structure Win (s : ByteArray) (i : Nat) (u : ByteArray) (j n : Nat) : Prop where
  a : i + n ≤ s.size
  b : j + n ≤ u.size
  e : ∀ k, k < n → bt u (j + k) = bt s (i + k)
section
variable {s u : ByteArray} {i j n : Nat}
theorem Win.hd (h : Win s i u j n) {m : Nat} (hm : m ≤ n) : Win s i u j m := ⟨by have := h.a; omega, by have := h.b; omega, fun k hk => h.e k (by omega)⟩
theorem Win.tl (h : Win s i u j n) (m : Nat) {r : Nat} (hm : m + r = n) : Win s (i + m) u (j + m) r :=
  ⟨by have := h.a; omega, by have := h.b; omega, fun k hk => by have := h.e (m + k) (by omega); rw [Nat.add_assoc, Nat.add_assoc]; exact this⟩
theorem Win.z (h : Win s i u j n) (hn : 0 < n) : bt u j = bt s i := h.e 0 hn
theorem Win.ext (h : Win s i u j n) : s.extract i (i + n) = u.extract j (j + n) := by
  apply ByteArray.ext
  apply Array.ext
  · have := h.a; have := h.b
    show (s.extract i (i + n)).size = (u.extract j (j + n)).size
    rw [ByteArray.size_extract, ByteArray.size_extract]; omega
  · intro k h1 h2
    have hk : k < n := by
      have h3 : k < (s.extract i (i + n)).size := h1
      rw [ByteArray.size_extract] at h3; omega
    have e1 := get_bt (s.extract i (i + n)) k h1
    have e2 := get_bt (u.extract j (j + n)) k h2
    rw [bt_extract (by omega) h.a] at e1
    rw [bt_extract (by omega) h.b, h.e k hk, ← e1] at e2
    exact (UInt8.toNat_inj.1 e2).symm
/-- A text ends here, or a blank stands here. -/
def Stop (u : ByteArray) (e : Nat) : Prop := e = u.size ∨ (e < u.size ∧ blankB (bt u e) = true)
theorem blank_cases {c : Nat} (h : blankB c = true) : c = 9 ∨ c = 10 ∨ c = 13 ∨ c = 32 := by simpa [blankB, or_assoc] using h
theorem blank_name {c : Nat} (h : blankB c = true) : nameB c = false ∧ letterB c = false ∧ digitB c = false := by
  rcases blank_cases h with rfl | rfl | rfl | rfl <;> decide
theorem Stop.name (h : Stop u i) : ¬ (i < u.size ∧ nameB (bt u i) = true) := by
  rintro ⟨a, b⟩
  rcases h with h | ⟨_, h⟩
  · omega
  · rw [(blank_name h).1] at b; cases b
theorem Stop.digit (h : Stop u i) : ¬ (i < u.size ∧ digitB (bt u i) = true) := by
  rintro ⟨a, b⟩
  rcases h with h | ⟨_, h⟩
  · omega
  · rw [(blank_name h).2.2] at b; cases b
theorem wordEnd_win (s u : ByteArray) : ∀ (n i j : Nat), Win s i u j n → Stop u (j + n) → wordEnd s i ≤ i + n → wordEnd u j + i = wordEnd s i + j := by
  intro n
  induction n with
  | zero =>
    intro i j h hs hw
    have := wordEnd_bd s _ i (Nat.le_refl _) (by have := h.a; omega)
    rw [wordEnd_stop (show ¬ (j < u.size ∧ nameB (bt u j) = true) from hs.name)]; omega
  | succ n ih =>
    intro i j h hs hw
    have ha := h.a
    have hb := h.b
    have hz := h.z (by omega)
    by_cases c : nameB (bt s i) = true
    · rw [wordEnd_go (by omega) c] at hw ⊢
      rw [wordEnd_go (by omega) (by rw [hz]; exact c)]
      have := ih (i + 1) (j + 1) (h.tl 1 (by omega)) (by rw [show j + 1 + n = j + (n + 1) by omega]; exact hs) (by omega)
      omega
    · rw [wordEnd_stop (fun x => c x.2), wordEnd_stop (fun x => c (by rw [← hz]; exact x.2))]; omega
theorem digEnd_win (s u : ByteArray) : ∀ (n i j v : Nat), Win s i u j n → Stop u (j + n) → digEnd s i ≤ i + n → digEnd u j + i = digEnd s i + j ∧ digVal u j v = digVal s i v := by
  intro n
  induction n with
  | zero =>
    intro i j v h hs hw
    have := digEnd_bd s _ i (Nat.le_refl _) (by have := h.a; omega)
    have hd : ¬ (i < s.size ∧ digitB (bt s i) = true) := by
      rintro ⟨a, b⟩
      rw [digEnd_go a b] at hw
      have := digEnd_bd s _ (i + 1) (Nat.le_refl _) (by omega)
      omega
    rw [digEnd_stop (show ¬ (j < u.size ∧ digitB (bt u j) = true) from hs.digit), digVal_stop (show ¬ (j < u.size ∧ digitB (bt u j) = true) from hs.digit), digVal_stop hd]; exact ⟨by omega, rfl⟩
  | succ n ih =>
    intro i j v h hs hw
    have ha := h.a
    have hb := h.b
    have hz := h.z (by omega)
    by_cases c : digitB (bt s i) = true
    · rw [digEnd_go (by omega) c] at hw ⊢
      rw [digEnd_go (by omega) (by rw [hz]; exact c), digVal_go (by omega) (by rw [hz]; exact c), digVal_go (by omega) c, hz]
      have := ih (i + 1) (j + 1) (min (v * 10 + (bt s i - 48)) 9007199254740992) (h.tl 1 (by omega)) (by rw [show j + 1 + n = j + (n + 1) by omega]; exact hs) (by omega)
      exact ⟨by omega, this.2⟩
    · rw [digEnd_stop (fun x => c x.2), digEnd_stop (fun x => c (by rw [← hz]; exact x.2)), digVal_stop (fun x => c x.2), digVal_stop (fun x => c (by rw [← hz]; exact x.2))]; exact ⟨by omega, rfl⟩
theorem numOk_win (h : Win s i u j n) (hs : Stop u (j + n)) (hn : 0 < n) (hw : digEnd s i ≤ i + n) (hk : numOk s i = true) : numOk u j = true := by
  obtain ⟨h1, h2⟩ := digEnd_win s u n i j 0 h hs hw
  have hz := h.z hn
  have hb := digEnd_bd s _ i (Nat.le_refl _) (by have := h.a; omega)
  unfold numOk at hk ⊢
  rw [h2, hz]
  simp only [Bool.and_eq_true, Bool.not_eq_true', Bool.and_eq_false_iff, decide_eq_true_eq, decide_eq_false_iff_not] at hk ⊢
  obtain ⟨⟨k1, k2⟩, k3⟩ := hk
  refine ⟨⟨k1, k2.imp_right fun x => by omega⟩, ?_⟩
  by_cases e : digEnd s i = i + n
  · have e2 : digEnd u j = j + n := by omega
    rw [e2]
    rcases hs with hs | ⟨_, hs⟩
    · exact .inl (by omega)
    · exact .inr (blank_name hs).2.1
  · have ha := h.a
    right
    rcases k3 with k3 | k3
    · omega
    · have := h.e (digEnd s i - i) (by omega)
      rw [show j + (digEnd s i - i) = digEnd u j by omega, show i + (digEnd s i - i) = digEnd s i by omega] at this
      rw [this]; exact k3
theorem hexEnd_win (s u : ByteArray) : ∀ (n i j c : Nat) (v : Int), Win s i u j n → hexEnd s i (i + c) < i + n → hexEnd u j (j + c) + i = hexEnd s i (i + c) + j ∧ hexVal u j (j + c) v = hexVal s i (i + c) v := by
  intro n
  induction n with
  | zero => intro i j c v h hw; have := hexEnd_bd s (i + c) _ i (Nat.le_refl _); omega
  | succ n ih =>
    intro i j c v h hw
    have ha := h.a
    have hb := h.b
    have hz := h.z (by omega)
    by_cases d : i < s.size ∧ i < i + c ∧ 0 ≤ hexD (bt s i)
    · obtain ⟨d1, d2, d3⟩ := d
      rw [hexEnd_go d1 d2 d3] at hw ⊢
      rw [hexEnd_go (by omega) (by omega) (by rw [hz]; exact d3), hexVal_go (by omega) (by omega) (by rw [hz]; exact d3), hexVal_go d1 d2 d3, hz]
      obtain ⟨c, rfl⟩ : ∃ c', c = c' + 1 := ⟨c - 1, by omega⟩
      rw [show i + (c + 1) = i + 1 + c by omega] at hw ⊢
      rw [show j + (c + 1) = j + 1 + c by omega]
      have := ih (i + 1) (j + 1) c (v * 16 + hexD (bt s i)) (h.tl 1 (by omega)) (by omega)
      exact ⟨by omega, this.2⟩
    · have d' : ¬ (j < u.size ∧ j < j + c ∧ 0 ≤ hexD (bt u j)) := fun x => d ⟨by omega, by omega, by rw [← hz]; exact x.2.2⟩
      rw [hexEnd_stop d, hexEnd_stop d', hexVal_stop d, hexVal_stop d']; exact ⟨by omega, rfl⟩
theorem esc_win (h : Win s i u j n) {t : ByteArray} {k : Nat} (he : esc s i = some (t, k)) (hk : k ≤ i + n) : esc u j = some (t, k + j - i) ∧ i < k := by
  have ha := h.a
  have hb := h.b
  unfold esc at he
  split at he
  case isFalse => cases he
  rename_i c0
  have key : i + 2 ≤ k := by
    have hx := hexEnd_bd s (i + 9) _ (i + 3) (Nat.le_refl _)
    repeat' split at he
    all_goals first
      | (cases he; done)
      | (injection he with he; injection he with _ he; omega)
  have h1 := h.e 1 (by omega)
  refine ⟨?_, by omega⟩
  unfold esc
  rw [if_pos (by omega), h1]
  repeat' split at he
  all_goals first
    | (cases he; done)
    | skip
  · injection he with he; injection he with e1 e2; subst e1; subst e2; rw [if_pos (by assumption)]; congr 2; omega
  · injection he with he; injection he with e1 e2; subst e1; subst e2; rw [if_neg (by assumption), if_pos (by assumption)]; congr 2; omega
  · injection he with he; injection he with e1 e2; subst e1; subst e2; rw [if_neg (by assumption), if_neg (by assumption), if_pos (by assumption)]; congr 2; omega
  · injection he with he; injection he with e1 e2; subst e1; subst e2; rw [if_neg (by assumption), if_neg (by assumption), if_neg (by assumption), if_pos (by assumption)]; congr 2; omega
  · injection he with he; injection he with e1 e2; subst e1; subst e2; rw [if_neg (by assumption), if_neg (by assumption), if_neg (by assumption), if_neg (by assumption), if_pos (by assumption)]; congr 2; omega
  · rename_i hx
    injection he with he; injection he with e1 e2
    have hbd := hexEnd_bd s (i + 9) _ (i + 3) (Nat.le_refl _)
    obtain ⟨q1, q2⟩ := hexEnd_win s u (n - 3) (i + 3) (j + 3) 6 0 (h.tl 3 (by omega)) (by rw [show i + 3 + 6 = i + 9 by omega]; omega)
    rw [show i + 3 + 6 = i + 9 by omega, show j + 3 + 6 = j + 9 by omega] at q1 q2
    have hx2 : hexOk u j = true := by
      unfold hexOk at hx ⊢
      simp only [Bool.and_eq_true, decide_eq_true_eq] at hx
      obtain ⟨⟨⟨⟨⟨⟨k1, k2⟩, k3⟩, k4⟩, k5⟩, k6⟩, k7⟩ := hx
      have h2 := h.e 2 (by omega)
      have h5 := h.e (hexEnd s (i + 3) (i + 9) - i) (by omega)
      rw [show j + (hexEnd s (i + 3) (i + 9) - i) = hexEnd u (j + 3) (j + 9) by omega, show i + (hexEnd s (i + 3) (i + 9) - i) = hexEnd s (i + 3) (i + 9) by omega] at h5
      rw [q2, h2, h5]
      simp only [Bool.and_eq_true, decide_eq_true_eq]
      exact ⟨⟨⟨⟨⟨⟨by omega, k2⟩, by omega⟩, by omega⟩, k5⟩, k6⟩, k7⟩
    subst e1; subst e2
    rw [if_neg (by assumption), if_neg (by assumption), if_neg (by assumption), if_neg (by assumption), if_neg (by assumption), if_pos (by assumption), if_pos hx2, q2]
    congr 2; omega
theorem decodeN_win {n n' b0 b1 b2 b3 c1 c2 c3 m : Nat} (h1 : m < n) (h2 : m < n') (e1 : 1 ≤ m → c1 = b1) (e2 : 2 ≤ m → c2 = b2) (e3 : 3 ≤ m → c3 = b3) (hm : 4 ≤ m ∨ (m = 3 ∧ b3 < 128) ∨ (m = 2 ∧ b2 < 128) ∨ (m = 1 ∧ b1 < 128)) :
    Lib.decodeN n b0 b1 b2 b3 = Lib.decodeN n' b0 c1 c2 c3 ∧ (Lib.decodeN n b0 b1 b2 b3).2 ≤ m := by
  rcases hm with hm | ⟨rfl, hm⟩ | ⟨rfl, hm⟩ | ⟨rfl, hm⟩
  · rw [e1 (by omega), e2 (by omega), e3 (by omega)]
    unfold Lib.decodeN
    simp only [show (1 < n) = True from eq_true (by omega), show (2 < n) = True from eq_true (by omega), show (3 < n) = True from eq_true (by omega), show (1 < n') = True from eq_true (by omega), show (2 < n') = True from eq_true (by omega), show (3 < n') = True from eq_true (by omega)]
    refine ⟨trivial, ?_⟩
    repeat' split
    all_goals (simp only []; omega)
  · rw [e1 (by omega), e2 (by omega), e3 (by omega)]
    unfold Lib.decodeN
    simp only [show (1 < n) = True from eq_true (by omega), show (2 < n) = True from eq_true (by omega), show (1 < n') = True from eq_true (by omega), show (2 < n') = True from eq_true (by omega), show (b3 / 64 = 2) = False from eq_false (by omega), and_false, if_false]
    refine ⟨trivial, ?_⟩
    repeat' split
    all_goals (simp only []; omega)
  · rw [e1 (by omega), e2 (by omega)]
    unfold Lib.decodeN
    simp only [show (1 < n) = True from eq_true (by omega), show (1 < n') = True from eq_true (by omega), show (b2 / 64 = 2) = False from eq_false (by omega), and_false, false_and, if_false]
    refine ⟨trivial, ?_⟩
    repeat' split
    all_goals (simp only []; omega)
  · rw [e1 (by omega)]
    unfold Lib.decodeN
    simp only [show (b1 / 64 = 2) = False from eq_false (by omega), and_false, false_and, if_false]
    refine ⟨trivial, ?_⟩
    repeat' split
    all_goals (simp only []; omega)
/-- A rune is read the same where an ASCII byte follows in the window. -/
theorem dec_win (h : Win s i u j n) {m : Nat} (hm : m < n) (h1 : 0 < m) (ha : bt s (i + m) < 128) : rn u j = rn s i ∧ wd u j = wd s i ∧ wd s i ≤ m := by
  have h1' := h.a
  have h2' := h.b
  unfold rn wd
  rw [dec_eq, dec_eq, h.z (by omega)]
  have key := decodeN_win (n := s.size - i) (n' := u.size - j) (b0 := bt s i) (b1 := bt s (i + 1)) (b2 := bt s (i + 2)) (b3 := bt s (i + 3)) (c1 := bt u (j + 1)) (c2 := bt u (j + 2)) (c3 := bt u (j + 3)) (m := m) (by omega) (by omega)
    (fun x => h.e 1 (by omega)) (fun x => h.e 2 (by omega)) (fun x => h.e 3 (by omega)) (by
      by_cases a4 : 4 ≤ m
      · exact .inl a4
      · by_cases a3 : m = 3
        · subst a3; exact .inr (.inl ⟨rfl, ha⟩)
        · by_cases a2 : m = 2
          · subst a2; exact .inr (.inr (.inl ⟨rfl, ha⟩))
          · obtain rfl : m = 1 := by omega
            exact .inr (.inr (.inr ⟨rfl, ha⟩)))
  rw [← key.1]
  exact ⟨rfl, rfl, key.2⟩
theorem one_win (h : Win s i u j n) {t : ByteArray} {k m : Nat} (he : one s i = some (t, k)) (hk : k ≤ i + m) (hm : m < n) (h1 : 0 < m) (ha : bt s (i + m) < 128) : one u j = some (t, k + j - i) := by
  unfold one at he ⊢
  rw [h.z (by omega)]
  split at he
  · rw [if_pos (by assumption)]; exact (esc_win h he (by omega)).1
  · rw [if_neg (by assumption)]
    obtain ⟨q1, q2, q3⟩ := dec_win h hm h1 ha
    rw [Option.some.injEq, Prod.mk.injEq] at he
    obtain ⟨e1, e2⟩ := he
    rw [q1, q2, e1, show j + wd s i = k + j - i by omega]
theorem quotedGo_last (s : ByteArray) (q : Nat) : ∀ (f j : Nat) (acc t : ByteArray) (k : Nat), s.size - j ≤ f → quotedGo s q j acc = some (t, k) → j < k ∧ bt s (k - 1) = q := by
  intro f
  induction f with
  | zero => intro j acc t k h hq; rw [quotedGo_end (by omega)] at hq; cases hq
  | succ f ih =>
    intro j acc t k h hq
    by_cases c : j < s.size
    · by_cases h1 : bt s j = q
      · rw [quotedGo_close c h1] at hq; injection hq with hq; injection hq with _ hq; subst hq; exact ⟨by omega, h1⟩
      · by_cases h2 : bt s j = 10 ∨ bt s j = 13
        · rw [quotedGo_line c h1 h2] at hq; cases hq
        · cases h3 : one s j with
          | none => rw [quotedGo_bad c h1 h3] at hq; cases hq
          | some p =>
            rw [quotedGo_step (t := p.1) (k := p.2) c h1 h2 h3] at hq
            have := one_bd c h3
            have := ih p.2 _ _ _ (by omega) hq
            exact ⟨by omega, this.2⟩
    · rw [quotedGo_end c] at hq; cases hq
theorem quotedGo_win (s u : ByteArray) (q : Nat) (hq0 : q < 128) : ∀ (f i j n : Nat) (acc t : ByteArray) (k : Nat), n ≤ f → Win s i u j n → quotedGo s q i acc = some (t, k) → k ≤ i + n → quotedGo u q j acc = some (t, k + j - i) := by
  intro f
  induction f with
  | zero =>
    intro i j n acc t k hf h hq hk
    have := quotedGo_last s q _ i acc t k (Nat.le_refl _) hq
    omega
  | succ f ih =>
    intro i j n acc t k hf h hq hk
    have ha := h.a
    have hb := h.b
    obtain ⟨l1, l2⟩ := quotedGo_last s q _ i acc t k (Nat.le_refl _) hq
    have hz := h.z (by omega)
    by_cases h1 : bt s i = q
    · rw [quotedGo_close (by omega) h1] at hq
      injection hq with hq; injection hq with e1 e2; subst e1; subst e2
      rw [quotedGo_close (by omega) (by rw [hz]; exact h1)]; congr 2; omega
    · by_cases h2 : bt s i = 10 ∨ bt s i = 13
      · rw [quotedGo_line (by omega) h1 h2] at hq; cases hq
      · cases h3 : one s i with
        | none => rw [quotedGo_bad (by omega) h1 h3] at hq; cases hq
        | some p =>
          rw [quotedGo_step (t := p.1) (k := p.2) (by omega) h1 h2 h3] at hq
          have hp := one_bd (by omega) h3
          obtain ⟨m1, m2⟩ := quotedGo_last s q _ p.2 _ t k (Nat.le_refl _) hq
          have h4 := one_win h (m := k - 1 - i) h3 (by omega) (by omega) (by omega) (by rw [show i + (k - 1 - i) = k - 1 by omega, l2]; exact hq0)
          rw [quotedGo_step (t := p.1) (k := p.2 + j - i) (by omega) (by rw [hz]; exact h1) (by rw [hz]; exact h2) h4]
          have := ih p.2 (p.2 + j - i) (n - (p.2 - i)) (acc ++ p.1) t k (by omega) (by
            have := h.tl (p.2 - i) (r := n - (p.2 - i)) (by omega)
            rw [show i + (p.2 - i) = p.2 by omega, show j + (p.2 - i) = p.2 + j - i by omega] at this
            exact this) hq (by omega)
          rw [this]; congr 2; omega
theorem pieceGo_last (s : ByteArray) : ∀ (f j : Nat) (acc t : ByteArray) (k : Nat) (m : Bool), s.size - j ≤ f → pieceGo s j acc = some (t, k, m) → j < k ∧ bt s (k - 1) < 128 := by
  intro f
  induction f with
  | zero => intro j acc t k m h hq; rw [pieceGo_end (by omega)] at hq; cases hq
  | succ f ih =>
    intro j acc t k m h hq
    by_cases c : j < s.size
    · by_cases h1 : bt s j = 96
      · rw [pieceGo_close c h1] at hq; injection hq with hq; injection hq with _ hq; injection hq with hq _; subst hq; exact ⟨by omega, by show bt s (j + 1 - 1) < 128; rw [Nat.add_sub_cancel, h1]; decide⟩
      · by_cases h2 : bt s j = 36 ∧ j + 1 < s.size ∧ bt s (j + 1) = 123
        · rw [pieceGo_hole h2.2.1 h2.1 h2.2.2] at hq; injection hq with hq; injection hq with _ hq; injection hq with hq _; subst hq; exact ⟨by omega, by show bt s (j + 2 - 1) < 128; rw [show j + 2 - 1 = j + 1 by omega, h2.2.2]; decide⟩
        · cases h3 : one s j with
          | none => rw [pieceGo_bad c h1 h2 h3] at hq; cases hq
          | some p =>
            rw [pieceGo_step (t := p.1) (k := p.2) c h1 h2 h3] at hq
            have := one_bd c h3
            have := ih p.2 _ _ _ _ (by omega) hq
            exact ⟨by omega, this.2⟩
    · rw [pieceGo_end c] at hq; cases hq
theorem pieceGo_win (s u : ByteArray) : ∀ (f i j n : Nat) (acc t : ByteArray) (k : Nat) (m : Bool), n ≤ f → Win s i u j n → pieceGo s i acc = some (t, k, m) → k ≤ i + n → pieceGo u j acc = some (t, k + j - i, m) := by
  intro f
  induction f with
  | zero =>
    intro i j n acc t k m hf h hq hk
    have := pieceGo_last s _ i acc t k m (Nat.le_refl _) hq
    omega
  | succ f ih =>
    intro i j n acc t k m hf h hq hk
    have ha := h.a
    have hb := h.b
    obtain ⟨l1, l2⟩ := pieceGo_last s _ i acc t k m (Nat.le_refl _) hq
    have hz := h.z (by omega)
    by_cases h1 : bt s i = 96
    · rw [pieceGo_close (by omega) h1] at hq
      injection hq with hq; injection hq with e1 e2; injection e2 with e2 e3; subst e1; subst e2; subst e3
      rw [pieceGo_close (by omega) (by rw [hz]; exact h1)]; congr 3; omega
    · by_cases h2 : bt s i = 36 ∧ i + 1 < s.size ∧ bt s (i + 1) = 123
      · rw [pieceGo_hole h2.2.1 h2.1 h2.2.2] at hq
        injection hq with hq; injection hq with e1 e2; injection e2 with e2 e3; subst e1; subst e2; subst e3
        rw [pieceGo_hole (by omega) (by rw [hz]; exact h2.1) (by rw [h.e 1 (by omega)]; exact h2.2.2)]; congr 3; omega
      · cases h3 : one s i with
        | none => rw [pieceGo_bad (by omega) h1 h2 h3] at hq; cases hq
        | some p =>
          rw [pieceGo_step (t := p.1) (k := p.2) (by omega) h1 h2 h3] at hq
          have hp := one_bd (by omega) h3
          obtain ⟨m1, m2⟩ := pieceGo_last s _ p.2 _ t k m (Nat.le_refl _) hq
          have h4 := one_win h (m := k - 1 - i) h3 (by omega) (by omega) (by omega) (by rw [show i + (k - 1 - i) = k - 1 by omega]; exact l2)
          rw [pieceGo_step (t := p.1) (k := p.2 + j - i) (by omega) (by rw [hz]; exact h1) (by
            rintro ⟨x1, x2, x3⟩
            rw [hz] at x1
            rw [h.e 1 (by omega)] at x3
            exact h2 ⟨x1, by omega, x3⟩) h4]
          have := ih p.2 (p.2 + j - i) (n - (p.2 - i)) (acc ++ p.1) t k m (by omega) (by
            have := h.tl (p.2 - i) (r := n - (p.2 - i)) (by omega)
            rw [show i + (p.2 - i) = p.2 by omega, show j + (p.2 - i) = p.2 + j - i by omega] at this
            exact this) hq (by omega)
          rw [this]; congr 3; omega
theorem Win.cutE (h : Win s i u j n) {m : Nat} (hm : m ≤ n) : cut u j m = cut s i m := by
  unfold cut
  rw [(h.hd hm).ext]
theorem signs_unblank : ∀ (m : Nat) (l : List UInt8), isSign m l = true → ∀ x ∈ l, blankB x.toNat = false := by
  have key : ∀ (L : List (List UInt8)), (L.all fun l => l.all fun x => !blankB x.toNat) = true → ∀ l, decide (l ∈ L) = true → ∀ x ∈ l, blankB x.toNat = false := by
    intro L h l hl x hx
    have := List.all_eq_true.1 (List.all_eq_true.1 h l (of_decide_eq_true hl)) x hx
    simpa using this
  intro m l h
  unfold isSign at h
  split at h
  · exact key _ (by decide) l h
  · split at h
    · exact key _ (by decide) l h
    · split at h
      · exact key _ (by decide) l h
      · cases h
/-- No sign goes over a stop. -/
theorem sign_stop {e m : Nat} (hs : Stop u e) (h1 : j ≤ e) (h2 : e < j + m) (h3 : j + m ≤ u.size) : isSign m (cut u j m) = false := by
  cases h : isSign m (cut u j m) with
  | false => rfl
  | true =>
    rcases hs with hs | ⟨hs, hb⟩
    · omega
    · have hsz : (u.extract j (j + m)).size = m := extract_len h3
      have hlt : e - j < (u.extract j (j + m)).size := by omega
      have h4 := signs_unblank m _ h ((u.extract j (j + m))[e - j]'hlt) (by unfold cut; exact Array.mem_toList_iff.2 (Array.getElem_mem hlt))
      rw [get_bt _ _ hlt, bt_extract (by omega) h3, show j + (e - j) = e by omega, hb] at h4
      cases h4
theorem signAt_win (h : Win s i u j n) (hs : Stop u (j + n)) (hk : signAt s i ≤ n) (h0 : signAt s i ≠ 0) : signAt u j = signAt s i := by
  have ha := h.a
  have hb := h.b
  have key : ∀ m, 0 < m → (j + m ≤ u.size ∧ isSign m (cut u j m) = true) → (i + m ≤ s.size ∧ isSign m (cut s i m) = true) := by
    rintro m hm ⟨x1, x2⟩
    by_cases c : m ≤ n
    · exact ⟨by omega, by rw [← h.cutE c]; exact x2⟩
    · rw [sign_stop hs (by omega) (by omega) x1] at x2; cases x2
  have back : ∀ m, m ≤ n → (i + m ≤ s.size ∧ isSign m (cut s i m) = true) → (j + m ≤ u.size ∧ isSign m (cut u j m) = true) := fun m hm x => ⟨by omega, by rw [h.cutE hm]; exact x.2⟩
  unfold signAt at hk h0 ⊢
  by_cases c3 : i + 3 ≤ s.size ∧ isSign 3 (cut s i 3) = true
  · rw [if_pos c3] at hk ⊢; rw [if_pos (back 3 hk c3)]
  · rw [if_neg c3] at hk h0 ⊢; rw [if_neg (fun x => c3 (key 3 (by decide) x))]
    by_cases c2 : i + 2 ≤ s.size ∧ isSign 2 (cut s i 2) = true
    · rw [if_pos c2] at hk ⊢; rw [if_pos (back 2 hk c2)]
    · rw [if_neg c2] at hk h0 ⊢; rw [if_neg (fun x => c2 (key 2 (by decide) x))]
      by_cases c1 : i + 1 ≤ s.size ∧ isSign 1 (cut s i 1) = true
      · rw [if_pos c1] at hk ⊢; rw [if_pos (back 1 hk c1)]
      · rw [if_neg c1] at h0; exact absurd rfl h0
/-- A token is read the same in another text, where its bytes stand and the text ends, or a blank follows, behind the window. -/
theorem tokAt_win (h : Win s i u j n) (hi : i < s.size) (hs : Stop u (j + n)) {holes hh : List Bool} {t : Tok} (ht : tokAt s i holes = some (t, hh)) (hk : t.hi ≤ i + n) : tokAt u j holes = some (⟨t.kind, t.text, j, t.hi + j - i⟩, hh) := by
  have hbd := tokAt_bd hi ht
  have hz := h.z (by omega)
  have hb := h.b
  have ha := h.a
  unfold tokAt at ht ⊢
  rw [hz]
  by_cases c1 : letterB (bt s i) = true
  · rw [if_pos c1] at ht ⊢
    injection ht with ht; injection ht with e1 e2; subst e1; subst e2
    have hw := wordEnd_win s u n i j h hs hk
    have hwb : i ≤ wordEnd s i := Nat.le_of_lt hbd.2.1
    have he := (h.hd (m := wordEnd s i - i) (by simp only at hk; omega)).ext
    rw [show i + (wordEnd s i - i) = wordEnd s i by omega, show j + (wordEnd s i - i) = wordEnd u j by omega] at he
    rw [← he]
    show some (_, holes) = some (_, holes)
    congr 3
    show wordEnd u j = wordEnd s i + j - i
    omega
  · rw [if_neg c1] at ht ⊢
    by_cases c2 : digitB (bt s i) = true
    · rw [if_pos c2] at ht ⊢
      by_cases c3 : numOk s i = true
      · rw [if_pos c3] at ht
        injection ht with ht; injection ht with e1 e2; subst e1; subst e2
        have hw := (digEnd_win s u n i j 0 h hs hk).1
        have hwb : i ≤ digEnd s i := Nat.le_of_lt hbd.2.1
        rw [if_pos (numOk_win h hs (by simp only at hk hbd; omega) hk c3)]
        have he := (h.hd (m := digEnd s i - i) (by simp only at hk; omega)).ext
        rw [show i + (digEnd s i - i) = digEnd s i by omega, show j + (digEnd s i - i) = digEnd u j by omega] at he
        rw [← he]
        show some (_, holes) = some (_, holes)
        congr 3
        show digEnd u j = digEnd s i + j - i
        omega
      · rw [if_neg c3] at ht; cases ht
    · rw [if_neg c2] at ht ⊢
      by_cases c3 : bt s i = 34 ∨ bt s i = 39
      · rw [if_pos c3] at ht ⊢
        rw [Option.map_eq_some_iff] at ht
        obtain ⟨p, hp, ht⟩ := ht
        injection ht with e1 e2; subst e1; subst e2
        unfold quotedOf at hp ⊢
        rw [hz, quotedGo_win s u (bt s i) (by omega) (n - 1) (i + 1) (j + 1) (n - 1) _ p.1 p.2 (Nat.le_refl _) (h.tl 1 (by simp only at hk hbd; omega)) hp (by simp only at hk hbd; omega)]
        show some (_, holes) = some (_, holes)
        congr 3
        show p.2 + (j + 1) - (i + 1) = p.2 + j - i
        omega
      · rw [if_neg c3] at ht ⊢
        by_cases c4 : bt s i = 96
        · rw [if_pos c4] at ht ⊢
          rw [Option.map_eq_some_iff] at ht
          obtain ⟨p, hp, ht⟩ := ht
          injection ht with e1 e2; subst e1; subst e2
          unfold pieceOf at hp ⊢
          rw [pieceGo_win s u (n - 1) (i + 1) (j + 1) (n - 1) _ p.1 p.2.1 p.2.2 (Nat.le_refl _) (h.tl 1 (by simp only at hk hbd; omega)) hp (by simp only at hk hbd; omega)]
          show some (_, _) = some (_, _)
          congr 3
          show p.2.1 + (j + 1) - (i + 1) = p.2.1 + j - i
          omega
        · rw [if_neg c4] at ht ⊢
          by_cases c5 : bt s i = 125 ∧ holes.getLast? = some true
          · rw [if_pos c5] at ht ⊢
            rw [Option.map_eq_some_iff] at ht
            obtain ⟨p, hp, ht⟩ := ht
            injection ht with e1 e2; subst e1; subst e2
            unfold pieceOf at hp ⊢
            rw [pieceGo_win s u (n - 1) (i + 1) (j + 1) (n - 1) _ p.1 p.2.1 p.2.2 (Nat.le_refl _) (h.tl 1 (by simp only at hk hbd; omega)) hp (by simp only at hk hbd; omega)]
            show some (_, _) = some (_, _)
            congr 3
            show p.2.1 + (j + 1) - (i + 1) = p.2.1 + j - i
            omega
          · rw [if_neg c5] at ht ⊢
            by_cases c6 : signAt s i = 0
            · rw [if_pos c6] at ht; cases ht
            · rw [if_neg c6] at ht
              injection ht with ht; injection ht with e1 e2; subst e1; subst e2
              have hw := signAt_win h hs (by simp only at hk; omega) c6
              rw [hw, if_neg c6]
              have he := (h.hd (m := signAt s i) (by simp only at hk; omega)).ext
              rw [← he]
              show some (_, _) = some (_, _)
              congr 3
              show j + signAt s i = i + signAt s i + j - i
              omega
end
end Go.Proofs.YtdlppdoankeilaaDoor
