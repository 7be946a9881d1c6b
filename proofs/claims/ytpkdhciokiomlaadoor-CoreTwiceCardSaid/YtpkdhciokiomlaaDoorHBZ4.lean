/- Some texts of this claim, put together. -/
import Derived.Test.YtpkdhciokiomlaaDoorHBZ3
namespace Go.Proofs.YtpkdhciokiomlaaDoor
section
set_option linter.unusedVariables false
set_option linter.unusedSimpArgs false
set_option linter.unnecessarySimpa false
open Go.RowKit
/-- The kids of node n from here on, laid out from next on: the node that offends (-1: none), the number behind them. -/
def lookK (g : Nat → Int × Nat) (n : Nat) : List Int → Nat → Int × Nat
  | [], next => (-1, next)
  | k :: ks, next => if k ≠ (next : Int) then ((n : Int), next) else if 0 ≤ (g next).1 then g next else lookK g n ks (g next).2
def look (L : List Nd) : Nat → Nat → Int × Nat
  | 0, n => (-1, n + 1)
  | f + 1, n => if fitsB L (n : Int) = false then ((n : Int), n + 1) else lookK (look L f) n (nd L n).ks (n + 1)
theorem fits_in {L : List Nd} {i : Int} (h : fitsB L i = true) : ∀ k ∈ (nd L i).ks, inL L k = true := by
  unfold fitsB kidsP at h
  rw [Bool.and_eq_true, Bool.and_eq_true] at h
  exact List.all_eq_true.1 h.2.1
theorem lookK_gt {g : Nat → Int × Nat} (hg : ∀ m, m < (g m).2) (n : Nat) : ∀ (ks : List Int) (next : Nat), next ≤ (lookK g n ks next).2
  | [], next => Nat.le_refl _
  | k :: ks, next => by
    unfold lookK
    split
    · exact Nat.le_refl _
    · split
      · exact Nat.le_of_lt (hg next)
      · exact Nat.le_trans (Nat.le_of_lt (hg next)) (lookK_gt hg n ks _)
theorem look_gt (L : List Nd) : ∀ f n, n < (look L f n).2
  | 0, n => Nat.lt_succ_self n
  | f + 1, n => by
    unfold look
    split
    · exact Nat.lt_succ_self n
    · exact lookK_gt (look_gt L f) n _ (n + 1)
theorem lookK_congr {g g' : Nat → Int × Nat} {N : Nat} (n : Nat) (hg : ∀ m, m < (g m).2) (h : ∀ m, n < m → m < N → g m = g' m) :
    ∀ (ks : List Int) (next : Nat), n < next → (∀ k ∈ ks, k < (N : Int)) → lookK g n ks next = lookK g' n ks next
  | [], _, _, _ => rfl
  | k :: ks, next, hn, hk => by
    unfold lookK
    by_cases hkn : k ≠ (next : Int)
    · rw [if_pos hkn, if_pos hkn]
    · have hlt : next < N := by have := hk k (by simp); omega
      rw [if_neg hkn, if_neg hkn, ← h next hn hlt]
      split
      · rfl
      · exact lookK_congr n hg h ks _ (by have := hg next; omega) (fun k' hk' => hk k' (by simp [hk']))
/-- So many steps are enough. -/
theorem look_fuel (L : List Nd) : ∀ f f' n, L.length - n ≤ f → L.length - n ≤ f' → n < L.length → look L f n = look L f' n
  | 0, _, n, h, _, hn => by omega
  | _ + 1, 0, n, _, h, hn => by omega
  | f + 1, f' + 1, n, h, h', hn => by
    unfold look
    by_cases hf : fitsB L (n : Int) = false
    · rw [if_pos hf, if_pos hf]
    · rw [if_neg hf, if_neg hf]
      have hf2 : fitsB L (n : Int) = true := by simpa using hf
      exact lookK_congr (N := L.length) n (look_gt L f) (fun m h1 h2 => look_fuel L f f' m (by omega) (by omega) h2) _ _ (Nat.lt_succ_self n) (fun k hk => (inL_iff.1 (fits_in hf2 k hk)).2)
/-- What Check answers: the node that offends, and why. -/
def chk (L : List Nd) : Int × Int :=
  if L.length = 0 then (0, 7) else if 0 ≤ (look L L.length 0).1 then ((look L L.length 0).1, 7) else if (look L L.length 0).2 < L.length then (((look L L.length 0).2 : Int), 7) else (-1, 0)
end
section
set_option linter.unusedVariables false
set_option linter.unusedSimpArgs false
set_option linter.unnecessarySimpa false
open Go.RowKit
/-- What a stack still asks: the node that offends (-1: none), the number behind all. -/
def finS (L : List Nd) : List (Nat × Nat) → Nat → Int × Nat
  | [], next => (-1, next)
  | (n, q) :: st, next => if 0 ≤ (lookK (look L L.length) n ((nd L n).ks.drop q) next).1 then lookK (look L L.length) n ((nd L n).ks.drop q) next else finS L st (lookK (look L L.length) n ((nd L n).ks.drop q) next).2
theorem finS_pop (L : List Nd) (n q : Nat) (st : List (Nat × Nat)) (next : Nat) (h : (nd L n).ks.length ≤ q) : finS L ((n, q) :: st) next = finS L st next := by
  show (if 0 ≤ (lookK (look L L.length) n ((nd L n).ks.drop q) next).1 then _ else _) = _
  rw [List.drop_of_length_le h]
  rfl
theorem drop_q {ks : List Int} {q : Nat} (h : q < ks.length) : ks.drop q = ks.getD q 0 :: ks.drop (q + 1) := by
  rw [List.drop_eq_getElem_cons h]
  congr 1
  simp [List.getD, h]
theorem finS_stray (L : List Nd) (n q : Nat) (st : List (Nat × Nat)) (next : Nat) (h : q < (nd L n).ks.length) (hk : (nd L n).ks.getD q 0 ≠ (next : Int)) : finS L ((n, q) :: st) next = ((n : Int), next) := by
  have e : lookK (look L L.length) n ((nd L n).ks.drop q) next = ((n : Int), next) := by
    rw [drop_q h]
    unfold lookK
    rw [if_pos hk]
  unfold finS
  rw [e, if_pos (by simp)]
theorem look_unfold (L : List Nd) (n : Nat) (hn : n < L.length) : look L L.length n = if fitsB L (n : Int) = false then ((n : Int), n + 1) else lookK (look L L.length) n (nd L n).ks (n + 1) := by
  obtain ⟨f, hf⟩ : ∃ f, L.length = f + 1 := ⟨L.length - 1, by omega⟩
  have h : look L (f + 1) n = if fitsB L (n : Int) = false then ((n : Int), n + 1) else lookK (look L f) n (nd L n).ks (n + 1) := rfl
  rw [← hf] at h
  rw [h]
  by_cases hb : fitsB L (n : Int) = false
  · rw [if_pos hb, if_pos hb]
  · rw [if_neg hb, if_neg hb]
    have hf2 : fitsB L (n : Int) = true := by simpa using hb
    exact lookK_congr (N := L.length) n (look_gt L f) (fun m h1 h2 => look_fuel L f L.length m (by omega) (by omega) h2) _ _ (Nat.lt_succ_self n) (fun k hk => (inL_iff.1 (fits_in hf2 k hk)).2)
theorem finS_bad (L : List Nd) (n q : Nat) (st : List (Nat × Nat)) (next : Nat) (h : q < (nd L n).ks.length) (hk : (nd L n).ks.getD q 0 = (next : Int)) (hl : next < L.length) (hf : fitsB L (next : Int) = false) : finS L ((n, q) :: st) next = ((next : Int), next + 1) := by
  have e : lookK (look L L.length) n ((nd L n).ks.drop q) next = ((next : Int), next + 1) := by
    rw [drop_q h]
    unfold lookK
    rw [if_neg (by simp only [ne_eq, Decidable.not_not]; exact hk), look_unfold L next hl, if_pos hf, if_pos (by simp)]
  unfold finS
  rw [e, if_pos (by simp)]
theorem finS_push (L : List Nd) (n q : Nat) (st : List (Nat × Nat)) (next : Nat) (h : q < (nd L n).ks.length) (hk : (nd L n).ks.getD q 0 = (next : Int)) (hl : next < L.length) (hf : fitsB L (next : Int) = true) :
    finS L ((n, q) :: st) next = finS L ((next, 0) :: (n, q + 1) :: st) (next + 1) := by
  have e2 : look L L.length next = lookK (look L L.length) next ((nd L next).ks.drop 0) (next + 1) := by
    rw [look_unfold L next hl, if_neg (by simp [hf]), List.drop_zero]
  have e : lookK (look L L.length) n ((nd L n).ks.drop q) next = if 0 ≤ (look L L.length next).1 then look L L.length next else lookK (look L L.length) n ((nd L n).ks.drop (q + 1)) (look L L.length next).2 := by
    rw [drop_q h]
    show (if (nd L n).ks.getD q 0 ≠ (next : Int) then _ else _) = _
    rw [if_neg (by simp only [ne_eq, Decidable.not_not]; exact hk)]
  show (if 0 ≤ (lookK (look L L.length) n ((nd L n).ks.drop q) next).1 then _ else _) = _
  rw [e]
  show _ = (if 0 ≤ (lookK (look L L.length) next ((nd L next).ks.drop 0) (next + 1)).1 then _ else _)
  rw [← e2]
  by_cases hb : 0 ≤ (look L L.length next).1
  · rw [if_pos hb, if_pos hb, if_pos hb]
  · rw [if_neg hb, if_neg hb]
    rfl
theorem chk_empty (L : List Nd) (h : L.length = 0) : chk L = (0, 7) := by unfold chk; rw [if_pos h]
theorem chk_root (L : List Nd) (h : L.length ≠ 0) (hf : fitsB L ((0 : Nat) : Int) = false) : chk L = (0, 7) := by
  unfold chk
  rw [if_neg h, look_unfold L 0 (by omega), if_pos hf, if_pos (by simp)]
  rfl
theorem finS_one (L : List Nd) (h : L.length ≠ 0) (hf : fitsB L ((0 : Nat) : Int) = true) : finS L [(0, 0)] 1 = look L L.length 0 ∨ (¬ 0 ≤ (look L L.length 0).1 ∧ finS L [(0, 0)] 1 = (-1, (look L L.length 0).2)) := by
  have e2 : look L L.length 0 = lookK (look L L.length) 0 ((nd L ((0 : Nat) : Int)).ks.drop 0) (0 + 1) := by
    rw [look_unfold L 0 (by omega), if_neg (by rw [hf]; decide), List.drop_zero]
  have e3 : finS L [(0, 0)] 1 = if 0 ≤ (look L L.length 0).1 then look L L.length 0 else (-1, (look L L.length 0).2) := by
    rw [e2]; rfl
  by_cases hb : 0 ≤ (look L L.length 0).1
  · left; rw [e3, if_pos hb]
  · right; exact ⟨hb, by rw [e3, if_neg hb]⟩
theorem chk_bad (L : List Nd) (h : L.length ≠ 0) (hf : fitsB L ((0 : Nat) : Int) = true) {b : Int} {e : Nat} (hs : finS L [(0, 0)] 1 = (b, e)) (hb : 0 ≤ b) : chk L = (b, 7) := by
  unfold chk
  rw [if_neg h]
  rcases finS_one L h hf with h1 | ⟨_, h1⟩
  · rw [h1] at hs; rw [hs, if_pos hb]
  · rw [h1] at hs; injection hs with h2 h3; omega
theorem chk_end (L : List Nd) (h : L.length ≠ 0) (hf : fitsB L ((0 : Nat) : Int) = true) {e : Nat} (hs : finS L [(0, 0)] 1 = (-1, e)) : chk L = if e < L.length then ((e : Int), 7) else (-1, 0) := by
  unfold chk
  rw [if_neg h]
  rcases finS_one L h hf with h1 | ⟨h0, h1⟩
  · rw [h1] at hs; rw [hs, if_neg (by simp)]
  · rw [h1] at hs; injection hs with h2 h3; rw [if_neg h0, h3]
end
section
set_option linter.unusedVariables false
set_option linter.unusedSimpArgs false
set_option linter.unnecessarySimpa false
open Go.RowKit
/-- These kids and all beneath them are laid out from here to there, and none offends. -/
inductive Ch (L : List Nd) : List Int → Nat → Nat → Prop
  | nil (a : Nat) : Ch L [] a a
  | cons {ks : List Int} {a m e : Nat} : a < L.length → fitsB L (a : Int) = true → Ch L (nd L a).ks (a + 1) m → Ch L ks m e → Ch L ((a : Int) :: ks) a e
/-- A node and all beneath it. -/
def Sp (L : List Nd) (n e : Nat) : Prop := n < L.length ∧ fitsB L (n : Int) = true ∧ Ch L (nd L n).ks (n + 1) e
section
variable {L : List Nd}
theorem Ch.le {ks : List Int} {a e : Nat} (h : Ch L ks a e) : a ≤ e := by
  induction h with
  | nil a => exact Nat.le_refl _
  | cons _ _ _ _ h1 h2 => omega
theorem Ch.len {ks : List Int} {a e : Nat} (h : Ch L ks a e) : a ≤ L.length → e ≤ L.length := by
  induction h with
  | nil a => exact id
  | cons h0 _ _ _ h1 h2 => intro _; exact h2 (h1 (by omega))
theorem Ch.det {ks : List Int} {a e e' : Nat} (h : Ch L ks a e) (h' : Ch L ks a e') : e = e' := by
  induction h generalizing e' with
  | nil a => cases h'; rfl
  | cons h0 hf h1 h2 ih1 ih2 =>
    generalize hk : (_ :: _ : List Int) = l at h'
    cases h' with
    | nil => cases hk
    | cons g0 gf g1 g2 =>
      injection hk with hk1 hk2
      subst hk2
      have := ih1 g1
      subst this
      exact ih2 g2
theorem Sp.lt {n e : Nat} (h : Sp L n e) : n < e := by have := h.2.2.le; omega
theorem Sp.len {n e : Nat} (h : Sp L n e) : e ≤ L.length := h.2.2.len (by have := h.1; omega)
theorem Sp.det {n e e' : Nat} (h : Sp L n e) (h' : Sp L n e') : e = e' := h.2.2.det h'.2.2
/-- What lies within. -/
theorem Ch.sub {ks : List Int} {a e : Nat} (h : Ch L ks a e) : ∀ x, a ≤ x → x < e → ∃ ex, Sp L x ex ∧ ex ≤ e := by
  induction h with
  | nil a => intro x h1 h2; omega
  | @cons ks a m e h0 hf h1 h2 ih1 ih2 =>
    intro x hx hx2
    have l1 := h1.le
    have l2 := h2.le
    rcases Nat.lt_or_ge x m with hm | hm
    · rcases Nat.eq_or_lt_of_le hx with rfl | hx3
      · exact ⟨m, ⟨h0, hf, h1⟩, l2⟩
      · obtain ⟨ex, h3, h4⟩ := ih1 x hx3 hm
        exact ⟨ex, h3, by omega⟩
    · exact ih2 x hm hx2
theorem Ch.kid {ks : List Int} {a e : Nat} (h : Ch L ks a e) : ∀ k ∈ ks, ∃ j : Nat, k = (j : Int) ∧ a ≤ j ∧ j < e := by
  induction h with
  | nil a => intro k hk; cases hk
  | @cons ks a m e h0 hf h1 h2 ih1 ih2 =>
    intro k hk
    have l1 := h1.le
    have l2 := h2.le
    rcases List.mem_cons.1 hk with rfl | hk
    · exact ⟨a, rfl, Nat.le_refl _, by omega⟩
    · obtain ⟨j, h3, h4, h5⟩ := ih2 k hk
      exact ⟨j, h3, by omega, h5⟩
theorem Ch.under {ks : List Int} {a e x : Nat} (h : Ch L ks a e) (h1 : a ≤ x) (h2 : x < e) : ∀ k ∈ (nd L x).ks, ∃ j : Nat, k = (j : Int) ∧ x < j ∧ j < e := fun k hk => by
  obtain ⟨ex, hs, hl⟩ := h.sub x h1 h2
  obtain ⟨j, e1, e2, e3⟩ := hs.2.2.kid k hk
  exact ⟨j, e1, by omega, by omega⟩
/-- A node is the kid of one node at most. -/
theorem Ch.one {ks : List Int} {a e : Nat} (h : Ch L ks a e) : (∀ x, a ≤ x → x < e → ∀ k ∈ (nd L x).ks, k ∉ ks) ∧ (∀ x y, a ≤ x → x < e → a ≤ y → y < e → ∀ k, k ∈ (nd L x).ks → k ∈ (nd L y).ks → x = y) := by
  induction h with
  | nil a => exact ⟨fun x h1 h2 => by omega, fun x y h1 h2 => by omega⟩
  | @cons ks a m e h0 hf h1 h2 ih1 ih2 =>
    have l1 := h1.le
    have l2 := h2.le
    have hA : ∀ k ∈ (nd L a).ks, ∃ j : Nat, k = (j : Int) ∧ a + 1 ≤ j ∧ j < m := h1.kid
    have hlow : ∀ x, a ≤ x → x < m → ∀ k ∈ (nd L x).ks, ∃ j : Nat, k = (j : Int) ∧ a + 1 ≤ j ∧ j < m := fun x hx hm k hk => by
      rcases Nat.eq_or_lt_of_le hx with rfl | hx3
      · exact hA k hk
      · obtain ⟨j, e1, e2, e3⟩ := h1.under hx3 hm k hk
        exact ⟨j, e1, by omega, e3⟩
    have hhi : ∀ x, m ≤ x → x < e → ∀ k ∈ (nd L x).ks, ∃ j : Nat, k = (j : Int) ∧ m < j := fun x hx hm k hk => by
      obtain ⟨j, e1, e2, e3⟩ := h2.under hx hm k hk
      exact ⟨j, e1, by omega⟩
    refine ⟨fun x hx hx2 k hk hm => ?_, fun x y hx hx2 hy hy2 k hkx hky => ?_⟩
    · rcases Nat.lt_or_ge x m with hxm | hxm
      · obtain ⟨j, rfl, j1, j2⟩ := hlow x hx hxm k hk
        rcases List.mem_cons.1 hm with hm | hm
        · omega
        · obtain ⟨j', e1, e2, _⟩ := h2.kid _ hm
          omega
      · obtain ⟨j, rfl, j1⟩ := hhi x hxm hx2 k hk
        rcases List.mem_cons.1 hm with hm | hm
        · omega
        · exact ih2.1 x hxm hx2 _ hk hm
    · rcases Nat.lt_or_ge x m with hxm | hxm
      · rcases Nat.lt_or_ge y m with hym | hym
        · rcases Nat.eq_or_lt_of_le hx with rfl | hx3
          · rcases Nat.eq_or_lt_of_le hy with rfl | hy3
            · rfl
            · exact absurd hkx (ih1.1 y hy3 hym k hky)
          · rcases Nat.eq_or_lt_of_le hy with rfl | hy3
            · exact absurd hky (ih1.1 x hx3 hxm k hkx)
            · exact ih1.2 x y hx3 hxm hy3 hym k hkx hky
        · obtain ⟨j, rfl, j1, j2⟩ := hlow x hx hxm k hkx
          obtain ⟨j', e1, e2⟩ := hhi y hym hy2 _ hky
          omega
      · rcases Nat.lt_or_ge y m with hym | hym
        · obtain ⟨j, rfl, j1, j2⟩ := hlow y hy hym k hky
          obtain ⟨j', e1, e2⟩ := hhi x hxm hx2 _ hkx
          omega
        · exact ih2.2 x y hxm hx2 hym hy2 k hkx hky
theorem look_ch {g : Nat → Int × Nat} {n : Nat} (hg : ∀ m, n < m → m < L.length → ¬ 0 ≤ (g m).1 → Sp L m (g m).2 ∧ (g m).1 = -1) : ∀ (ks : List Int) (next : Nat), (∀ k ∈ ks, k < (L.length : Int)) → n < next → ¬ 0 ≤ (lookK g n ks next).1 → Ch L ks next (lookK g n ks next).2 ∧ (lookK g n ks next).1 = -1
  | [], next, _, _, _ => ⟨Ch.nil next, rfl⟩
  | k :: ks, next, hk, hn, h => by
    unfold lookK at h ⊢
    by_cases hkn : k ≠ (next : Int)
    · rw [if_pos hkn] at h; exact absurd (by simp) h
    · rw [if_neg hkn] at h ⊢
      have hkn2 : k = (next : Int) := by simpa using hkn
      have hl : next < L.length := by have := hk k (by simp); omega
      by_cases hb : 0 ≤ (g next).1
      · rw [if_pos hb] at h; exact absurd hb h
      · rw [if_neg hb] at h ⊢
        obtain ⟨hs, _⟩ := hg next hn hl hb
        have hlt := hs.lt
        obtain ⟨h1, h2⟩ := look_ch hg ks _ (fun k' hk' => hk k' (by simp [hk'])) (by omega) h
        subst hkn2
        exact ⟨Ch.cons hs.1 hs.2.1 hs.2.2 h1, h2⟩
theorem look_sp : ∀ f n, L.length - n ≤ f → n < L.length → ¬ 0 ≤ (look L f n).1 → Sp L n (look L f n).2 ∧ (look L f n).1 = -1
  | 0, n, hf, hn, _ => by omega
  | f + 1, n, hf, hn, h => by
    unfold look at h ⊢
    by_cases hb : fitsB L (n : Int) = false
    · rw [if_pos hb] at h; exact absurd (by simp) h
    · rw [if_neg hb] at h ⊢
      have hb2 : fitsB L (n : Int) = true := by simpa using hb
      obtain ⟨h1, h2⟩ := look_ch (g := look L f) (n := n) (fun m h1 h2 h3 => look_sp f m (by omega) h2 h3) _ _ (fun k hk => (inL_iff.1 (fits_in hb2 k hk)).2) (Nat.lt_succ_self n) h
      exact ⟨⟨hn, hb2, h1⟩, h2⟩
theorem Ch.looks {ks : List Int} {a e : Nat} (h : Ch L ks a e) : ∀ f n, L.length - a ≤ f → lookK (look L f) n ks a = (-1, e) := by
  induction h with
  | nil a => intro f n _; rfl
  | @cons ks a m e h0 hf h1 h2 ih1 ih2 =>
    intro f n hl
    have l1 := h1.le
    obtain ⟨f', rfl⟩ : ∃ f', f = f' + 1 := ⟨f - 1, by omega⟩
    have e1 : look L (f' + 1) a = (-1, m) := by
      unfold look
      rw [if_neg (by simp [hf])]
      exact ih1 f' a (by omega)
    unfold lookK
    rw [if_neg (by simp), e1, if_neg (by simp)]
    exact ih2 (f' + 1) n (by omega)
/-- Check takes a tree just if it is one span. -/
theorem good_iff : (chk L).2 = 0 ↔ Sp L 0 L.length := by
  constructor
  · intro h
    unfold chk at h
    by_cases h0 : L.length = 0
    · rw [if_pos h0] at h; cases h
    · rw [if_neg h0] at h
      by_cases h1 : 0 ≤ (look L L.length 0).1
      · rw [if_pos h1] at h; cases h
      · rw [if_neg h1] at h
        by_cases h2 : (look L L.length 0).2 < L.length
        · rw [if_pos h2] at h; cases h
        · obtain ⟨hs, _⟩ := look_sp L.length 0 (by omega) (by omega) h1
          have := hs.len
          rwa [show (look L L.length 0).2 = L.length by omega] at hs
  · intro hs
    have h0 := hs.1
    have e : look L L.length 0 = (-1, L.length) := by
      rw [look_unfold L 0 h0, if_neg (by rw [hs.2.1]; simp)]
      exact hs.2.2.looks _ 0 (by omega)
    unfold chk
    rw [if_neg (by omega), e, if_neg (by simp), if_neg (by simp)]
theorem chk_good (h : Sp L 0 L.length) : chk L = (-1, 0) := by
  have h0 := h.1
  have e : look L L.length 0 = (-1, L.length) := by
    rw [look_unfold L 0 h0, if_neg (by rw [h.2.1]; simp)]
    exact h.2.2.looks _ 0 (by omega)
  unfold chk
  rw [if_neg (by omega), e, if_neg (by simp), if_neg (by simp)]
theorem chk_or : chk L = (-1, 0) ∨ ((chk L).2 = 7 ∧ 0 ≤ (chk L).1) := by
  unfold chk
  split
  · exact .inr ⟨rfl, by simp⟩
  · split
    · rename_i h; exact .inr ⟨rfl, h⟩
    · split
      · exact .inr ⟨rfl, by simp⟩
      · exact .inl rfl
theorem good_sub (h : Sp L 0 L.length) {n : Nat} (hn : n < L.length) : ∃ e, Sp L n e := by
  rcases Nat.eq_zero_or_pos n with rfl | h1
  · exact ⟨_, h⟩
  · obtain ⟨ex, hs, _⟩ := h.2.2.sub n h1 hn
    exact ⟨ex, hs⟩
theorem good_kid (h : Sp L 0 L.length) {n : Nat} (hn : n < L.length) : ∀ k ∈ (nd L n).ks, ∃ j : Nat, k = (j : Int) ∧ n < j ∧ j < L.length := fun k hk => by
  obtain ⟨e, hs⟩ := good_sub h hn
  obtain ⟨j, e1, e2, e3⟩ := hs.2.2.kid k hk
  have := hs.len
  exact ⟨j, e1, by omega, by omega⟩
theorem good_one (h : Sp L 0 L.length) {x y : Nat} (hx : x < L.length) (hy : y < L.length) {k : Int} (h1 : k ∈ (nd L x).ks) (h2 : k ∈ (nd L y).ks) : x = y := by
  rcases Nat.eq_zero_or_pos x with rfl | hx0
  · rcases Nat.eq_zero_or_pos y with rfl | hy0
    · rfl
    · exact absurd h1 (h.2.2.one.1 y hy0 hy k h2)
  · rcases Nat.eq_zero_or_pos y with rfl | hy0
    · exact absurd h2 (h.2.2.one.1 x hx0 hx k h1)
    · exact h.2.2.one.2 x y hx0 hx hy0 hy k h1 h2
end
end
end Go.Proofs.YtpkdhciokiomlaaDoor
