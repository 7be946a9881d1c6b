/- Some texts of this claim, put together. -/
import Derived.Test.YtpkdhciokiomlaaDoorHBZ4
namespace Go.Proofs.YtpkdhciokiomlaaDoor
section
set_option linter.unusedVariables false
set_option linter.unusedSimpArgs false
set_option linter.unnecessarySimpa false
open Go.RowKit
def setK (d : List Int) (ks : List Int) (v : Int) : List Int := ks.foldl (fun d k => d.set k.toNat v) d
/-- How deep the nodes stand, once the kids of the first i nodes are told. -/
def deepG (L : List Nd) : Nat → List Int
  | 0 => List.replicate L.length 0
  | i + 1 => setK (deepG L i) (nd L i).ks ((deepG L i).getD i 0 + 1)
def deepL (L : List Nd) : List Int := deepG L L.length
def dp (L : List Nd) (k : Nat) : Int := (deepL L).getD k 0
theorem setK_len (d : List Int) (ks : List Int) (v : Int) : (setK d ks v).length = d.length := by
  unfold setK
  induction ks generalizing d with
  | nil => rfl
  | cons k ks ih => rw [List.foldl_cons, ih, List.length_set]
theorem setK_snoc (d : List Int) (ks : List Int) (k v : Int) : setK d (ks ++ [k]) v = (setK d ks v).set k.toNat v := by
  unfold setK; rw [List.foldl_append]; rfl
theorem setK_out (d : List Int) (ks : List Int) (v : Int) (j : Nat) (h : ∀ k ∈ ks, k.toNat ≠ j) : (setK d ks v).getD j 0 = d.getD j 0 := by
  unfold setK
  induction ks generalizing d with
  | nil => rfl
  | cons k ks ih =>
    rw [List.foldl_cons, ih _ (fun k' hk => h k' (by simp [hk]))]
    have := h k (by simp)
    simp only [List.getD_eq_getElem?_getD, List.getElem?_set]
    rw [if_neg this]
theorem setK_in (d : List Int) (ks : List Int) (v : Int) (j : Nat) (hj : j < d.length) (h : (j : Int) ∈ ks) : (setK d ks v).getD j 0 = v := by
  unfold setK
  induction ks generalizing d with
  | nil => cases h
  | cons k ks ih =>
    rw [List.foldl_cons]
    by_cases hm : (j : Int) ∈ ks
    · exact ih _ (by rw [List.length_set]; exact hj) hm
    · have hk : k = (j : Int) := by
        rcases List.mem_cons.1 h with h | h
        · exact h.symm
        · exact absurd h hm
      have := setK_out (d.set k.toNat v) ks v j
      unfold setK at this
      by_cases hall : ∀ k' ∈ ks, k'.toNat ≠ j
      · rw [this hall]
        subst hk
        simp only [List.getD_eq_getElem?_getD, List.getElem?_set, Int.toNat_natCast]
        rw [if_pos trivial, if_pos hj]; rfl
      · -- a number below nothing stands for the place 0
        have hd : ∀ (l : List Int) (d : List Int), d.getD j 0 = v → j < d.length → (l.foldl (fun d k => d.set k.toNat v) d).getD j 0 = v := by
          intro l
          induction l with
          | nil => intro d hd _; exact hd
          | cons a l ihl =>
            intro d hd hl
            rw [List.foldl_cons]
            refine ihl _ ?_ (by rw [List.length_set]; exact hl)
            simp only [List.getD_eq_getElem?_getD, List.getElem?_set]
            by_cases ha : a.toNat = j
            · rw [if_pos ha, ha, if_pos hl]; rfl
            · rw [if_neg ha]; simpa [List.getD_eq_getElem?_getD] using hd
        refine hd ks _ ?_ (by rw [List.length_set]; exact hj)
        subst hk
        simp only [List.getD_eq_getElem?_getD, List.getElem?_set, Int.toNat_natCast]
        rw [if_pos trivial, if_pos hj]; rfl
theorem deepG_len (L : List Nd) : ∀ i, (deepG L i).length = L.length
  | 0 => by simp [deepG]
  | i + 1 => by unfold deepG; rw [setK_len, deepG_len L i]
theorem deepL_len (L : List Nd) : (deepL L).length = L.length := deepG_len L _
section
variable {L : List Nd}
/-- What node i has been told stands, behind i. -/
theorem deepG_low (h : Sp L 0 L.length) : ∀ d i j, j ≤ i → i + d ≤ L.length → (deepG L (i + d)).getD j 0 = (deepG L i).getD j 0
  | 0, i, j, _, _ => rfl
  | d + 1, i, j, hj, hl => by
    have e : deepG L (i + (d + 1)) = setK (deepG L (i + d)) (nd L (i + d : Nat)).ks ((deepG L (i + d)).getD (i + d) 0 + 1) := rfl
    rw [e, setK_out _ _ _ _ (fun k hk => by
      obtain ⟨j', e1, e2, e3⟩ := good_kid h (n := i + d) (by omega) k hk
      omega)]
    exact deepG_low h d i j hj (by omega)
theorem deepG_kid (h : Sp L 0 L.length) {n : Nat} (hn : n < L.length) {j : Nat} (hk : (j : Int) ∈ (nd L n).ks) : ∀ d, n + 1 + d ≤ L.length → (deepG L (n + 1 + d)).getD j 0 = (deepG L n).getD n 0 + 1
  | 0, _ => by
    obtain ⟨j', e1, e2, e3⟩ := good_kid h hn _ hk
    have : j' = j := by omega
    subst this
    exact setK_in _ _ _ _ (by rw [deepG_len]; exact e3) hk
  | d + 1, hl => by
    have e : deepG L (n + 1 + (d + 1)) = setK (deepG L (n + 1 + d)) (nd L (n + 1 + d : Nat)).ks ((deepG L (n + 1 + d)).getD (n + 1 + d) 0 + 1) := rfl
    rw [e, setK_out _ _ _ _ (fun k hk2 => by
      obtain ⟨j', e1, e2, e3⟩ := good_kid h (n := n + 1 + d) (by omega) k hk2
      intro e4
      have : k = (j : Int) := by omega
      subst this
      have := good_one h hn (y := n + 1 + d) (by omega) hk hk2
      omega)]
    exact deepG_kid h hn hk d (by omega)
theorem dp_at (h : Sp L 0 L.length) {n : Nat} (hn : n ≤ L.length) : dp L n = (deepG L n).getD n 0 := by
  have := deepG_low h (L.length - n) n n (Nat.le_refl _) (by omega)
  rwa [show n + (L.length - n) = L.length by omega] at this
theorem dp_kid (h : Sp L 0 L.length) {n : Nat} (hn : n < L.length) {j : Nat} (hk : (j : Int) ∈ (nd L n).ks) : dp L j = dp L n + 1 := by
  have := deepG_kid h hn hk (L.length - n - 1) (by omega)
  rw [show n + 1 + (L.length - n - 1) = L.length by omega] at this
  rw [dp_at h (by omega : n ≤ L.length)]
  exact this
theorem dp_zero (h : Sp L 0 L.length) : dp L 0 = 0 := by
  rw [dp_at h (by omega)]
  have := h.1
  simp only [deepG, List.getD_eq_getElem?_getD, List.getElem?_replicate]
  split <;> rfl
/-- Beneath kids that stand at d, all stands at d or deeper. -/
theorem Ch.deep (h : Sp L 0 L.length) {ks : List Int} {a e : Nat} (hc : Ch L ks a e) {d : Int} : (∀ j : Nat, (j : Int) ∈ ks → dp L j = d) → ∀ x, a ≤ x → x < e → d ≤ dp L x := by
  induction hc generalizing d with
  | nil a => intro _ x h1 h2; omega
  | @cons ks a m e h0 hf h1 h2 ih1 ih2 =>
    intro hd x hx hx2
    have ha := hd a (by simp)
    rcases Nat.lt_or_ge x m with hm | hm
    · rcases Nat.eq_or_lt_of_le hx with rfl | hx3
      · omega
      · have := ih1 (d := d + 1) (fun j hj => by rw [dp_kid h h0 hj, ha]) x hx3 hm
        omega
    · exact ih2 (fun j hj => hd j (by simp [hj])) x hm hx2
theorem sp_deep (h : Sp L 0 L.length) {n e : Nat} (hs : Sp L n e) {x : Nat} (h1 : n < x) (h2 : x < e) : dp L n < dp L x := by
  have := hs.2.2.deep h (d := dp L n + 1) (fun j hj => dp_kid h hs.1 hj) x h1 h2
  omega
theorem Ch.head {ks : List Int} {a e : Nat} (hc : Ch L ks a e) (h : a < e) : (a : Int) ∈ ks := by
  cases hc with
  | nil => omega
  | cons _ _ _ _ => simp
/-- What stands behind all beneath a node is not deeper than it. -/
theorem Ch.next (h : Sp L 0 L.length) {ks : List Int} {a e : Nat} (hc : Ch L ks a e) {d : Int} : (∀ j : Nat, (j : Int) ∈ ks → dp L j = d) → ∀ x ex, a ≤ x → x < e → Sp L x ex → ex < e → dp L ex ≤ dp L x := by
  induction hc generalizing d with
  | nil a => intro _ x ex h1 h2; omega
  | @cons ks a m e h0 hf h1 h2 ih1 ih2 =>
    intro hd x ex hx hx2 hs he
    have ha := hd a (by simp)
    have hd1 : ∀ j : Nat, (j : Int) ∈ (nd L a).ks → dp L j = d + 1 := fun j hj => by rw [dp_kid h h0 hj, ha]
    rcases Nat.lt_or_ge x m with hm | hm
    · rcases Nat.eq_or_lt_of_le hx with rfl | hx3
      · have : ex = m := hs.det ⟨h0, hf, h1⟩
        subst this
        have := hd ex (by simp [h2.head he])
        omega
      · obtain ⟨ex', hs', hl'⟩ := h1.sub x hx3 hm
        have : ex = ex' := hs.det hs'
        subst this
        rcases Nat.eq_or_lt_of_le hl' with rfl | hl2
        · have h3 := hd ex (by simp [h2.head he])
          have h4 := h1.deep h hd1 x hx3 hm
          omega
        · exact ih1 hd1 x ex hx3 hm hs hl2
    · exact ih2 (fun j hj => hd j (by simp [hj])) x ex hm hx2 hs he
theorem sp_next (h : Sp L 0 L.length) {x ex : Nat} (hs : Sp L x ex) (he : ex < L.length) : dp L ex ≤ dp L x := by
  rcases Nat.eq_zero_or_pos x with rfl | h0
  · have := hs.det h; omega
  · exact h.2.2.next h (d := 1) (fun j hj => by rw [dp_kid h h.1 hj, dp_zero h]; rfl) x ex h0 hs.1 hs he
theorem dp_pos (h : Sp L 0 L.length) {x : Nat} (hx : x < L.length) : 0 ≤ dp L x := by
  rcases Nat.eq_zero_or_pos x with rfl | h0
  · rw [dp_zero h]; exact Int.le_refl _
  · have := sp_deep h h h0 hx
    rw [dp_zero h] at this
    omega
theorem dp_le (h : Sp L 0 L.length) : ∀ n x : Nat, x ≤ n → x < L.length → dp L x ≤ x := by
  intro n
  induction n with
  | zero => intro x hx hl; obtain rfl : x = 0 := by omega
            rw [dp_zero h]; exact Int.le_refl _
  | succ n ih =>
    intro x hx hl
    rcases Nat.lt_or_ge n x with hnx | hnx
    · -- x has a parent
      have : ∃ y, y < x ∧ (x : Int) ∈ (nd L y).ks := by
        have hpar : ∀ {ks : List Int} {a e : Nat}, Ch L ks a e → ∀ x, a ≤ x → x < e → (x : Int) ∈ ks ∨ ∃ y, a ≤ y ∧ y < x ∧ (x : Int) ∈ (nd L y).ks := by
          intro ks a e hc
          induction hc with
          | nil a => intro x h1 h2; omega
          | @cons ks a m e h0 hf h1 h2 ih1 ih2 =>
            intro x hx hx2
            rcases Nat.lt_or_ge x m with hm | hm
            · rcases Nat.eq_or_lt_of_le hx with rfl | hx3
              · exact .inl (by simp)
              · rcases ih1 x hx3 hm with h5 | ⟨y, y1, y2, y3⟩
                · exact .inr ⟨a, Nat.le_refl _, hx3, h5⟩
                · exact .inr ⟨y, by omega, y2, y3⟩
            · rcases ih2 x hm hx2 with h5 | ⟨y, y1, y2, y3⟩
              · exact .inl (by simp [h5])
              · have := h1.le
                exact .inr ⟨y, by omega, y2, y3⟩
        rcases hpar h.2.2 x (by omega) hl with h5 | ⟨y, y1, y2, y3⟩
        · exact ⟨0, by omega, h5⟩
        · exact ⟨y, y2, y3⟩
      obtain ⟨y, y1, y2⟩ := this
      have := ih y (by omega) (by omega)
      rw [dp_kid h (by omega : y < L.length) y2]
      omega
    · exact ih x hnx hl
end
end
section
set_option linter.unusedVariables false
set_option linter.unusedSimpArgs false
set_option linter.unnecessarySimpa false
open Go.RowKit
/-- How deep the nodes stand; nothing, if the tree is none. -/
def depsL (L : List Nd) : List Int := if (chk L).2 = 0 then deepL L else []
theorem depsL_len (L : List Nd) : (depsL L).length ≤ L.length := by
  unfold depsL
  split
  · rw [deepL_len]; exact Nat.le_refl _
  · exact Nat.zero_le _
/-- The first q places. -/
def fins (n : Nat) : Nat → List (Fin n)
  | 0 => []
  | q + 1 => if h : q < n then fins n q ++ [⟨q, h⟩] else fins n q
theorem fins_step {n q : Nat} (h : q < n) : fins n (q + 1) = fins n q ++ [⟨q, h⟩] := by
  show (if h : q < n then _ else _) = _; rw [dif_pos h]
theorem fins_len {n : Nat} : ∀ q, q ≤ n → (fins n q).length = q
  | 0, _ => rfl
  | q + 1, h => by rw [fins_step (by omega), List.length_append, fins_len q (by omega)]; rfl
end
end Go.Proofs.YtpkdhciokiomlaaDoor
