/- Plain: what the three lines are made of: no tab, no carriage return; a line's end at the end of each. No program in sight. -/
import Derived.Test.YtcphkdooemengaaDoorRep
import Derived.Test.YtcphkdooemengaaDoorQok
namespace Go.Proofs.YtcphkdooemengaaDoor
set_option linter.unusedVariables false
set_option linter.unusedSimpArgs false
set_option linter.unnecessarySimpa false
open Go.RowKit
/-- No tab, no line's end, no carriage return. -/
def Clean (l : List UInt8) : Prop := ∀ x ∈ l, x ≠ 9 ∧ x ≠ 10 ∧ x ≠ 13
theorem Clean.append {a b : List UInt8} (ha : Clean a) (hb : Clean b) : Clean (a ++ b) := fun x hx => (List.mem_append.1 hx).elim (ha x) (hb x)
theorem Clean.big {l : List UInt8} (h : ∀ x ∈ l, 32 ≤ x.toNat) : Clean l := fun x hx => by
  have := h x hx
  refine ⟨?_, ?_, ?_⟩ <;> (rintro rfl; revert this; decide)
theorem dd_big (v : Nat) : ∀ x ∈ Lib.decDigits v, 32 ≤ x.toNat := by
  induction v using Nat.strongRecOn with
  | _ v ih =>
    have hd : ∀ d, d < 10 → 32 ≤ (UInt8.ofNat (48 + d)).toNat := fun d hd => by rw [UInt8.toNat_ofNat']; omega
    intro x hx
    by_cases c : v < 10
    · rw [Lib.decDigits, dif_pos c] at hx
      rw [List.mem_singleton] at hx; subst hx; exact hd v c
    · rw [Lib.decDigits, dif_neg c] at hx
      rcases List.mem_append.1 hx with hx | hx
      · exact ih (v / 10) (by omega) x hx
      · rw [List.mem_singleton] at hx; subst hx; exact hd (v % 10) (by omega)
theorem digits_clean (n : Int) : Clean (digits n).data.toList := by
  refine Clean.big ?_
  show ∀ x ∈ (Lib.itoa n).toArray.toList, _
  unfold Lib.itoa
  split
  · intro x hx
    simp at hx
    rcases hx with rfl | hx
    · decide
    · exact dd_big _ x hx
  · intro x hx
    exact dd_big _ x (by simpa using hx)
theorem wordB_clean (e : Int) : Clean (wordB e).data.toList := by
  refine Clean.big ?_
  unfold wordB
  repeat' split
  all_goals decide
theorem enc_clean {r : Nat} (h1 : r ≤ 1114111) (hs : r < 55296 ∨ 57343 < r) (h9 : r ≠ 9) (h10 : r ≠ 10) (h13 : r ≠ 13) : Clean (Lib.encodeRune (r : Int)) := by
  unfold Lib.encodeRune
  have key : ∀ l : List Int, (∀ x ∈ l, 0 ≤ x ∧ x < 256 ∧ x ≠ 9 ∧ x ≠ 10 ∧ x ≠ 13) → Clean (l.map fun x => UInt8.ofNat x.toNat) := by
    intro l h y hy
    obtain ⟨x, hx, rfl⟩ := List.mem_map.1 hy
    obtain ⟨a, b, c, d, e⟩ := h x hx
    refine ⟨?_, ?_, ?_⟩ <;> (intro q; have q2 := congrArg UInt8.toNat q; rw [UInt8.toNat_ofNat'] at q2; simp at q2; omega)
  refine key _ ?_
  by_cases c1 : r < 128
  · rw [Lib.encodeRuneZ_one (by omega) (by omega)]; intro x hx; simp at hx; omega
  · by_cases c2 : r < 2048
    · rw [Lib.encodeRuneZ_two (by omega) (by omega)]; intro x hx; simp at hx; omega
    · by_cases c3 : r < 65536
      · rw [Lib.encodeRuneZ_three (by omega)]; intro x hx; simp at hx; omega
      · rw [Lib.encodeRuneZ_four (by omega) (by omega)]; intro x hx; simp at hx; omega
theorem srune_clean {r : Nat} (h1 : r ≤ 1114111) (hs : r < 55296 ∨ 57343 < r) (h10 : r ≠ 10) : Clean (srune r) := by
  unfold srune
  split
  · intro x hx; cases hx
  · split
    · exact Clean.big (by decide)
    · rename_i a b
      exact enc_clean h1 hs b h10 a
theorem rn_ten {t : ByteArray} {p : Nat} (hp : p < t.size) (h : bt t p ≠ 10) : rn t p ≠ 10 := by
  unfold rn
  rw [dec_eq]
  have hb := bt_lt t p
  generalize bt t p = b0 at *
  unfold Lib.decodeN
  repeat' split
  all_goals (simp only []; omega)
theorem lineEnd_no (s : ByteArray) : ∀ (n i : Nat), s.size - i ≤ n → i ≤ s.size → ∀ j, i ≤ j → j < lineEnd s i → bt s j ≠ 10
  | 0, i, h, hi, j, h1, h2 => by rw [lineEnd_stop (by omega)] at h2; omega
  | n + 1, i, h, hi, j, h1, h2 => by
    by_cases c : i < s.size ∧ bt s i ≠ 10
    · rw [lineEnd_go c.1 c.2] at h2
      rcases Nat.eq_or_lt_of_le h1 with rfl | h3
      · exact c.2
      · exact lineEnd_no s n (i + 1) (by omega) (by omega) j h3 h2
    · rw [lineEnd_stop c] at h2; omega
theorem lines_are (s : ByteArray) : ∀ (n i : Nat), s.size - i ≤ n → i ≤ s.size → ∀ x ∈ linesF s i, x.2 = lineEnd s x.1 := by
  intro n
  induction n with
  | zero =>
    intro i h hi x hx
    have := lineEnd_bd s _ i (Nat.le_refl _) hi
    rw [linesF_stop (by omega)] at hx
    simp at hx; subst hx; rfl
  | succ n ih =>
    intro i h hi x hx
    have hb := lineEnd_bd s _ i (Nat.le_refl _) hi
    by_cases c : lineEnd s i < s.size
    · rw [linesF_go hi c] at hx
      rcases List.mem_cons.1 hx with e | e
      · subst e; rfl
      · exact ih (lineEnd s i + 1) (by omega) (by omega) x e
    · rw [linesF_stop c] at hx
      simp at hx; subst hx; rfl
theorem lnT_no {s : ByteArray} {n : Nat} (hn : n < (linesF s 0).length) {j : Nat} (hj : j < (lnT s n).size) : bt (lnT s n) j ≠ 10 := by
  have hb := lnAt_bd hn
  have he := lines_are s _ 0 (Nat.le_refl _) (Nat.zero_le _) _ (List.mem_of_getElem? (lnAt_get hn))
  unfold lnT at hj ⊢
  rw [ByteArray.size_extract] at hj
  rw [bt_extract (by omega) hb.2]
  exact lineEnd_no s _ (lnAt s n).1 (Nat.le_refl _) (by omega) _ (by omega) (by omega)
theorem shown_clean {s : ByteArray} {n : Nat} (hn : n < (linesF s 0).length) : Clean (shown (lnT s n)).data.toList := by
  show Clean (sbody (lnT s n) (places (lnT s n))).toArray.toList
  intro x hx
  simp only [sbody, List.mem_flatMap] at hx
  obtain ⟨p, hp, hx⟩ := hx
  have hpl := mem_places hp
  have hr := rn_bd (lnT s n) p
  exact srune_clean hr.1 (by omega) (rn_ten hpl (lnT_no hn hpl)) x hx
theorem spaces_clean (n : Nat) : Clean (spaces n).data.toList := by
  refine Clean.big ?_
  intro x hx
  have : x ∈ List.replicate n (32 : UInt8) := by simpa [spaces] using hx
  rw [List.eq_of_mem_replicate this]; decide
theorem Clean.count {l : List UInt8} (h : Clean l) : l.count 10 = 0 := List.count_eq_zero.2 (fun hm => (h 10 hm).2.1 rfl)
theorem app_list (a b : ByteArray) : (a ++ b).data.toList = a.data.toList ++ b.data.toList := by rw [ByteArray.data_append]; simp
/-- The three lines: three line's ends; no tab, no carriage return; the mark at the end. -/
theorem out_marks (s : ByteArray) (e at_ : Int) : ((outB s e at_).data.toList.count 10 = 3) ∧ (∀ x ∈ (outB s e at_).data.toList, x ≠ 9 ∧ x ≠ 13) ∧ ∃ p : ByteArray, outB s e at_ = p ++ ⟨#[94, 10]⟩ := by
  have hl := lineN_bd s at_
  obtain ⟨a, b, c, ha, hb, hc, hO⟩ : ∃ a b c : ByteArray, Clean a.data.toList ∧ Clean b.data.toList ∧ Clean c.data.toList ∧ outB s e at_ = rowsB [a, b, c ++ ⟨#[94]⟩] :=
    ⟨_, _, _, by
      rw [app_list, app_list, app_list, app_list]
      exact ((((digits_clean _).append (Clean.big (by decide))).append (digits_clean _)).append (Clean.big (by decide))).append (wordB_clean e), shown_clean (n := lineN s at_ - 1) (by omega), spaces_clean (colN s at_ - 1), rfl⟩
  have hL : (outB s e at_).data.toList = a.data.toList ++ ([10] ++ (b.data.toList ++ ([10] ++ (c.data.toList ++ [94, 10])))) := by
    rw [hO]; unfold rowsB rowsL; simp
  rw [hL]
  refine ⟨?_, ?_, ?_⟩
  · simp only [List.count_append, ha.count, hb.count, hc.count]; decide
  · intro x hx
    simp only [List.mem_append] at hx
    rcases hx with hx | hx | hx | hx | hx | hx
    · exact ⟨(ha x hx).1, (ha x hx).2.2⟩
    · simp at hx; subst hx; decide
    · exact ⟨(hb x hx).1, (hb x hx).2.2⟩
    · simp at hx; subst hx; decide
    · exact ⟨(hc x hx).1, (hc x hx).2.2⟩
    · simp at hx; rcases hx with rfl | rfl <;> decide
  · refine ⟨⟨(a.data.toList ++ ([10] ++ (b.data.toList ++ ([10] ++ c.data.toList)))).toArray⟩, ?_⟩
    apply ByteArray.ext
    apply Array.toList_inj.1
    rw [hL, ByteArray.data_append]
    simp
end Go.Proofs.YtcphkdooemengaaDoor
