/- Some texts of this claim, put together. -/
import Derived.Test.YtcphkdooemengaaGreatDoorHBZ2
import Derived.Test.YtcphkdooemengaaGreatDoorHBZ11
import Derived.Lib.ItoaNum
import Derived.Lib.ItoaLen
namespace Go.Proofs.YtcphkdooemengaaGreatDoor
section
set_option linter.unusedVariables false
set_option linter.unusedSimpArgs false
set_option linter.unnecessarySimpa false
open Go.RowKit
theorem pre_one {α : Type} {pre : List α} {x z : α} (h : pre ++ [x] <+: [z]) : pre = [] ∧ x = z := by
  have hl := h.length_le
  cases pre with
  | nil => simpa using h
  | cons a l => simp at hl
theorem ln_next (s : ByteArray) : ∀ (n i : Nat), s.size - i ≤ n → i ≤ s.size → ∀ (pre : List (Nat × Nat)) (x : Nat × Nat), pre ++ [x] <+: linesF s i →
    (pre = [] → x.1 = i) ∧ (∀ p y, pre = p ++ [y] → x.1 = y.2 + 1 ∧ y.2 < s.size ∧ bt s y.2 = 10) := by
  intro n
  induction n with
  | zero =>
    intro i h hi pre x hp
    have := lnEnd_bd s _ i (Nat.le_refl _) hi
    rw [linesF_stop (by omega)] at hp
    obtain ⟨rfl, rfl⟩ := pre_one hp
    exact ⟨fun _ => rfl, fun p y e => by simp at e⟩
  | succ n ih =>
    intro i h hi pre x hp
    have hb := lnEnd_bd s _ i (Nat.le_refl _) hi
    by_cases c : lnEnd s i < s.size
    · rw [linesF_go hi c] at hp
      cases pre with
      | nil =>
        rw [List.nil_append, List.cons_prefix_cons] at hp
        obtain ⟨hx, _⟩ := hp
        subst hx
        exact ⟨fun _ => rfl, fun p y e => by simp at e⟩
      | cons z pre =>
        rw [List.cons_append, List.cons_prefix_cons] at hp
        obtain ⟨hz, hp⟩ := hp
        subst hz
        have := ih (lnEnd s i + 1) (by omega) (by omega) pre x hp
        refine ⟨fun e => (by cases e), fun p y e => ?_⟩
        cases p with
        | nil =>
          simp at e
          obtain ⟨rfl, rfl⟩ := e
          exact ⟨this.1 rfl, c, lnEnd_ten s _ i (Nat.le_refl _) hi c⟩
        | cons q p =>
          simp at e
          exact this.2 p y e.2
    · rw [linesF_stop c] at hp
      obtain ⟨rfl, rfl⟩ := pre_one hp
      exact ⟨fun _ => rfl, fun p y e => by simp at e⟩
/-- The lines so far, put together. -/
def wholeT (s : ByteArray) (pre : List (Nat × Nat)) : ByteArray := match pre.getLast? with | none => ⟨#[]⟩ | some y => s.extract 0 y.2
theorem wholeT_snoc (s : ByteArray) (pre : List (Nat × Nat)) (x : Nat × Nat) : wholeT s (pre ++ [x]) = s.extract 0 x.2 := by simp [wholeT]
theorem ext_join {s : ByteArray} {a b : Nat} (hab : a + 1 ≤ b) (hb : b ≤ s.size) (h : bt s a = 10) : s.extract 0 a ++ ⟨#[10]⟩ ++ s.extract (a + 1) b = s.extract 0 b := by
  have hl : a < s.data.size := by show a < s.size; omega
  have h0 := data_at (s := s) (j := a) (by omega)
  have h1 : (#[10] : Array UInt8) = s.data.extract a (a + 1) := by
    apply Array.ext
    · simp; omega
    · intro i h1 h2
      obtain rfl : i = 0 := by simp at h1; omega
      apply UInt8.toNat_inj.1
      simp at h0 ⊢
      omega
  apply ByteArray.ext
  simp only [ByteArray.data_append, ByteArray.data_extract]
  rw [h1, Array.extract_append_extract, show max a (a + 1) = a + 1 by omega, Array.extract_append_extract]
  congr 1 <;> omega
theorem nil_app (t : ByteArray) : (⟨#[]⟩ : ByteArray) ++ t = t := by apply ByteArray.ext; simp
theorem ext_all (s : ByteArray) : s.extract 0 s.size = s := by apply ByteArray.ext; simp
theorem lines_end (s : ByteArray) : ∀ (n i : Nat), s.size - i ≤ n → i ≤ s.size → ∃ p x, linesF s i = p ++ [x] ∧ x.2 = s.size := by
  intro n
  induction n with
  | zero =>
    intro i h hi
    have := lnEnd_bd s _ i (Nat.le_refl _) hi
    exact ⟨[], _, linesF_stop (by omega), by show lnEnd s i = s.size; omega⟩
  | succ n ih =>
    intro i h hi
    have := lnEnd_bd s _ i (Nat.le_refl _) hi
    by_cases c : lnEnd s i < s.size
    · obtain ⟨p, x, e, hx⟩ := ih (lnEnd s i + 1) (by omega) (by omega)
      exact ⟨(i, lnEnd s i) :: p, x, by rw [linesF_go hi c, e]; rfl, hx⟩
    · exact ⟨[], _, linesF_stop c, by show lnEnd s i = s.size; omega⟩
theorem whole_all (s : ByteArray) : wholeT s (linesF s 0) = s := by
  obtain ⟨p, x, e, hx⟩ := lines_end s _ 0 (Nat.le_refl _) (Nat.zero_le _)
  rw [e, wholeT_snoc, hx, ext_all]
/-- A line more. -/
theorem whole_step {s : ByteArray} {pre : List (Nat × Nat)} {x : Nat × Nat} (h : pre ++ [x] <+: linesF s 0) : (if 0 < pre.length then wholeT s pre ++ ⟨#[10]⟩ else wholeT s pre) ++ s.extract x.1 x.2 = wholeT s (pre ++ [x]) := by
  have hn := ln_next s _ 0 (Nat.le_refl _) (Nat.zero_le _) pre x h
  have hi := lines_in s _ 0 (Nat.le_refl _) (Nat.zero_le _) x (h.subset (by simp))
  rw [wholeT_snoc]
  rcases List.eq_nil_or_concat pre with rfl | ⟨p, y, rfl⟩
  · rw [if_neg (by simp), hn.1 rfl, show wholeT s [] = ⟨#[]⟩ from rfl, nil_app]
  · obtain ⟨e1, e2, e3⟩ := hn.2 p y (by simp)
    have e : wholeT s (p.concat y) = s.extract 0 y.2 := by rw [List.concat_eq_append, wholeT_snoc]
    rw [if_pos (by simp), e, e1]
    exact ext_join (by omega) hi.2.2 e3
/-- A line by its number. -/
def lnAt (s : ByteArray) (n : Nat) : Nat × Nat := (linesF s 0).getD n (0, 0)
def lnT (s : ByteArray) (n : Nat) : ByteArray := s.extract (lnAt s n).1 (lnAt s n).2
theorem lnAt_is {s : ByteArray} {n : Nat} {x : Nat × Nat} (h : (linesF s 0)[n]? = some x) : lnAt s n = x := by unfold lnAt; rw [List.getD_eq_getElem?_getD, h]; rfl
theorem lnAt_get {s : ByteArray} {n : Nat} (h : n < (linesF s 0).length) : (linesF s 0)[n]? = some (lnAt s n) := by
  unfold lnAt; rw [List.getD_eq_getElem?_getD, List.getElem?_eq_getElem h]; rfl
theorem lnAt_bd {s : ByteArray} {n : Nat} (h : n < (linesF s 0).length) : (lnAt s n).1 ≤ (lnAt s n).2 ∧ (lnAt s n).2 ≤ s.size := by
  have := lines_in s _ 0 (Nat.le_refl _) (Nat.zero_le _) _ (List.mem_of_getElem? (lnAt_get h))
  omega
theorem lines_pos (s : ByteArray) : 0 < (linesF s 0).length := by
  rw [lines_count s _ 0 (Nat.le_refl _) (Nat.zero_le _)]; omega
theorem pre_at_last {s : ByteArray} {pre : List (Nat × Nat)} {x : Nat × Nat} (h : pre ++ [x] <+: linesF s 0) : (linesF s 0)[pre.length]? = some x := by
  obtain ⟨t, e⟩ := h
  rw [← e]; simp
end
section
set_option linter.unusedVariables false
set_option linter.unusedSimpArgs false
set_option linter.unnecessarySimpa false
open Go.RowKit

/-- A place, brought within the text. -/
def clampA (s : ByteArray) (a : Int) : Nat := (max 0 (min a (s.size : Int))).toNat
theorem clampA_le (s : ByteArray) (a : Int) : clampA s a ≤ s.size := by unfold clampA; omega
/-- The line's number and its first byte, of the place k. -/
def lnF (s : ByteArray) : Nat → Nat × Nat
  | 0 => (1, 0)
  | k + 1 => if bt s k = 10 then ((lnF s k).1 + 1, k + 1) else lnF s k
theorem lnF_bd (s : ByteArray) (k : Nat) : (lnF s k).1 ≤ k + 1 ∧ (lnF s k).2 ≤ k := by
  induction k with
  | zero => simp [lnF]
  | succ k ih => simp only [lnF]; split <;> (try simp) <;> omega
theorem lnF_hit {s : ByteArray} {k : Nat} (h : bt s k = 10) : lnF s (k + 1) = ((lnF s k).1 + 1, k + 1) := by simp [lnF, h]
theorem lnF_miss {s : ByteArray} {k : Nat} (h : bt s k ≠ 10) : lnF s (k + 1) = lnF s k := by simp [lnF, h]

/-- How many runes from i on end at a or ahead of it. -/
def cnt (s : ByteArray) (i a : Nat) : Nat := (placesAt s i).countP fun j => decide (j + wd s j ≤ a)
theorem cnt_end {s : ByteArray} {i a : Nat} (h : ¬ i < s.size) : cnt s i a = 0 := by unfold cnt; rw [placesAt_end h]; rfl
theorem cnt_step {s : ByteArray} {i a : Nat} (h : i < s.size) : cnt s i a = (if i + wd s i ≤ a then 1 else 0) + cnt s (i + wd s i) a := by
  unfold cnt; rw [placesAt_step h, List.countP_cons]
  by_cases h2 : i + wd s i ≤ a <;> simp [h2] <;> omega
theorem ge_placesF (s : ByteArray) : ∀ (f i j : Nat), j ∈ placesF s f i → i ≤ j
  | 0, _, _, h => by simp [placesF] at h
  | f + 1, i, j, h => by
    simp only [placesF] at h
    split at h
    · rcases List.mem_cons.1 h with rfl | h
      · exact Nat.le_refl _
      · have := ge_placesF s f _ j h; omega
    · simp at h
theorem cnt_zero {s : ByteArray} {i a : Nat} (h : a ≤ i) : cnt s i a = 0 := by
  unfold cnt
  rw [List.countP_eq_zero]
  intro j hj
  have h1 := ge_placesF s _ _ j hj
  have h2 := mem_placesF s _ _ j hj
  have h3 := wd_bd h2
  simp; omega
/-- The column of the place a, whose line begins at i. -/
def colS (s : ByteArray) (i a : Nat) : Nat := 1 + cnt s i a

/-- A suffix's places are the text's. -/
theorem placesF_suffix (s : ByteArray) (k : Nat) : ∀ (f i : Nat), k ≤ s.size → placesF s f (k + i) = (placesF (s.extract k s.size) f i).map (k + ·)
  | 0, _, _ => rfl
  | f + 1, i, hk => by
    have hsz : (s.extract k s.size).size = s.size - k := by simp [ByteArray.size_extract]
    simp only [placesF]
    by_cases h : k + i < s.size
    · rw [if_pos h, if_pos (by omega), (dec_suffix h).2, Nat.add_assoc, placesF_suffix s k f _ hk]; simp
    · rw [if_neg h, if_neg (by omega)]; rfl
theorem placesAt_suffix {s : ByteArray} {k : Nat} (i : Nat) (hk : k ≤ s.size) : placesAt s (k + i) = (placesAt (s.extract k s.size) i).map (k + ·) := by
  have hsz : (s.extract k s.size).size = s.size - k := by simp [ByteArray.size_extract]
  unfold placesAt
  rw [placesF_suffix s k _ i hk, hsz, show s.size - (k + i) = s.size - k - i by omega]

/-- What a loop over the runes has gone through, and where it stands. -/
inductive Vis (t : ByteArray) : List Nat → Nat → Prop
  | nil : Vis t [] 0
  | snoc {pre : List Nat} {k : Nat} : Vis t pre k → k < t.size → Vis t (pre ++ [k]) (k + wd t k)
theorem Vis.split {t : ByteArray} {pre : List Nat} {k : Nat} (h : Vis t pre k) : places t = pre ++ placesAt t k := by
  induction h with
  | nil => rfl
  | snoc hv hk ih => rw [ih, placesAt_step hk]; simp
theorem vis_of_pre {t : ByteArray} : ∀ (pre : List Nat), pre <+: places t → ∃ k, Vis t pre k := by
  intro pre
  induction h : pre.length generalizing pre with
  | zero => intro _; exact ⟨0, by rw [List.eq_nil_of_length_eq_zero h]; exact Vis.nil⟩
  | succ n ih =>
    intro hp
    obtain ⟨p, x, rfl⟩ : ∃ p x, pre = p ++ [x] := ⟨pre.dropLast, pre.getLast (by intro e; subst e; simp at h), (List.dropLast_concat_getLast _).symm⟩
    obtain ⟨k, hk⟩ := ih p (by simp at h; exact h) ((List.prefix_append _ _).trans hp)
    obtain ⟨r, hr⟩ := hp
    have hs := hk.split
    rw [← hr] at hs
    have hs2 : x :: r = placesAt t k := by simpa using hs
    by_cases hlt : k < t.size
    · rw [placesAt_step hlt] at hs2
      injection hs2 with e _
      subst e
      exact ⟨_, hk.snoc hlt⟩
    · rw [placesAt_end hlt] at hs2; cases hs2
theorem Vis.lt {t : ByteArray} {pre : List Nat} {k : Nat} (h : Vis t pre k) : (∀ j ∈ pre, j < k) ∧ k ≤ t.size := by
  induction h with
  | nil => exact ⟨by simp, Nat.zero_le _⟩
  | snoc hv hk ih =>
    have hw := wd_bd hk
    refine ⟨fun j hj => ?_, by omega⟩
    rcases List.mem_append.1 hj with h | h
    · have := ih.1 j h; omega
    · simp at h; omega
theorem Vis.count {t : ByteArray} {pre : List Nat} {k : Nat} (h : Vis t pre k) (b a : Nat) (ht : ∀ x ∈ pre.tail, b + x ≤ a) :
    1 + pre.countP (fun j => decide (b + (j + wd t j) ≤ a)) = (if pre = [] then 1 else pre.length) + (if pre ≠ [] ∧ b + k ≤ a then 1 else 0) := by
  induction h with
  | nil => simp
  | @snoc p k hv hk ih =>
    rw [List.countP_append]
    by_cases hp : p = []
    · subst hp
      by_cases h2 : b + (k + wd t k) ≤ a <;> simp [h2]
    · have htl : (p ++ [k]).tail = p.tail ++ [k] := by rw [List.tail_append_of_ne_nil hp]
      have ih' := ih (fun x hx => ht x (by rw [htl]; simp [hx]))
      have hk2 : b + k ≤ a := ht k (by rw [htl]; simp)
      rw [if_neg hp, if_pos ⟨hp, hk2⟩] at ih'
      by_cases h2 : b + (k + wd t k) ≤ a <;> simp [h2] <;> omega

/-- What the program's loop holds, of the places that have come. -/
def colOf (pre : List Nat) : Int := if pre = [] then 1 else (pre.length : Int)
def lastOf (pre : List Nat) : Int := match pre.getLast? with
  | none => -1
  | some x => (x : Int)
theorem lastOf_nil : lastOf [] = -1 := rfl
theorem lastOf_snoc (pre : List Nat) (x : Nat) : lastOf (pre ++ [x]) = (x : Int) := by simp [lastOf]
theorem lastOf_neg {pre : List Nat} : lastOf pre < 0 ↔ pre = [] := by
  unfold lastOf
  cases h : pre.getLast? with
  | none => simp [List.getLast?_eq_none_iff.1 h]
  | some x =>
    have : pre ≠ [] := by intro e; subst e; cases h
    simp [this]
theorem colOf_bd (pre : List Nat) : 1 ≤ colOf pre ∧ colOf pre ≤ pre.length + 1 := by
  unfold colOf; split
  · omega
  · have : 0 < pre.length := List.length_pos_iff.2 (by assumption)
    omega
theorem colOf_one (x : Nat) : colOf ([] ++ [x]) = 1 := rfl
theorem colOf_snoc {pre : List Nat} (x : Nat) (h : pre ≠ []) : colOf (pre ++ [x]) = colOf pre + 1 := by unfold colOf; rw [if_neg (by simp), if_neg h]; simp
theorem cnt_suffix {s t : ByteArray} {b : Nat} (hb : b ≤ s.size) (ht : t = s.extract b s.size) (a i : Nat) : cnt s (b + i) a = (placesAt t i).countP fun j => decide (b + (j + wd t j) ≤ a) := by
  unfold cnt
  rw [placesAt_suffix i hb, List.countP_map, ← ht]
  apply List.countP_congr
  intro j hj
  have hj2 := mem_placesF t _ _ j hj
  have hsz : t.size = s.size - b := by subst ht; simp [ByteArray.size_extract]
  have h1 := (dec_suffix (s := s) (k := b) (i := j) (by omega)).2
  rw [← ht] at h1
  simp [← h1, Nat.add_assoc]
theorem lastOf_lt {t : ByteArray} (hp : places t ≠ []) : lastOf (places t) < t.size := by
  obtain ⟨p, x, e⟩ : ∃ p x, places t = p ++ [x] := ⟨(places t).dropLast, (places t).getLast hp, (List.dropLast_concat_getLast _).symm⟩
  have hm : x ∈ places t := by rw [e]; simp
  have := mem_places hm
  rw [e, lastOf_snoc]; omega
theorem col_done {s t : ByteArray} {b a : Nat} (hb : b ≤ s.size) (ha : a ≤ s.size) (ht : t = s.extract b s.size) (hx : ∀ x ∈ (places t).tail, b + x ≤ a) :
    (colS s b a : Int) = colOf (places t) + (if 0 ≤ lastOf (places t) ∧ a = s.size ∧ b + lastOf (places t) < a then 1 else 0) := by
  have hsz : t.size = s.size - b := by subst ht; simp [ByteArray.size_extract]
  obtain ⟨k, hv⟩ := vis_of_pre (places t) (List.prefix_refl _)
  have hk : ¬ k < t.size := by
    intro h
    have := hv.split
    rw [placesAt_step h] at this
    have := congrArg List.length this
    simp at this
  have hk2 := hv.lt
  have hc := hv.count b a hx
  have h0 := cnt_suffix hb ht a 0
  rw [Nat.add_zero] at h0
  unfold colS
  rw [h0]
  change 1 + (places t).countP _ = _ at hc
  show ((1 + (places t).countP (fun j => decide (b + (j + wd t j) ≤ a)) : Nat) : Int) = _
  rw [hc]
  by_cases hp : places t = []
  · rw [hp]; simp [lastOf, colOf]
  · have hl : 0 ≤ lastOf (places t) := by have := mt lastOf_neg.1 hp; omega
    have hl2 : lastOf (places t) < t.size := by
      obtain ⟨p, x, e⟩ : ∃ p x, places t = p ++ [x] := ⟨(places t).dropLast, (places t).getLast hp, (List.dropLast_concat_getLast _).symm⟩
      have hm : x ∈ places t := by rw [e]; simp
      have := mem_places hm
      rw [e, lastOf_snoc]; omega
    unfold colOf
    rw [if_neg hp, if_neg hp]
    by_cases h2 : a = s.size
    · rw [if_pos ⟨hp, by omega⟩, if_pos ⟨hl, h2, by omega⟩]; omega
    · rw [if_neg (by omega), if_neg (by omega)]; omega
theorem col_stop {s t : ByteArray} {b a x : Nat} {pre : List Nat} (hb : b ≤ s.size) (ht : t = s.extract b s.size) (hpre : pre ++ [x] <+: places t) (hp : pre ≠ []) (hx : ∀ x ∈ pre.tail, b + x ≤ a) (ha : a < b + x) :
    (colS s b a : Int) = colOf pre := by
  have hsz : t.size = s.size - b := by subst ht; simp [ByteArray.size_extract]
  obtain ⟨k, hv⟩ := vis_of_pre pre ((List.prefix_append _ _).trans hpre)
  obtain ⟨r, hr⟩ := hpre
  have hs := hv.split
  rw [← hr] at hs
  have hs2 : x :: r = placesAt t k := by simpa using hs
  have hkx : k = x := by
    by_cases hlt : k < t.size
    · rw [placesAt_step hlt] at hs2; injection hs2 with e _; exact e.symm
    · rw [placesAt_end hlt] at hs2; cases hs2
  subst hkx
  have hc := hv.count b a hx
  have h0 := cnt_suffix hb ht a 0
  rw [Nat.add_zero] at h0
  have h1 := cnt_suffix hb ht a k
  rw [cnt_zero (by omega)] at h1
  have hsp := hv.split
  unfold places at hsp
  unfold colS colOf
  rw [h0, hsp, List.countP_append, ← h1, Nat.add_zero, hc, if_neg hp, if_neg hp, if_neg (by omega)]
  simp
end
section
set_option linter.unusedVariables false
set_option linter.unusedSimpArgs false
set_option linter.unnecessarySimpa false
open Go.RowKit
def digits (n : Int) : ByteArray := ⟨(Lib.itoa n).toArray⟩
theorem digits_le {n : Int} (h0 : -9223372036854775808 ≤ n) (h1 : n ≤ 9223372036854775807) : (digits n).size ≤ 21 := by
  have := Lib.itoa_length_le n (by omega) (by omega)
  show (Lib.itoa n).toArray.size ≤ _
  simpa using this
/-- An error's word. -/
def wordB (e : Int) : ByteArray :=
  if e = 2 then ⟨#[116, 111, 111, 32, 108, 111, 110, 103]⟩ else if e = 3 then ⟨#[116, 111, 107, 101, 110]⟩ else if e = 4 then ⟨#[116, 111, 111, 32, 109, 97, 110, 121, 32, 116, 111, 107, 101, 110, 115]⟩ else if e = 5 then ⟨#[116, 111, 111, 32, 100, 101, 101, 112]⟩ else if e = 6 then ⟨#[115, 121, 110, 116, 97, 120]⟩ else if e = 8 then ⟨#[110, 97, 109, 101]⟩ else if e = 9 then ⟨#[116, 111, 111, 32, 99, 111, 109, 112, 108, 101, 120]⟩ else if e = 10 then ⟨#[116, 121, 112, 101]⟩ else ⟨#[101, 114, 114, 111, 114]⟩
theorem wordB_le (e : Int) : (wordB e).size ≤ 15 := by
  unfold wordB
  repeat' split
  all_goals decide
/-- What a rune is shown as. -/
def srune (r : Nat) : List UInt8 := if r = 13 then [] else if r = 9 then [32] else Lib.encodeRune (r : Int)
theorem srune_len (r : Nat) : (srune r).length ≤ 4 := by
  have h1 : (Lib.encodeRune (r : Int)).length ≤ 4 := by rw [← Lib.runeCells_length]; exact (Lib.runeCells_le _).2
  unfold srune
  repeat' split
  all_goals simp <;> omega
def sbody (s : ByteArray) (l : List Nat) : List UInt8 := l.flatMap fun i => srune (rn s i)
theorem sbody_snoc (s : ByteArray) (l : List Nat) (i : Nat) : sbody s (l ++ [i]) = sbody s l ++ srune (rn s i) := by simp [sbody]
theorem sbody_len (s : ByteArray) (l : List Nat) : (sbody s l).length ≤ 4 * l.length := by
  induction l with
  | nil => simp [sbody]
  | cons a l ih =>
    have := srune_len (rn s a)
    have e : sbody s (a :: l) = srune (rn s a) ++ sbody s l := by simp [sbody]
    rw [e]; simp; omega
def shown (t : ByteArray) : ByteArray := ⟨(sbody t (places t)).toArray⟩
def spaces (n : Nat) : ByteArray := ⟨(List.replicate n 32).toArray⟩
/-- Lines, each with its end. -/
def rowsL (l : List ByteArray) : List UInt8 := l.flatMap fun x => x.data.toList ++ [10]
def rowsB (l : List ByteArray) : ByteArray := ⟨(rowsL l).toArray⟩
theorem rowsL_snoc (l : List ByteArray) (x : ByteArray) : rowsL (l ++ [x]) = rowsL l ++ (x.data.toList ++ [10]) := by simp [rowsL]
/-- The line and the column of a place. -/
def lineN (s : ByteArray) (at_ : Int) : Nat := (lnF s (clampA s at_)).1
def colN (s : ByteArray) (at_ : Int) : Nat := colS s (lnF s (clampA s at_)).2 (clampA s at_)
/-- The three lines. -/
def outB (s : ByteArray) (e at_ : Int) : ByteArray :=
  rowsB [digits (lineN s at_) ++ ⟨#[58]⟩ ++ digits (colN s at_) ++ ⟨#[58, 32]⟩ ++ wordB e, shown (lnT s (lineN s at_ - 1)), spaces (colN s at_ - 1) ++ ⟨#[94]⟩]
theorem lnF_at (s : ByteArray) : ∀ k, k ≤ s.size → ∃ pre, AtLn s pre (lnF s k).2 ∧ pre.length + 1 = (lnF s k).1 ∧ lnEnd s (lnF s k).2 = lnEnd s k
  | 0, _ => ⟨[], AtLn.start s, rfl, rfl⟩
  | k + 1, h => by
    obtain ⟨pre, h1, h2, h3⟩ := lnF_at s k (by omega)
    by_cases c : bt s k = 10
    · have he : lnEnd s k = k := lnEnd_stop (by rintro ⟨_, q⟩; exact q c)
      rw [he] at h3
      have hst := h1.step (by omega)
      rw [h3] at hst
      rw [lnF_hit c]
      exact ⟨_, hst, by simp; omega, rfl⟩
    · rw [lnF_miss c]
      exact ⟨pre, h1, h2, by rw [h3]; exact lnEnd_go (by omega) c⟩
theorem lineN_bd (s : ByteArray) (at_ : Int) : 1 ≤ lineN s at_ ∧ lineN s at_ ≤ (linesF s 0).length := by
  obtain ⟨pre, h1, h2, _⟩ := lnF_at s (clampA s at_) (clampA_le s at_)
  have := h1.len
  unfold lineN; omega
theorem cnt_le (s : ByteArray) (i a : Nat) : cnt s i a ≤ s.size := by
  unfold cnt
  refine Nat.le_trans (List.countP_le_length) ?_
  exact Nat.le_trans (placesF_len s _ i) (by omega)
theorem colN_bd (s : ByteArray) (at_ : Int) : 1 ≤ colN s at_ ∧ colN s at_ ≤ s.size + 1 := by
  have := cnt_le s (lnF s (clampA s at_)).2 (clampA s at_)
  unfold colN colS; omega
theorem lnT_size (s : ByteArray) (n : Nat) : (lnT s n).size ≤ s.size := by
  unfold lnT; rw [ByteArray.size_extract]; omega
end
end Go.Proofs.YtcphkdooemengaaGreatDoor
