/- Plain: a byte's line and column. No program in sight. -/
import Derived.Test.YtdlppdoankeilaaDoorPl
namespace Go.Proofs.YtdlppdoankeilaaDoor
set_option linter.unusedVariables false
set_option linter.unusedSimpArgs false
set_option linter.unnecessarySimpa false
open Go.RowKit

/-- A place, brought within the text. -/
def clampA (s : ByteArray) (a : Int) : Nat := (max 0 (min a (s.size : Int))).toNat
theorem clampA_le (s : ByteArray) (a : Int) : clampA s a ≤ s.size := by unfold clampA; omega
/-- The line's number and its first byte, of the place k. -/
def lnF (s : ByteArray) : Nat → Nat × Nat
  | 0 => (1, 0)
  | k + 1 => if bt s k = 10 then ((lnF s k).1 + 1, k + 1) else lnF s k
theorem lnF_bd (s : ByteArray) (k : Nat) : (lnF s k).1 ≤ k + 1 ∧ (lnF s k).2 ≤ k := by
  induction k with
  | zero => simp [lnF]
  | succ k ih => simp only [lnF]; split <;> (try simp) <;> omega
theorem lnF_hit {s : ByteArray} {k : Nat} (h : bt s k = 10) : lnF s (k + 1) = ((lnF s k).1 + 1, k + 1) := by simp [lnF, h]
theorem lnF_miss {s : ByteArray} {k : Nat} (h : bt s k ≠ 10) : lnF s (k + 1) = lnF s k := by simp [lnF, h]

/-- How many runes from i on end at a or ahead of it. -/
def cnt (s : ByteArray) (i a : Nat) : Nat := (placesAt s i).countP fun j => decide (j + wd s j ≤ a)
theorem cnt_end {s : ByteArray} {i a : Nat} (h : ¬ i < s.size) : cnt s i a = 0 := by unfold cnt; rw [placesAt_end h]; rfl
theorem cnt_step {s : ByteArray} {i a : Nat} (h : i < s.size) : cnt s i a = (if i + wd s i ≤ a then 1 else 0) + cnt s (i + wd s i) a := by
  unfold cnt; rw [placesAt_step h, List.countP_cons]
  by_cases h2 : i + wd s i ≤ a <;> simp [h2] <;> omega
theorem ge_placesF (s : ByteArray) : ∀ (f i j : Nat), j ∈ placesF s f i → i ≤ j
  | 0, _, _, h => by simp [placesF] at h
  | f + 1, i, j, h => by
    simp only [placesF] at h
    split at h
    · rcases List.mem_cons.1 h with rfl | h
      · exact Nat.le_refl _
      · have := ge_placesF s f _ j h; omega
    · simp at h
theorem cnt_zero {s : ByteArray} {i a : Nat} (h : a ≤ i) : cnt s i a = 0 := by
  unfold cnt
  rw [List.countP_eq_zero]
  intro j hj
  have h1 := ge_placesF s _ _ j hj
  have h2 := mem_placesF s _ _ j hj
  have h3 := wd_bd h2
  simp; omega
/-- The column of the place a, whose line begins at i. -/
def colS (s : ByteArray) (i a : Nat) : Nat := 1 + cnt s i a

/-- A suffix's places are the text's. -/
theorem placesF_suffix (s : ByteArray) (k : Nat) : ∀ (f i : Nat), k ≤ s.size → placesF s f (k + i) = (placesF (s.extract k s.size) f i).map (k + ·)
  | 0, _, _ => rfl
  | f + 1, i, hk => by
    have hsz : (s.extract k s.size).size = s.size - k := by simp [ByteArray.size_extract]
    simp only [placesF]
    by_cases h : k + i < s.size
    · rw [if_pos h, if_pos (by omega), (dec_suffix h).2, Nat.add_assoc, placesF_suffix s k f _ hk]; simp
    · rw [if_neg h, if_neg (by omega)]; rfl
theorem placesAt_suffix {s : ByteArray} {k : Nat} (i : Nat) (hk : k ≤ s.size) : placesAt s (k + i) = (placesAt (s.extract k s.size) i).map (k + ·) := by
  have hsz : (s.extract k s.size).size = s.size - k := by simp [ByteArray.size_extract]
  unfold placesAt
  rw [placesF_suffix s k _ i hk, hsz, show s.size - (k + i) = s.size - k - i by omega]

/-- What a loop over the runes has gone through, and where it stands. -/
inductive Vis (t : ByteArray) : List Nat → Nat → Prop
  | nil : Vis t [] 0
  | snoc {pre : List Nat} {k : Nat} : Vis t pre k → k < t.size → Vis t (pre ++ [k]) (k + wd t k)
theorem Vis.split {t : ByteArray} {pre : List Nat} {k : Nat} (h : Vis t pre k) : places t = pre ++ placesAt t k := by
  induction h with
  | nil => rfl
  | snoc hv hk ih => rw [ih, placesAt_step hk]; simp
theorem vis_of_pre {t : ByteArray} : ∀ (pre : List Nat), pre <+: places t → ∃ k, Vis t pre k := by
  intro pre
  induction h : pre.length generalizing pre with
  | zero => intro _; exact ⟨0, by rw [List.eq_nil_of_length_eq_zero h]; exact Vis.nil⟩
  | succ n ih =>
    intro hp
    obtain ⟨p, x, rfl⟩ : ∃ p x, pre = p ++ [x] := ⟨pre.dropLast, pre.getLast (by intro e; subst e; simp at h), (List.dropLast_concat_getLast _).symm⟩
    obtain ⟨k, hk⟩ := ih p (by simp at h; exact h) ((List.prefix_append _ _).trans hp)
    obtain ⟨r, hr⟩ := hp
    have hs := hk.split
    rw [← hr] at hs
    have hs2 : x :: r = placesAt t k := by simpa using hs
    by_cases hlt : k < t.size
    · rw [placesAt_step hlt] at hs2
      injection hs2 with e _
      subst e
      exact ⟨_, hk.snoc hlt⟩
    · rw [placesAt_end hlt] at hs2; cases hs2
theorem Vis.lt {t : ByteArray} {pre : List Nat} {k : Nat} (h : Vis t pre k) : (∀ j ∈ pre, j < k) ∧ k ≤ t.size := by
  induction h with
  | nil => exact ⟨by simp, Nat.zero_le _⟩
  | snoc hv hk ih =>
    have hw := wd_bd hk
    refine ⟨fun j hj => ?_, by omega⟩
    rcases List.mem_append.1 hj with h | h
    · have := ih.1 j h; omega
    · simp at h; omega
theorem Vis.count {t : ByteArray} {pre : List Nat} {k : Nat} (h : Vis t pre k) (b a : Nat) (ht : ∀ x ∈ pre.tail, b + x ≤ a) :
    1 + pre.countP (fun j => decide (b + (j + wd t j) ≤ a)) = (if pre = [] then 1 else pre.length) + (if pre ≠ [] ∧ b + k ≤ a then 1 else 0) := by
  induction h with
  | nil => simp
  | @snoc p k hv hk ih =>
    rw [List.countP_append]
    by_cases hp : p = []
    · subst hp
      by_cases h2 : b + (k + wd t k) ≤ a <;> simp [h2]
    · have htl : (p ++ [k]).tail = p.tail ++ [k] := by rw [List.tail_append_of_ne_nil hp]
      have ih' := ih (fun x hx => ht x (by rw [htl]; simp [hx]))
      have hk2 : b + k ≤ a := ht k (by rw [htl]; simp)
      rw [if_neg hp, if_pos ⟨hp, hk2⟩] at ih'
      by_cases h2 : b + (k + wd t k) ≤ a <;> simp [h2] <;> omega

/-- What the program's loop holds, of the places that have come. -/
def colOf (pre : List Nat) : Int := if pre = [] then 1 else (pre.length : Int)
def lastOf (pre : List Nat) : Int := match pre.getLast? with
  | none => -1
  | some x => (x : Int)
theorem lastOf_nil : lastOf [] = -1 := rfl
theorem lastOf_snoc (pre : List Nat) (x : Nat) : lastOf (pre ++ [x]) = (x : Int) := by simp [lastOf]
theorem lastOf_neg {pre : List Nat} : lastOf pre < 0 ↔ pre = [] := by
  unfold lastOf
  cases h : pre.getLast? with
  | none => simp [List.getLast?_eq_none_iff.1 h]
  | some x =>
    have : pre ≠ [] := by intro e; subst e; cases h
    simp [this]
theorem colOf_bd (pre : List Nat) : 1 ≤ colOf pre ∧ colOf pre ≤ pre.length + 1 := by
  unfold colOf; split
  · omega
  · have : 0 < pre.length := List.length_pos_iff.2 (by assumption)
    omega
theorem colOf_one (x : Nat) : colOf ([] ++ [x]) = 1 := rfl
theorem colOf_snoc {pre : List Nat} (x : Nat) (h : pre ≠ []) : colOf (pre ++ [x]) = colOf pre + 1 := by unfold colOf; rw [if_neg (by simp), if_neg h]; simp
theorem cnt_suffix {s t : ByteArray} {b : Nat} (hb : b ≤ s.size) (ht : t = s.extract b s.size) (a i : Nat) : cnt s (b + i) a = (placesAt t i).countP fun j => decide (b + (j + wd t j) ≤ a) := by
  unfold cnt
  rw [placesAt_suffix i hb, List.countP_map, ← ht]
  apply List.countP_congr
  intro j hj
  have hj2 := mem_placesF t _ _ j hj
  have hsz : t.size = s.size - b := by subst ht; simp [ByteArray.size_extract]
  have h1 := (dec_suffix (s := s) (k := b) (i := j) (by omega)).2
  rw [← ht] at h1
  simp [← h1, Nat.add_assoc]
theorem lastOf_lt {t : ByteArray} (hp : places t ≠ []) : lastOf (places t) < t.size := by
  obtain ⟨p, x, e⟩ : ∃ p x, places t = p ++ [x] := ⟨(places t).dropLast, (places t).getLast hp, (List.dropLast_concat_getLast _).symm⟩
  have hm : x ∈ places t := by rw [e]; simp
  have := mem_places hm
  rw [e, lastOf_snoc]; omega
theorem col_done {s t : ByteArray} {b a : Nat} (hb : b ≤ s.size) (ha : a ≤ s.size) (ht : t = s.extract b s.size) (hx : ∀ x ∈ (places t).tail, b + x ≤ a) :
    (colS s b a : Int) = colOf (places t) + (if 0 ≤ lastOf (places t) ∧ a = s.size ∧ b + lastOf (places t) < a then 1 else 0) := by
  have hsz : t.size = s.size - b := by subst ht; simp [ByteArray.size_extract]
  obtain ⟨k, hv⟩ := vis_of_pre (places t) (List.prefix_refl _)
  have hk : ¬ k < t.size := by
    intro h
    have := hv.split
    rw [placesAt_step h] at this
    have := congrArg List.length this
    simp at this
  have hk2 := hv.lt
  have hc := hv.count b a hx
  have h0 := cnt_suffix hb ht a 0
  rw [Nat.add_zero] at h0
  unfold colS
  rw [h0]
  change 1 + (places t).countP _ = _ at hc
  show ((1 + (places t).countP (fun j => decide (b + (j + wd t j) ≤ a)) : Nat) : Int) = _
  rw [hc]
  by_cases hp : places t = []
  · rw [hp]; simp [lastOf, colOf]
  · have hl : 0 ≤ lastOf (places t) := by have := mt lastOf_neg.1 hp; omega
    have hl2 : lastOf (places t) < t.size := by
      obtain ⟨p, x, e⟩ : ∃ p x, places t = p ++ [x] := ⟨(places t).dropLast, (places t).getLast hp, (List.dropLast_concat_getLast _).symm⟩
      have hm : x ∈ places t := by rw [e]; simp
      have := mem_places hm
      rw [e, lastOf_snoc]; omega
    unfold colOf
    rw [if_neg hp, if_neg hp]
    by_cases h2 : a = s.size
    · rw [if_pos ⟨hp, by omega⟩, if_pos ⟨hl, h2, by omega⟩]; omega
    · rw [if_neg (by omega), if_neg (by omega)]; omega
theorem col_stop {s t : ByteArray} {b a x : Nat} {pre : List Nat} (hb : b ≤ s.size) (ht : t = s.extract b s.size) (hpre : pre ++ [x] <+: places t) (hp : pre ≠ []) (hx : ∀ x ∈ pre.tail, b + x ≤ a) (ha : a < b + x) :
    (colS s b a : Int) = colOf pre := by
  have hsz : t.size = s.size - b := by subst ht; simp [ByteArray.size_extract]
  obtain ⟨k, hv⟩ := vis_of_pre pre ((List.prefix_append _ _).trans hpre)
  obtain ⟨r, hr⟩ := hpre
  have hs := hv.split
  rw [← hr] at hs
  have hs2 : x :: r = placesAt t k := by simpa using hs
  have hkx : k = x := by
    by_cases hlt : k < t.size
    · rw [placesAt_step hlt] at hs2; injection hs2 with e _; exact e.symm
    · rw [placesAt_end hlt] at hs2; cases hs2
  subst hkx
  have hc := hv.count b a hx
  have h0 := cnt_suffix hb ht a 0
  rw [Nat.add_zero] at h0
  have h1 := cnt_suffix hb ht a k
  rw [cnt_zero (by omega)] at h1
  have hsp := hv.split
  unfold places at hsp
  unfold colS colOf
  rw [h0, hsp, List.countP_append, ← h1, Nat.add_zero, hc, if_neg hp, if_neg hp, if_neg (by omega)]
  simp
end Go.Proofs.YtdlppdoankeilaaDoor
