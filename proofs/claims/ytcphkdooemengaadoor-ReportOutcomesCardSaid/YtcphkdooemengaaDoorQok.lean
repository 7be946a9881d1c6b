/- Plain: no byte within the quotes is a bare quote, a line's end or another control. No program in sight. -/
import Derived.Test.YtcphkdooemengaaDoorQuote
namespace Go.Proofs.YtcphkdooemengaaDoor
set_option linter.unusedVariables false
set_option linter.unusedSimpArgs false
set_option linter.unnecessarySimpa false
open Go.RowKit

/-- Each byte is plain, and a quote stands behind a backslash. -/
def OkL (l : List UInt8) : Prop := ∀ (i : Nat) (c : UInt8), l[i]? = some c → 32 ≤ c.toNat ∧ c.toNat ≠ 127 ∧ (c.toNat = 34 → 1 ≤ i ∧ l[i - 1]? = some 92)
theorem OkL.nil : OkL [] := fun i c h => by simp at h
theorem OkL.append {a b : List UInt8} (ha : OkL a) (hb : OkL b) : OkL (a ++ b) := fun i c h => by
  by_cases hi : i < a.length
  · rw [List.getElem?_append_left hi] at h
    obtain ⟨h1, h2, h3⟩ := ha i c h
    refine ⟨h1, h2, fun e => ?_⟩
    obtain ⟨h4, h5⟩ := h3 e
    exact ⟨h4, by rw [List.getElem?_append_left (by omega)]; exact h5⟩
  · rw [List.getElem?_append_right (by omega)] at h
    obtain ⟨h1, h2, h3⟩ := hb _ c h
    refine ⟨h1, h2, fun e => ?_⟩
    obtain ⟨h4, h5⟩ := h3 e
    refine ⟨by omega, ?_⟩
    rw [List.getElem?_append_right (by omega), show i - 1 - a.length = i - a.length - 1 by omega]; exact h5
def okb (l : List UInt8) : Bool := (List.range l.length).all fun i => match l[i]? with
  | some c => decide (32 ≤ c.toNat) && decide (c.toNat ≠ 127) && (decide (c.toNat ≠ 34) || (decide (1 ≤ i) && decide (l[i - 1]? = some 92)))
  | none => true
theorem OkL.of_okb {l : List UInt8} (h : okb l = true) : OkL l := fun i c hc => by
  have hi : i < l.length := (List.getElem?_eq_some_iff.1 hc).1
  have := List.all_eq_true.1 h i (by simpa using hi)
  rw [hc] at this
  simp at this
  obtain ⟨⟨h1, h2⟩, h3⟩ := this
  refine ⟨h1, h2, fun e => ?_⟩
  rcases h3 with h3 | h3
  · exact absurd e h3
  · exact h3
theorem OkL.of_all {l : List UInt8} (h : ∀ c ∈ l, 32 ≤ c.toNat ∧ c.toNat ≠ 127 ∧ c.toNat ≠ 34) : OkL l := fun i c hc => by
  obtain ⟨h1, h2, h3⟩ := h c (List.mem_of_getElem? hc)
  exact ⟨h1, h2, fun e => absurd e h3⟩
theorem qrune_ok {r : Nat} (h1 : r ≤ 1114111) (hs : r < 55296 ∨ 57343 < r) : OkL (qrune r) := by
  by_cases hsm : r < 128
  · have : ∀ x : Fin 128, okb (qrune x.1) = true := by decide +kernel
    exact OkL.of_okb (this ⟨r, hsm⟩)
  · rw [qrune_plain (by omega) (by omega) (by omega) (by omega)]
    refine OkL.of_all fun c hc => ?_
    unfold Lib.encodeRune at hc
    obtain ⟨x, hx, rfl⟩ := List.mem_map.1 hc
    have key : 128 ≤ x ∧ x < 256 → 32 ≤ x.toNat.toUInt8.toNat ∧ x.toNat.toUInt8.toNat ≠ 127 ∧ x.toNat.toUInt8.toNat ≠ 34 := fun h => by
      have e : x.toNat.toUInt8.toNat = x.toNat := by simp; omega
      omega
    apply key
    by_cases c2 : r < 2048
    · rw [Lib.encodeRuneZ_two (by omega) (by omega)] at hx; simp at hx; omega
    · by_cases c3 : r < 65536
      · rw [Lib.encodeRuneZ_three (by omega)] at hx; simp at hx; omega
      · rw [Lib.encodeRuneZ_four (by omega) (by omega)] at hx; simp at hx; omega
theorem qbody_ok (s : ByteArray) (l : List Nat) : OkL (qbody s l) := by
  induction l with
  | nil => exact OkL.nil
  | cons a l ih =>
    have e : qbody s (a :: l) = qrune (rn s a) ++ qbody s l := by simp [qbody]
    have hb := rn_bd s a
    rw [e]; exact (qrune_ok hb.1 (by omega)).append ih
theorem bt_list {s : ByteArray} {i : Nat} {c : UInt8} (h : s.data.toList[i]? = some c) : bt s i = c.toNat := by
  have hi : i < s.data.toList.length := (List.getElem?_eq_some_iff.1 h).1
  have hi' : i < s.size := by simpa using hi
  rw [data_at hi']
  have := (List.getElem?_eq_some_iff.1 h).2
  rw [this]
theorem quote_size (s : ByteArray) : (quoteB s).size = (qbody s (places s)).length + 2 := by unfold quoteB; simp [ByteArray.size]
theorem quote_first (s : ByteArray) : bt (quoteB s) 0 = 34 := bt_list (c := 34) (by unfold quoteB; simp)
theorem quote_last (s : ByteArray) : bt (quoteB s) ((quoteB s).size - 1) = 34 := by
  rw [quote_size]
  refine bt_list (c := 34) ?_
  unfold quoteB
  simp
theorem quote_ok (s : ByteArray) (i : Nat) (h1 : 1 ≤ i) (h2 : i + 1 < (quoteB s).size) : 32 ≤ bt (quoteB s) i ∧ bt (quoteB s) i ≠ 127 ∧ (bt (quoteB s) i = 34 → bt (quoteB s) (i - 1) = 92) := by
  rw [quote_size] at h2
  obtain ⟨c, hc⟩ : ∃ c, (qbody s (places s))[i - 1]? = some c := ⟨_, List.getElem?_eq_getElem (by omega)⟩
  obtain ⟨a1, a2, a3⟩ := qbody_ok s (places s) (i - 1) c hc
  have e : (quoteB s).data.toList[i]? = some c := by
    unfold quoteB
    simp only [List.cons_append]
    obtain ⟨j, rfl⟩ : ∃ j, i = j + 1 := ⟨i - 1, by omega⟩
    simp only [List.getElem?_cons_succ]
    rw [List.getElem?_append_left (by omega)]; exact hc
  rw [bt_list e]
  refine ⟨a1, a2, fun h => ?_⟩
  obtain ⟨b1, b2⟩ := a3 h
  refine bt_list (c := 92) ?_
  unfold quoteB
  simp only [List.cons_append]
  obtain ⟨j, rfl⟩ : ∃ j, i = j + 1 + 1 := ⟨i - 2, by omega⟩
  simp only [Nat.add_sub_cancel, List.getElem?_cons_succ] at b2 ⊢
  rw [List.getElem?_append_left (by omega)]; exact b2
end Go.Proofs.YtcphkdooemengaaDoor
