/- The walk of chapter 2's reference 'next': a sign. -/
import Derived.Test.YtdlppdoankeilaaLexW10
namespace Go.Proofs.Ytdlppdoankeilaa
set_option linter.unusedVariables false
set_option linter.unusedSimpArgs false
set_option linter.unnecessarySimpa false
open Go.RowKit
attribute [local go_sem] cell_alloc_add cell_set_add lt_more
def signsB : List ByteArray := [⟨#[61, 61, 61]⟩, ⟨#[33, 61, 61]⟩, ⟨#[62, 62, 62]⟩, ⟨#[43, 61]⟩, ⟨#[45, 61]⟩, ⟨#[42, 61]⟩, ⟨#[37, 61]⟩, ⟨#[61, 62]⟩, ⟨#[60, 61]⟩, ⟨#[62, 61]⟩, ⟨#[60, 60]⟩, ⟨#[62, 62]⟩, ⟨#[38, 38]⟩, ⟨#[124, 124]⟩, ⟨#[123]⟩, ⟨#[125]⟩, ⟨#[40]⟩, ⟨#[41]⟩, ⟨#[91]⟩, ⟨#[93]⟩, ⟨#[46]⟩, ⟨#[44]⟩, ⟨#[59]⟩, ⟨#[58]⟩, ⟨#[63]⟩, ⟨#[61]⟩, ⟨#[43]⟩, ⟨#[45]⟩, ⟨#[42]⟩, ⟨#[37]⟩, ⟨#[33]⟩, ⟨#[126]⟩, ⟨#[60]⟩, ⟨#[62]⟩, ⟨#[38]⟩, ⟨#[124]⟩, ⟨#[94]⟩]
def signsV : Array Value := #[.string ⟨#[61, 61, 61]⟩, .string ⟨#[33, 61, 61]⟩, .string ⟨#[62, 62, 62]⟩, .string ⟨#[43, 61]⟩, .string ⟨#[45, 61]⟩, .string ⟨#[42, 61]⟩, .string ⟨#[37, 61]⟩, .string ⟨#[61, 62]⟩, .string ⟨#[60, 61]⟩, .string ⟨#[62, 61]⟩, .string ⟨#[60, 60]⟩, .string ⟨#[62, 62]⟩, .string ⟨#[38, 38]⟩, .string ⟨#[124, 124]⟩, .string ⟨#[123]⟩, .string ⟨#[125]⟩, .string ⟨#[40]⟩, .string ⟨#[41]⟩, .string ⟨#[91]⟩, .string ⟨#[93]⟩, .string ⟨#[46]⟩, .string ⟨#[44]⟩, .string ⟨#[59]⟩, .string ⟨#[58]⟩, .string ⟨#[63]⟩, .string ⟨#[61]⟩, .string ⟨#[43]⟩, .string ⟨#[45]⟩, .string ⟨#[42]⟩, .string ⟨#[37]⟩, .string ⟨#[33]⟩, .string ⟨#[126]⟩, .string ⟨#[60]⟩, .string ⟨#[62]⟩, .string ⟨#[38]⟩, .string ⟨#[124]⟩, .string ⟨#[94]⟩]
theorem signs_at (k : Nat) (h : k < 37) : signsV[k]? = some (.string (signsB.getD k ⟨#[]⟩)) := by
  have e : signsV = (signsB.map Value.string).toArray := rfl
  have h2 : k < signsB.length := h
  rw [e]; simp [h2]
theorem signs_len (k : Nat) (h : k < 37) : 1 ≤ (signsB.getD k ⟨#[]⟩).size ∧ (signsB.getD k ⟨#[]⟩).size ≤ 3 := by
  have : ∀ k : Fin 37, 1 ≤ (signsB.getD k ⟨#[]⟩).size ∧ (signsB.getD k ⟨#[]⟩).size ≤ 3 := by decide
  exact this ⟨k, h⟩
/-- Does a sign stand here? -/
def standsB (s : ByteArray) (i : Nat) (x : ByteArray) : Prop := i + x.size ≤ s.size ∧ (s.extract i (i + x.size)).data.toList = x.data.toList
def noneTo (s : ByteArray) (i k : Nat) : Prop := ∀ j, j < k → ¬ standsB s i (signsB.getD j ⟨#[]⟩)
theorem noneTo_step {s : ByteArray} {i k : Nat} (h : noneTo s i k) (hn : ¬ standsB s i (signsB.getD k ⟨#[]⟩)) : noneTo s i (k + 1) := fun j hj => by
  by_cases c : j < k
  · exact h j c
  · obtain rfl : j = k := by omega
    exact hn
theorem three_in (l : List UInt8) : l ∈ signs3 ↔ ∃ j, j < 3 ∧ (signsB.getD j ⟨#[]⟩).data.toList = l := by
  constructor
  · intro h
    have : ∀ l ∈ signs3, ∃ j, j < 3 ∧ (signsB.getD j ⟨#[]⟩).data.toList = l := by decide
    exact this l h
  · rintro ⟨j, hj, rfl⟩
    have : ∀ j : Fin 3, (signsB.getD j ⟨#[]⟩).data.toList ∈ signs3 := by decide
    exact this ⟨j, hj⟩
theorem two_in (l : List UInt8) : l ∈ signs2 ↔ ∃ j, 3 ≤ j ∧ j < 14 ∧ (signsB.getD j ⟨#[]⟩).data.toList = l := by
  constructor
  · intro h
    have : ∀ l ∈ signs2, ∃ j, j < 14 ∧ 3 ≤ j ∧ (signsB.getD j ⟨#[]⟩).data.toList = l := by decide
    obtain ⟨j, a, b, c⟩ := this l h
    exact ⟨j, b, a, c⟩
  · rintro ⟨j, hj, hj2, rfl⟩
    have : ∀ j : Fin 14, 3 ≤ j.1 → (signsB.getD j ⟨#[]⟩).data.toList ∈ signs2 := by decide
    exact this ⟨j, hj2⟩ hj
theorem one_in (l : List UInt8) : l ∈ signs1 ↔ ∃ j, 14 ≤ j ∧ j < 37 ∧ (signsB.getD j ⟨#[]⟩).data.toList = l := by
  constructor
  · intro h
    have : ∀ l ∈ signs1, ∃ j, j < 37 ∧ 14 ≤ j ∧ (signsB.getD j ⟨#[]⟩).data.toList = l := by decide
    obtain ⟨j, a, b, c⟩ := this l h
    exact ⟨j, b, a, c⟩
  · rintro ⟨j, hj, hj2, rfl⟩
    have : ∀ j : Fin 37, 14 ≤ j.1 → (signsB.getD j ⟨#[]⟩).data.toList ∈ signs1 := by decide
    exact this ⟨j, hj2⟩ hj
theorem sizes (j : Nat) (hj : j < 37) : (signsB.getD j ⟨#[]⟩).size = if j < 3 then 3 else if j < 14 then 2 else 1 := by
  have : ∀ j : Fin 37, (signsB.getD j ⟨#[]⟩).size = if j.1 < 3 then 3 else if j.1 < 14 then 2 else 1 := by decide
  exact this ⟨j, hj⟩
theorem isSign3 (l : List UInt8) : isSign 3 l = decide (l ∈ signs3) := rfl
theorem isSign2 (l : List UInt8) : isSign 2 l = decide (l ∈ signs2) := rfl
theorem isSign1 (l : List UInt8) : isSign 1 l = decide (l ∈ signs1) := rfl
theorem no3 {s : ByteArray} {i k : Nat} (h : noneTo s i k) (hk : 3 ≤ k) : ¬ (i + 3 ≤ s.size ∧ isSign 3 (cut s i 3) = true) := by
  rintro ⟨h1, h2⟩
  rw [isSign3, decide_eq_true_eq, three_in] at h2
  obtain ⟨j, hj, e⟩ := h2
  have hz := sizes j (by omega)
  rw [if_pos hj] at hz
  exact h j (by omega) ⟨by rw [hz]; exact h1, by rw [hz, e]; rfl⟩
theorem no2 {s : ByteArray} {i k : Nat} (h : noneTo s i k) (hk : 14 ≤ k) : ¬ (i + 2 ≤ s.size ∧ isSign 2 (cut s i 2) = true) := by
  rintro ⟨h1, h2⟩
  rw [isSign2, decide_eq_true_eq, two_in] at h2
  obtain ⟨j, hj, hj2, e⟩ := h2
  have hz := sizes j (by omega)
  rw [if_neg (by omega), if_pos hj2] at hz
  exact h j (by omega) ⟨by rw [hz]; exact h1, by rw [hz, e]; rfl⟩
theorem no1 {s : ByteArray} {i k : Nat} (h : noneTo s i k) (hk : 37 ≤ k) : ¬ (i + 1 ≤ s.size ∧ isSign 1 (cut s i 1) = true) := by
  rintro ⟨h1, h2⟩
  rw [isSign1, decide_eq_true_eq, one_in] at h2
  obtain ⟨j, hj, hj2, e⟩ := h2
  have hz := sizes j (by omega)
  rw [if_neg (by omega), if_neg (by omega)] at hz
  exact h j (by omega) ⟨by rw [hz]; exact h1, by rw [hz, e]; rfl⟩
theorem sign_none {s : ByteArray} {i : Nat} (h : noneTo s i 37) : signAt s i = 0 := by
  unfold signAt; rw [if_neg (no3 h (by omega)), if_neg (no2 h (by omega)), if_neg (no1 h (by omega))]
theorem sign_hit {s : ByteArray} {i k : Nat} (hk : k < 37) (h : noneTo s i k) (hs : standsB s i (signsB.getD k ⟨#[]⟩)) : signAt s i = (signsB.getD k ⟨#[]⟩).size := by
  have hz := sizes k hk
  obtain ⟨h1, h2⟩ := hs
  unfold signAt
  by_cases c3 : k < 3
  · rw [if_pos c3] at hz
    rw [hz] at h1 h2 ⊢
    rw [if_pos ⟨h1, by rw [isSign3, decide_eq_true_eq, three_in]; exact ⟨k, c3, h2.symm⟩⟩]
  · rw [if_neg c3] at hz
    rw [if_neg (no3 h (by omega))]
    by_cases c2 : k < 14
    · rw [if_pos c2] at hz
      rw [hz] at h1 h2 ⊢
      rw [if_pos ⟨h1, by rw [isSign2, decide_eq_true_eq, two_in]; exact ⟨k, by omega, c2, h2.symm⟩⟩]
    · rw [if_neg c2] at hz
      rw [if_neg (no2 h (by omega))]
      rw [hz] at h1 h2 ⊢
      rw [if_pos ⟨h1, by rw [isSign1, decide_eq_true_eq, one_in]; exact ⟨k, by omega, hk, h2.symm⟩⟩]
theorem stands_eq {s : ByteArray} {i : Nat} {x : ByteArray} (h : standsB s i x) : s.extract i (i + x.size) = x := ByteArray.ext (Array.toList_inj.1 h.2)
set_option maxHeartbeats 1000000 in
theorem signs_any (w : World) : Calls Try.prog 48 #[] w fun e w' => e = .returned (.slice (some ⟨w.heap.size, 0, none⟩) 37 37) ∧ w' = w.alloc (.cells signsV 9) := by
  go_enter Try.func48, Try.ntmps48
  go_wp2
  go_ret
  exact ⟨rfl, rfl⟩
/-- What a sign leaves open. -/
def signH (holes : List Bool) (x : ByteArray) : List Bool := if x.data.toList = [123] then holes ++ [false] else if x.data.toList = [125] then holes.dropLast else holes
theorem one_byte {s : ByteArray} {i : Nat} {x : ByteArray} (h : standsB s i x) (b : UInt8) (hx : x.data.toList = [b]) : x.size = 1 ∧ bt s i = b.toNat := by
  have hz : x.size = 1 := by have : x.data.toList.length = 1 := by rw [hx]; rfl
                             simpa using this
  refine ⟨hz, ?_⟩
  obtain ⟨h1, h2⟩ := h
  rw [hz] at h1 h2
  have hb : bt (s.extract i (i + 1)) 0 = bt s i := by
    have := bt_extract (s := s) (lo := i) (hi := i + 1) (j := 0) (by omega) (by omega)
    simpa using this
  have hl : 0 < (s.extract i (i + 1)).size := by rw [ByteArray.size_extract]; omega
  rw [data_at hl] at hb
  have h3 : (s.extract i (i + 1)).data.toList = [b] := h2.trans hx
  have e : (s.extract i (i + 1)).data.toList[0]'(by rw [h3]; exact Nat.zero_lt_one) = b := by rw [List.getElem_of_eq h3]; rfl
  rw [← hb]
  exact congrArg UInt8.toNat e
theorem one_byte' {s : ByteArray} {i : Nat} {x : ByteArray} (h : standsB s i x) (hx : x.size = 1) : x.data.toList = [UInt8.ofNat (bt s i)] := by
  obtain ⟨h1, h2⟩ := h
  rw [hx] at h1 h2
  rw [← h2, extract_one (by omega)]
  rfl
theorem tok_sign {s : ByteArray} {i : Nat} {holes : List Bool} (hl : letterB (bt s i) = false) (hd : digitB (bt s i) = false) (h1 : ¬ (bt s i = 34 ∨ bt s i = 39)) (h2 : bt s i ≠ 96) (h3 : ¬ (bt s i = 125 ∧ holes.getLast? = some true)) :
    tokAt s i holes = if signAt s i = 0 then none else some (⟨9, s.extract i (i + signAt s i), i, i + signAt s i⟩, if signAt s i = 1 ∧ bt s i = 123 then holes ++ [false] else if signAt s i = 1 ∧ bt s i = 125 then holes.dropLast else holes) := by
  unfold tokAt
  rw [if_neg (by rw [hl]; decide), if_neg (by rw [hd]; decide), if_neg h1, if_neg h2, if_neg h3]
theorem tok_hit {s : ByteArray} {i k : Nat} {holes : List Bool} (hl : letterB (bt s i) = false) (hd : digitB (bt s i) = false) (h1 : ¬ (bt s i = 34 ∨ bt s i = 39)) (h2 : bt s i ≠ 96) (h3 : ¬ (bt s i = 125 ∧ holes.getLast? = some true))
    (hk : k < 37) (h : noneTo s i k) (hs : standsB s i (signsB.getD k ⟨#[]⟩)) :
    tokAt s i holes = some (⟨9, signsB.getD k ⟨#[]⟩, i, i + (signsB.getD k ⟨#[]⟩).size⟩, signH holes (signsB.getD k ⟨#[]⟩)) := by
  have hsz := signs_len k hk
  rw [tok_sign hl hd h1 h2 h3, sign_hit hk h hs, stands_eq hs, if_neg (by omega)]
  refine congrArg some (Prod.ext rfl ?_)
  show (if _ then _ else _) = signH _ _
  unfold signH
  generalize signsB.getD k ⟨#[]⟩ = x at *
  by_cases c1 : x.data.toList = [123]
  · have := one_byte hs 123 c1
    rw [if_pos c1, if_pos ⟨this.1, this.2⟩]
  · rw [if_neg c1, if_neg (by
      rintro ⟨a, b⟩
      have := one_byte' hs a
      rw [b] at this
      exact c1 this)]
    by_cases c2 : x.data.toList = [125]
    · have := one_byte hs 125 c2
      rw [if_pos c2, if_pos ⟨this.1, this.2⟩]
    · rw [if_neg c2, if_neg (by
        rintro ⟨a, b⟩
        have := one_byte' hs a
        rw [b] at this
        exact c2 this)]
end Go.Proofs.Ytdlppdoankeilaa
