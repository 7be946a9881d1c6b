/- Plain: a good text is its runes, one after the other. No program in sight. -/
import Derived.Test.YtkfpomkfgdkjdaaDoorUtf
import Derived.Lib.RuneBytes
namespace Go.Proofs.YtkfpomkfgdkjdaaDoor
set_option linter.unusedVariables false
set_option linter.unusedSimpArgs false
open Go.RowKit
set_option maxHeartbeats 2000000 in
theorem decodeN_enc (n b0 b1 b2 b3 : Nat) (h0 : b0 < 256) (h1 : b1 < 256) (h2 : b2 < 256) (h3 : b3 < 256) (hg : b0 < 128 ∨ 1 < (Lib.decodeN n b0 b1 b2 b3).2) :
    Lib.encodeRuneZ ((Lib.decodeN n b0 b1 b2 b3).1 : Int) = ([(b0 : Int), b1, b2, b3].take (Lib.decodeN n b0 b1 b2 b3).2) := by
  unfold Lib.decodeN at hg ⊢
  by_cases c1 : b0 < 128
  · rw [if_pos c1]
    rw [Lib.encodeRuneZ_one (by omega) (by simp only []; omega)]; rfl
  · rw [if_neg c1] at hg ⊢
    split
    · rename_i c
      rw [if_pos c] at hg
      split
      · rw [Lib.encodeRuneZ_two (by simp only []; omega) (by simp only []; omega)]
        simp only [List.take_succ_cons, List.take_zero, List.cons.injEq, and_true]
        omega
      · rename_i d; rw [if_neg d] at hg; simp at hg; omega
    · rename_i c
      rw [if_neg c] at hg
      split
      · rename_i c'
        rw [if_pos c'] at hg
        split
        · rw [Lib.encodeRuneZ_three (by simp only []; omega)]
          simp only [List.take_succ_cons, List.take_zero, List.cons.injEq, and_true]
          omega
        · rename_i d; rw [if_neg d] at hg; simp at hg; omega
      · rename_i c'
        rw [if_neg c'] at hg
        split
        · rename_i c''
          rw [if_pos c''] at hg
          split
          · rw [Lib.encodeRuneZ_four (by simp only []; omega) (by simp only []; omega)]
            simp only [List.take_succ_cons, List.take_zero, List.cons.injEq, and_true]
            omega
          · rename_i d; rw [if_neg d] at hg; simp at hg; omega
        · rename_i c''; rw [if_neg c''] at hg; simp at hg; omega
/-- A text's bytes, as numbers. -/
def bytesZ (s : ByteArray) : List Int := s.data.toList.map fun x => (x.toNat : Int)
theorem bytesZ_len (s : ByteArray) : (bytesZ s).length = s.size := by simp [bytesZ]
theorem bytesZ_inj {s t : ByteArray} (h : bytesZ s = bytesZ t) : s = t := by
  have h2 : s.data.toList = t.data.toList := List.map_inj_right (f := fun x : UInt8 => (x.toNat : Int)) (fun x y e => UInt8.toNat_inj.1 (Int.ofNat_inj.1 e)) |>.1 h
  exact ByteArray.ext (Array.toList_inj.1 h2)
theorem bytesZ_at {s : ByteArray} {i : Nat} (h : i < s.size) : (bytesZ s).drop i = (bt s i : Int) :: (bytesZ s).drop (i + 1) := by
  rw [List.drop_eq_getElem_cons (by rw [bytesZ_len]; exact h)]
  congr 1
  simp [bytesZ, bt, ByteArray.get!, h]
theorem bytesZ_rune {s : ByteArray} {i : Nat} (h : i < s.size) (hg : gd s i = true) : (bytesZ s).drop i = Lib.encodeRuneZ (rn s i : Int) ++ (bytesZ s).drop (i + wd s i) := by
  have hw := wd_bd h
  have e := decodeN_enc (s.size - i) (bt s i) (bt s (i + 1)) (bt s (i + 2)) (bt s (i + 3)) (bt_lt _ _) (bt_lt _ _) (bt_lt _ _) (bt_lt _ _) (by
    unfold gd wd at hg; rw [dec_eq] at hg; simpa using hg)
  rw [← dec_eq] at e
  change Lib.encodeRuneZ (rn s i : Int) = List.take (wd s i) _ at e
  rw [e]
  generalize wd s i = k at *
  rcases (by omega : k = 1 ∨ k = 2 ∨ k = 3 ∨ k = 4) with rfl | rfl | rfl | rfl
  · rw [bytesZ_at h]; rfl
  · rw [bytesZ_at h, bytesZ_at (show i + 1 < s.size by omega)]; rfl
  · rw [bytesZ_at h, bytesZ_at (show i + 1 < s.size by omega), bytesZ_at (show i + 1 + 1 < s.size by omega)]; rfl
  · rw [bytesZ_at h, bytesZ_at (show i + 1 < s.size by omega), bytesZ_at (show i + 1 + 1 < s.size by omega), bytesZ_at (show i + 1 + 1 + 1 < s.size by omega)]; rfl
/-- Is a text good all through? -/
def good (s : ByteArray) : Bool := (places s).all (gd s)
theorem bytesZ_places (s : ByteArray) : ∀ (n i : Nat), s.size - i ≤ n → i ≤ s.size → (placesAt s i).all (gd s) = true → (bytesZ s).drop i = (placesAt s i).flatMap fun p => Lib.encodeRuneZ (rn s p : Int)
  | 0, i, h, hi, _ => by
    rw [placesAt_end (by omega), List.drop_of_length_le (by rw [bytesZ_len]; omega)]; rfl
  | n + 1, i, h, hi, hg => by
    by_cases hlt : i < s.size
    · have hw := wd_bd hlt
      rw [placesAt_step hlt] at hg ⊢
      rw [List.all_cons, Bool.and_eq_true] at hg
      rw [bytesZ_rune hlt hg.1, List.flatMap_cons, bytesZ_places s n (i + wd s i) (by omega) hw.2.1 hg.2]
    · rw [placesAt_end hlt, List.drop_of_length_le (by rw [bytesZ_len]; omega)]; rfl
theorem good_bytes {s : ByteArray} (h : good s = true) : bytesZ s = (runesOf s).flatMap Lib.encodeRuneZ := by
  have := bytesZ_places s s.size 0 (by omega) (by omega) h
  rw [List.drop_zero] at this
  rw [this]
  unfold runesOf places
  rw [List.flatMap_map]
/-- Two good texts of the same runes are the same. -/
theorem good_inj {s t : ByteArray} (hs : good s = true) (ht : good t = true) (h : runesOf s = runesOf t) : s = t :=
  bytesZ_inj (by rw [good_bytes hs, good_bytes ht, h])
end Go.Proofs.YtkfpomkfgdkjdaaDoor
