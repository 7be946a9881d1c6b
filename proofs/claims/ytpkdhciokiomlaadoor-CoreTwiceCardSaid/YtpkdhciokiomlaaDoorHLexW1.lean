/- The walks of chapter 2's letters, digits, reserved words: program and reference. -/
import Derived.Test.YtpkdhciokiomlaaDoorHLex2
import Derived.Test.YtpkdhciokiomlaaDoorHBZ5
import Derived.Test.YtpkdhciokiomlaaDoorShelf
import Derived.Test.YtpkdhciokiomlaaDoorProg
import Derived.WalkKit
import Derived.WalkSpells
import Derived.WalkLawsBesides
import Derived.Outline
import Derived.LoopTactic
namespace Go.Proofs.YtpkdhciokiomlaaDoor
set_option linter.unusedVariables false
set_option linter.unusedSimpArgs false
set_option linter.unnecessarySimpa false
open Go.RowKit
/-- The library's MaxLen is laid. -/
def Mx (w : World) : Prop := ∃ m : Int, w.cell? ⟨0, 0, none⟩ = some (.int .i64 m)
theorem Mx.below {B : Nat} {w w' : World} (h : Mx w) (hb : Below B w w') (hB : 0 < B) : Mx w' := by
  obtain ⟨m, hm⟩ := h
  exact ⟨m, (hb.cell (p := ⟨0, 0, none⟩) hB).trans hm⟩
set_option maxHeartbeats 1000000 in
theorem Letter_any (c : Nat) (w : World) : Calls Tryd.prog 55 #[.int .u8 (c : Int)] w fun e w' => e = .returned (.bool (letterB c)) ∧ w' = w := by
  go_enter Tryd.func55, Tryd.ntmps55
  go_wp2
  all_goals go_ret
  all_goals (refine ⟨ret_bool ?_, rfl⟩; rw [Bool.eq_iff_iff]; simp [letterB] <;> omega)
set_option maxHeartbeats 1000000 in
theorem Digit_any (c : Nat) (w : World) : Calls Tryd.prog 53 #[.int .u8 (c : Int)] w fun e w' => e = .returned (.bool (digitB c)) ∧ w' = w := by
  go_enter Tryd.func53, Tryd.ntmps53
  go_wp2
  all_goals go_ret
  all_goals (refine ⟨ret_bool ?_, rfl⟩; rw [Bool.eq_iff_iff]; simp [digitB] <;> omega)
def wordsB : List ByteArray := [⟨#[98, 114, 101, 97, 107]⟩, ⟨#[99, 97, 116, 99, 104]⟩, ⟨#[99, 108, 97, 115, 115]⟩, ⟨#[99, 111, 110, 115, 116]⟩, ⟨#[99, 111, 110, 115, 116, 114, 117, 99, 116, 111, 114]⟩, ⟨#[99, 111, 110, 116, 105, 110, 117, 101]⟩, ⟨#[101, 108, 115, 101]⟩, ⟨#[101, 110, 117, 109]⟩, ⟨#[101, 120, 112, 111, 114, 116]⟩, ⟨#[101, 120, 116, 101, 110, 100, 115]⟩, ⟨#[102, 97, 108, 115, 101]⟩, ⟨#[102, 105, 110, 97, 108, 108, 121]⟩, ⟨#[102, 111, 114]⟩, ⟨#[102, 117, 110, 99, 116, 105, 111, 110]⟩, ⟨#[105, 102]⟩, ⟨#[105, 109, 112, 108, 101, 109, 101, 110, 116, 115]⟩, ⟨#[105, 110]⟩, ⟨#[105, 110, 116, 101, 114, 102, 97, 99, 101]⟩, ⟨#[108, 101, 116]⟩, ⟨#[110, 97, 109, 101, 115, 112, 97, 99, 101]⟩, ⟨#[110, 101, 119]⟩, ⟨#[110, 117, 108, 108]⟩, ⟨#[111, 102]⟩, ⟨#[112, 117, 98, 108, 105, 99]⟩, ⟨#[114, 101, 97, 100, 111, 110, 108, 121]⟩, ⟨#[114, 101, 116, 117, 114, 110]⟩, ⟨#[115, 117, 112, 101, 114]⟩, ⟨#[116, 104, 105, 115]⟩, ⟨#[116, 104, 114, 111, 119]⟩, ⟨#[116, 114, 117, 101]⟩, ⟨#[116, 114, 121]⟩, ⟨#[116, 121, 112, 101]⟩, ⟨#[116, 121, 112, 101, 111, 102]⟩, ⟨#[117, 110, 100, 101, 102, 105, 110, 101, 100]⟩, ⟨#[119, 104, 105, 108, 101]⟩, ⟨#[97, 115]⟩]
def wordsV : Array Value := #[.string ⟨#[98, 114, 101, 97, 107]⟩, .string ⟨#[99, 97, 116, 99, 104]⟩, .string ⟨#[99, 108, 97, 115, 115]⟩, .string ⟨#[99, 111, 110, 115, 116]⟩, .string ⟨#[99, 111, 110, 115, 116, 114, 117, 99, 116, 111, 114]⟩, .string ⟨#[99, 111, 110, 116, 105, 110, 117, 101]⟩, .string ⟨#[101, 108, 115, 101]⟩, .string ⟨#[101, 110, 117, 109]⟩, .string ⟨#[101, 120, 112, 111, 114, 116]⟩, .string ⟨#[101, 120, 116, 101, 110, 100, 115]⟩, .string ⟨#[102, 97, 108, 115, 101]⟩, .string ⟨#[102, 105, 110, 97, 108, 108, 121]⟩, .string ⟨#[102, 111, 114]⟩, .string ⟨#[102, 117, 110, 99, 116, 105, 111, 110]⟩, .string ⟨#[105, 102]⟩, .string ⟨#[105, 109, 112, 108, 101, 109, 101, 110, 116, 115]⟩, .string ⟨#[105, 110]⟩, .string ⟨#[105, 110, 116, 101, 114, 102, 97, 99, 101]⟩, .string ⟨#[108, 101, 116]⟩, .string ⟨#[110, 97, 109, 101, 115, 112, 97, 99, 101]⟩, .string ⟨#[110, 101, 119]⟩, .string ⟨#[110, 117, 108, 108]⟩, .string ⟨#[111, 102]⟩, .string ⟨#[112, 117, 98, 108, 105, 99]⟩, .string ⟨#[114, 101, 97, 100, 111, 110, 108, 121]⟩, .string ⟨#[114, 101, 116, 117, 114, 110]⟩, .string ⟨#[115, 117, 112, 101, 114]⟩, .string ⟨#[116, 104, 105, 115]⟩, .string ⟨#[116, 104, 114, 111, 119]⟩, .string ⟨#[116, 114, 117, 101]⟩, .string ⟨#[116, 114, 121]⟩, .string ⟨#[116, 121, 112, 101]⟩, .string ⟨#[116, 121, 112, 101, 111, 102]⟩, .string ⟨#[117, 110, 100, 101, 102, 105, 110, 101, 100]⟩, .string ⟨#[119, 104, 105, 108, 101]⟩, .string ⟨#[97, 115]⟩]
theorem words_len : wordsB.length = 36 := rfl
theorem words_at (k : Nat) (h : k < 36) : wordsV[k]? = some (.string (wordsB.getD k ⟨#[]⟩)) := by
  have e : wordsV = (wordsB.map Value.string).toArray := rfl
  have h2 : k < wordsB.length := h
  rw [e]; simp [h2]
theorem words_map : wordsB.map (fun b => b.data.toList) = wordsL := rfl
/-- Is a text among the first k words? -/
def resTo (l : List UInt8) (k : Nat) : Bool := decide (l ∈ wordsL.take k)
theorem resTo_step {l : List UInt8} {k : Nat} (hk : k < 36) (h : resTo l k = false) (hne : (wordsB.getD k ⟨#[]⟩).data.toList ≠ l) : resTo l (k + 1) = false := by
  unfold resTo at *
  rw [decide_eq_false_iff_not] at *
  have hw : k < wordsL.length := hk
  have hw2 : k < wordsB.length := hk
  have e : wordsL[k] = (wordsB.getD k ⟨#[]⟩).data.toList := by
    have e2 : wordsL = wordsB.map fun b => b.data.toList := words_map.symm
    simp only [e2, List.getElem_map]
    simp [hw2]
  rw [List.take_succ_eq_append_getElem hw, List.mem_append]
  rintro (h1 | h1)
  · exact h h1
  · rw [List.mem_singleton] at h1; exact hne (e.symm.trans h1.symm)
theorem res_hit {l : List UInt8} {k : Nat} (hk : k < 36) (he : (wordsB.getD k ⟨#[]⟩).data.toList = l) : reserved l = true := by
  unfold reserved
  rw [decide_eq_true_eq, ← words_map, ← he]
  have hw2 : k < wordsB.length := hk
  exact List.mem_map_of_mem (f := fun b : ByteArray => b.data.toList) (by simp [hw2])
theorem res_fin {l : List UInt8} (h : resTo l 36 = false) : reserved l = false := by
  unfold resTo at h
  unfold reserved
  rwa [List.take_of_length_le (by decide)] at h
theorem str_eq (s t : ByteArray) : (s.toList == t.toList) = decide (s.data.toList = t.data.toList) := by
  rw [ByteArray.toList_eq, ByteArray.toList_eq, Bool.eq_iff_iff]; simp
theorem res_text (s : ByteArray) (hl : ∀ x ∈ s.data.toList, x ≠ 32) : Lib.contains (⟨#[32, 98, 114, 101, 97, 107, 32, 99, 97, 116, 99, 104, 32, 99, 108, 97, 115, 115, 32, 99, 111, 110, 115, 116, 32, 99, 111, 110, 115, 116, 114, 117, 99, 116, 111, 114, 32, 99, 111, 110, 116, 105, 110, 117, 101, 32, 101, 108, 115, 101, 32, 101, 110, 117, 109, 32, 101, 120, 112, 111, 114, 116, 32, 101, 120, 116, 101, 110, 100, 115, 32, 102, 97, 108, 115, 101, 32, 102, 105, 110, 97, 108, 108, 121, 32, 102, 111, 114, 32, 102, 117, 110, 99, 116, 105, 111, 110, 32, 105, 102, 32, 105, 109, 112, 108, 101, 109, 101, 110, 116, 115, 32, 105, 110, 32, 105, 110, 116, 101, 114, 102, 97, 99, 101, 32, 108, 101, 116, 32, 110, 97, 109, 101, 115, 112, 97, 99, 101, 32, 110, 101, 119, 32, 110, 117, 108, 108, 32, 111, 102, 32, 112, 117, 98, 108, 105, 99, 32, 114, 101, 97, 100, 111, 110, 108, 121, 32, 114, 101, 116, 117, 114, 110, 32, 115, 117, 112, 101, 114, 32, 116, 104, 105, 115, 32, 116, 104, 114, 111, 119, 32, 116, 114, 117, 101, 32, 116, 114, 121, 32, 116, 121, 112, 101, 32, 116, 121, 112, 101, 111, 102, 32, 117, 110, 100, 101, 102, 105, 110, 101, 100, 32, 119, 104, 105, 108, 101, 32, 97, 115, 32]⟩ : ByteArray).data.toList ((⟨#[32]⟩ ++ s ++ ⟨#[32]⟩ : ByteArray)).data.toList = reserved s.data.toList := by
  have e1 : (⟨#[32, 98, 114, 101, 97, 107, 32, 99, 97, 116, 99, 104, 32, 99, 108, 97, 115, 115, 32, 99, 111, 110, 115, 116, 32, 99, 111, 110, 115, 116, 114, 117, 99, 116, 111, 114, 32, 99, 111, 110, 116, 105, 110, 117, 101, 32, 101, 108, 115, 101, 32, 101, 110, 117, 109, 32, 101, 120, 112, 111, 114, 116, 32, 101, 120, 116, 101, 110, 100, 115, 32, 102, 97, 108, 115, 101, 32, 102, 105, 110, 97, 108, 108, 121, 32, 102, 111, 114, 32, 102, 117, 110, 99, 116, 105, 111, 110, 32, 105, 102, 32, 105, 109, 112, 108, 101, 109, 101, 110, 116, 115, 32, 105, 110, 32, 105, 110, 116, 101, 114, 102, 97, 99, 101, 32, 108, 101, 116, 32, 110, 97, 109, 101, 115, 112, 97, 99, 101, 32, 110, 101, 119, 32, 110, 117, 108, 108, 32, 111, 102, 32, 112, 117, 98, 108, 105, 99, 32, 114, 101, 97, 100, 111, 110, 108, 121, 32, 114, 101, 116, 117, 114, 110, 32, 115, 117, 112, 101, 114, 32, 116, 104, 105, 115, 32, 116, 104, 114, 111, 119, 32, 116, 114, 117, 101, 32, 116, 114, 121, 32, 116, 121, 112, 101, 32, 116, 121, 112, 101, 111, 102, 32, 117, 110, 100, 101, 102, 105, 110, 101, 100, 32, 119, 104, 105, 108, 101, 32, 97, 115, 32]⟩ : ByteArray).data.toList = blanked wordsL := by decide +kernel
  have e2 : ((⟨#[32]⟩ ++ s ++ ⟨#[32]⟩ : ByteArray)).data.toList = 32 :: (s.data.toList ++ [32]) := by simp
  rw [e1, e2, reserved_eq _ hl]
set_option maxRecDepth 100000 in
set_option maxHeartbeats 1000000 in
theorem Reserved_any (s : ByteArray) (w : World) (hm : Mx w) (hz : s.size ≤ 4000000) (hl : ∀ x ∈ s.data.toList, x ≠ 32) : Calls Tryd.prog 54 #[.string s] w fun e w' => e = .returned (.bool (reserved s.data.toList)) ∧ w' = w := by
  obtain ⟨m, hm⟩ := hm
  have HT := Lib.hid (res_text s hl)
  clear hl
  go_enter Tryd.func54, Tryd.ntmps54
  go_wp2_with (go_at_call 51; (with_reducible refine (Tryd.strings_Contains ⟨#[32, 98, 114, 101, 97, 107, 32, 99, 97, 116, 99, 104, 32, 99, 108, 97, 115, 115, 32, 99, 111, 110, 115, 116, 32, 99, 111, 110, 115, 116, 114, 117, 99, 116, 111, 114, 32, 99, 111, 110, 116, 105, 110, 117, 101, 32, 101, 108, 115, 101, 32, 101, 110, 117, 109, 32, 101, 120, 112, 111, 114, 116, 32, 101, 120, 116, 101, 110, 100, 115, 32, 102, 97, 108, 115, 101, 32, 102, 105, 110, 97, 108, 108, 121, 32, 102, 111, 114, 32, 102, 117, 110, 99, 116, 105, 111, 110, 32, 105, 102, 32, 105, 109, 112, 108, 101, 109, 101, 110, 116, 115, 32, 105, 110, 32, 105, 110, 116, 101, 114, 102, 97, 99, 101, 32, 108, 101, 116, 32, 110, 97, 109, 101, 115, 112, 97, 99, 101, 32, 110, 101, 119, 32, 110, 117, 108, 108, 32, 111, 102, 32, 112, 117, 98, 108, 105, 99, 32, 114, 101, 97, 100, 111, 110, 108, 121, 32, 114, 101, 116, 117, 114, 110, 32, 115, 117, 112, 101, 114, 32, 116, 104, 105, 115, 32, 116, 104, 114, 111, 119, 32, 116, 114, 117, 101, 32, 116, 114, 121, 32, 116, 121, 112, 101, 32, 116, 121, 112, 101, 111, 102, 32, 117, 110, 100, 101, 102, 105, 110, 101, 100, 32, 119, 104, 105, 108, 101, 32, 97, 115, 32]⟩ _ m w (by decide) hm).mono ?_); rintro e w1 ⟨rfl, rfl⟩)
  go_ret
  exact ⟨ret_bool HT.out, rfl⟩
end Go.Proofs.YtpkdhciokiomlaaDoor
