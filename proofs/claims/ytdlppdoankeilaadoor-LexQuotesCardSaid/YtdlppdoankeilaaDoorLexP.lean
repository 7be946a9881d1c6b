/- Plain: what chapter 2's tokens are, without the reference's walks (printed by gend.py). -/
import Derived.BigQuiet
import Derived.Deep.CutBlock
import Derived.Deep.DeepCutAuto
import Derived.Deep.QuietTactic
import Derived.Laws.Cover4
import Derived.LoopTactic
import Derived.Outline
import Derived.TacticsInMore
import Derived.WalkKit
import Derived.WalkLawsBesides
import Derived.WalkMore
import Derived.WalkSpells
import Derived.Test.YtdlppdoankeilaaDoorLex2
import Derived.Test.YtdlppdoankeilaaDoorCut
import Derived.Test.YtdlppdoankeilaaDoorOwn
import Derived.Test.YtdlppdoankeilaaDoorConv
import Derived.Test.YtdlppdoankeilaaDoorRow2
import Derived.Test.YtdlppdoankeilaaDoorShelf
import Derived.Test.YtdlppdoankeilaaDoorProg
namespace Go.Proofs.YtdlppdoankeilaaDoor
set_option linter.unusedVariables false
set_option linter.unusedSimpArgs false
set_option linter.unnecessarySimpa false
open Go.RowKit
/-- The library's MaxLen is laid. -/
def Mx (w : World) : Prop := ∃ m : Int, w.cell? ⟨1, 0, none⟩ = some (.int .i64 m)
theorem Mx.below {B : Nat} {w w' : World} (h : Mx w) (hb : Below B w w') (hB : 1 < B) : Mx w' := by
  obtain ⟨m, hm⟩ := h
  exact ⟨m, (hb.cell (p := ⟨1, 0, none⟩) hB).trans hm⟩
set_option maxHeartbeats 1000000 in
theorem Letter_any (c : Nat) (w : World) : Calls Tryd.prog 24 #[.int .u8 (c : Int)] w fun e w' => e = .returned (.bool (letterB c)) ∧ w' = w := by
  go_enter Tryd.func24, Tryd.ntmps24
  go_wp2
  all_goals go_ret
  all_goals (refine ⟨ret_bool ?_, rfl⟩; rw [Bool.eq_iff_iff]; simp [letterB] <;> omega)
set_option maxHeartbeats 1000000 in
theorem Digit_any (c : Nat) (w : World) : Calls Tryd.prog 26 #[.int .u8 (c : Int)] w fun e w' => e = .returned (.bool (digitB c)) ∧ w' = w := by
  go_enter Tryd.func26, Tryd.ntmps26
  go_wp2
  all_goals go_ret
  all_goals (refine ⟨ret_bool ?_, rfl⟩; rw [Bool.eq_iff_iff]; simp [digitB] <;> omega)
theorem Mx.lt {w : World} (h : Mx w) : 1 < w.heap.size := by
  obtain ⟨m, hm⟩ := h
  exact World.block_lt_of_cell? w ⟨1, 0, none⟩ hm
theorem Mx.keep {w w' : World} (h : Mx w) (hb : Below w.heap.size w w') : Mx w' := h.below hb h.lt
def wordsB : List ByteArray := [⟨#[98, 114, 101, 97, 107]⟩, ⟨#[99, 97, 116, 99, 104]⟩, ⟨#[99, 108, 97, 115, 115]⟩, ⟨#[99, 111, 110, 115, 116]⟩, ⟨#[99, 111, 110, 115, 116, 114, 117, 99, 116, 111, 114]⟩, ⟨#[99, 111, 110, 116, 105, 110, 117, 101]⟩, ⟨#[101, 108, 115, 101]⟩, ⟨#[101, 110, 117, 109]⟩, ⟨#[101, 120, 112, 111, 114, 116]⟩, ⟨#[101, 120, 116, 101, 110, 100, 115]⟩, ⟨#[102, 97, 108, 115, 101]⟩, ⟨#[102, 105, 110, 97, 108, 108, 121]⟩, ⟨#[102, 111, 114]⟩, ⟨#[102, 117, 110, 99, 116, 105, 111, 110]⟩, ⟨#[105, 102]⟩, ⟨#[105, 109, 112, 108, 101, 109, 101, 110, 116, 115]⟩, ⟨#[105, 110]⟩, ⟨#[105, 110, 116, 101, 114, 102, 97, 99, 101]⟩, ⟨#[108, 101, 116]⟩, ⟨#[110, 97, 109, 101, 115, 112, 97, 99, 101]⟩, ⟨#[110, 101, 119]⟩, ⟨#[110, 117, 108, 108]⟩, ⟨#[111, 102]⟩, ⟨#[112, 117, 98, 108, 105, 99]⟩, ⟨#[114, 101, 97, 100, 111, 110, 108, 121]⟩, ⟨#[114, 101, 116, 117, 114, 110]⟩, ⟨#[115, 117, 112, 101, 114]⟩, ⟨#[116, 104, 105, 115]⟩, ⟨#[116, 104, 114, 111, 119]⟩, ⟨#[116, 114, 117, 101]⟩, ⟨#[116, 114, 121]⟩, ⟨#[116, 121, 112, 101]⟩, ⟨#[116, 121, 112, 101, 111, 102]⟩, ⟨#[117, 110, 100, 101, 102, 105, 110, 101, 100]⟩, ⟨#[119, 104, 105, 108, 101]⟩, ⟨#[97, 115]⟩]
def wordsV : Array Value := #[.string ⟨#[98, 114, 101, 97, 107]⟩, .string ⟨#[99, 97, 116, 99, 104]⟩, .string ⟨#[99, 108, 97, 115, 115]⟩, .string ⟨#[99, 111, 110, 115, 116]⟩, .string ⟨#[99, 111, 110, 115, 116, 114, 117, 99, 116, 111, 114]⟩, .string ⟨#[99, 111, 110, 116, 105, 110, 117, 101]⟩, .string ⟨#[101, 108, 115, 101]⟩, .string ⟨#[101, 110, 117, 109]⟩, .string ⟨#[101, 120, 112, 111, 114, 116]⟩, .string ⟨#[101, 120, 116, 101, 110, 100, 115]⟩, .string ⟨#[102, 97, 108, 115, 101]⟩, .string ⟨#[102, 105, 110, 97, 108, 108, 121]⟩, .string ⟨#[102, 111, 114]⟩, .string ⟨#[102, 117, 110, 99, 116, 105, 111, 110]⟩, .string ⟨#[105, 102]⟩, .string ⟨#[105, 109, 112, 108, 101, 109, 101, 110, 116, 115]⟩, .string ⟨#[105, 110]⟩, .string ⟨#[105, 110, 116, 101, 114, 102, 97, 99, 101]⟩, .string ⟨#[108, 101, 116]⟩, .string ⟨#[110, 97, 109, 101, 115, 112, 97, 99, 101]⟩, .string ⟨#[110, 101, 119]⟩, .string ⟨#[110, 117, 108, 108]⟩, .string ⟨#[111, 102]⟩, .string ⟨#[112, 117, 98, 108, 105, 99]⟩, .string ⟨#[114, 101, 97, 100, 111, 110, 108, 121]⟩, .string ⟨#[114, 101, 116, 117, 114, 110]⟩, .string ⟨#[115, 117, 112, 101, 114]⟩, .string ⟨#[116, 104, 105, 115]⟩, .string ⟨#[116, 104, 114, 111, 119]⟩, .string ⟨#[116, 114, 117, 101]⟩, .string ⟨#[116, 114, 121]⟩, .string ⟨#[116, 121, 112, 101]⟩, .string ⟨#[116, 121, 112, 101, 111, 102]⟩, .string ⟨#[117, 110, 100, 101, 102, 105, 110, 101, 100]⟩, .string ⟨#[119, 104, 105, 108, 101]⟩, .string ⟨#[97, 115]⟩]
theorem words_len : wordsB.length = 36 := rfl
theorem words_at (k : Nat) (h : k < 36) : wordsV[k]? = some (.string (wordsB.getD k ⟨#[]⟩)) := by
  have e : wordsV = (wordsB.map Value.string).toArray := rfl
  have h2 : k < wordsB.length := h
  rw [e]; simp [h2]
theorem words_map : wordsB.map (fun b => b.data.toList) = wordsL := rfl
/-- Is a text among the first k words? -/
def resTo (l : List UInt8) (k : Nat) : Bool := decide (l ∈ wordsL.take k)
theorem resTo_step {l : List UInt8} {k : Nat} (hk : k < 36) (h : resTo l k = false) (hne : (wordsB.getD k ⟨#[]⟩).data.toList ≠ l) : resTo l (k + 1) = false := by
  unfold resTo at *
  rw [decide_eq_false_iff_not] at *
  have hw : k < wordsL.length := hk
  have hw2 : k < wordsB.length := hk
  have e : wordsL[k] = (wordsB.getD k ⟨#[]⟩).data.toList := by
    have e2 : wordsL = wordsB.map fun b => b.data.toList := words_map.symm
    simp only [e2, List.getElem_map]
    simp [hw2]
  rw [List.take_succ_eq_append_getElem hw, List.mem_append]
  rintro (h1 | h1)
  · exact h h1
  · rw [List.mem_singleton] at h1; exact hne (e.symm.trans h1.symm)
theorem res_hit {l : List UInt8} {k : Nat} (hk : k < 36) (he : (wordsB.getD k ⟨#[]⟩).data.toList = l) : reserved l = true := by
  unfold reserved
  rw [decide_eq_true_eq, ← words_map, ← he]
  have hw2 : k < wordsB.length := hk
  exact List.mem_map_of_mem (f := fun b : ByteArray => b.data.toList) (by simp [hw2])
theorem res_fin {l : List UInt8} (h : resTo l 36 = false) : reserved l = false := by
  unfold resTo at h
  unfold reserved
  rwa [List.take_of_length_le (by decide)] at h
theorem str_eq (s t : ByteArray) : (s.toList == t.toList) = decide (s.data.toList = t.data.toList) := by
  rw [ByteArray.toList_eq, ByteArray.toList_eq, Bool.eq_iff_iff]; simp
theorem res_text (s : ByteArray) (hl : ∀ x ∈ s.data.toList, x ≠ 32) : Lib.contains (⟨#[32, 98, 114, 101, 97, 107, 32, 99, 97, 116, 99, 104, 32, 99, 108, 97, 115, 115, 32, 99, 111, 110, 115, 116, 32, 99, 111, 110, 115, 116, 114, 117, 99, 116, 111, 114, 32, 99, 111, 110, 116, 105, 110, 117, 101, 32, 101, 108, 115, 101, 32, 101, 110, 117, 109, 32, 101, 120, 112, 111, 114, 116, 32, 101, 120, 116, 101, 110, 100, 115, 32, 102, 97, 108, 115, 101, 32, 102, 105, 110, 97, 108, 108, 121, 32, 102, 111, 114, 32, 102, 117, 110, 99, 116, 105, 111, 110, 32, 105, 102, 32, 105, 109, 112, 108, 101, 109, 101, 110, 116, 115, 32, 105, 110, 32, 105, 110, 116, 101, 114, 102, 97, 99, 101, 32, 108, 101, 116, 32, 110, 97, 109, 101, 115, 112, 97, 99, 101, 32, 110, 101, 119, 32, 110, 117, 108, 108, 32, 111, 102, 32, 112, 117, 98, 108, 105, 99, 32, 114, 101, 97, 100, 111, 110, 108, 121, 32, 114, 101, 116, 117, 114, 110, 32, 115, 117, 112, 101, 114, 32, 116, 104, 105, 115, 32, 116, 104, 114, 111, 119, 32, 116, 114, 117, 101, 32, 116, 114, 121, 32, 116, 121, 112, 101, 32, 116, 121, 112, 101, 111, 102, 32, 117, 110, 100, 101, 102, 105, 110, 101, 100, 32, 119, 104, 105, 108, 101, 32, 97, 115, 32]⟩ : ByteArray).data.toList ((⟨#[32]⟩ ++ s ++ ⟨#[32]⟩ : ByteArray)).data.toList = reserved s.data.toList := by
  have e1 : (⟨#[32, 98, 114, 101, 97, 107, 32, 99, 97, 116, 99, 104, 32, 99, 108, 97, 115, 115, 32, 99, 111, 110, 115, 116, 32, 99, 111, 110, 115, 116, 114, 117, 99, 116, 111, 114, 32, 99, 111, 110, 116, 105, 110, 117, 101, 32, 101, 108, 115, 101, 32, 101, 110, 117, 109, 32, 101, 120, 112, 111, 114, 116, 32, 101, 120, 116, 101, 110, 100, 115, 32, 102, 97, 108, 115, 101, 32, 102, 105, 110, 97, 108, 108, 121, 32, 102, 111, 114, 32, 102, 117, 110, 99, 116, 105, 111, 110, 32, 105, 102, 32, 105, 109, 112, 108, 101, 109, 101, 110, 116, 115, 32, 105, 110, 32, 105, 110, 116, 101, 114, 102, 97, 99, 101, 32, 108, 101, 116, 32, 110, 97, 109, 101, 115, 112, 97, 99, 101, 32, 110, 101, 119, 32, 110, 117, 108, 108, 32, 111, 102, 32, 112, 117, 98, 108, 105, 99, 32, 114, 101, 97, 100, 111, 110, 108, 121, 32, 114, 101, 116, 117, 114, 110, 32, 115, 117, 112, 101, 114, 32, 116, 104, 105, 115, 32, 116, 104, 114, 111, 119, 32, 116, 114, 117, 101, 32, 116, 114, 121, 32, 116, 121, 112, 101, 32, 116, 121, 112, 101, 111, 102, 32, 117, 110, 100, 101, 102, 105, 110, 101, 100, 32, 119, 104, 105, 108, 101, 32, 97, 115, 32]⟩ : ByteArray).data.toList = blanked wordsL := by decide +kernel
  have e2 : ((⟨#[32]⟩ ++ s ++ ⟨#[32]⟩ : ByteArray)).data.toList = 32 :: (s.data.toList ++ [32]) := by simp
  rw [e1, e2, reserved_eq _ hl]
set_option maxRecDepth 100000 in
set_option maxHeartbeats 1000000 in
theorem Reserved_any (s : ByteArray) (w : World) (hm : Mx w) (hz : s.size ≤ 4000000) (hl : ∀ x ∈ s.data.toList, x ≠ 32) : Calls Tryd.prog 43 #[.string s] w fun e w' => e = .returned (.bool (reserved s.data.toList)) ∧ w' = w := by
  obtain ⟨m, hm⟩ := hm
  have HT := Lib.hid (res_text s hl)
  clear hl
  go_enter Tryd.func43, Tryd.ntmps43
  go_wp2_with (go_at_call 46; (with_reducible refine (Tryd.strings_Contains ⟨#[32, 98, 114, 101, 97, 107, 32, 99, 97, 116, 99, 104, 32, 99, 108, 97, 115, 115, 32, 99, 111, 110, 115, 116, 32, 99, 111, 110, 115, 116, 114, 117, 99, 116, 111, 114, 32, 99, 111, 110, 116, 105, 110, 117, 101, 32, 101, 108, 115, 101, 32, 101, 110, 117, 109, 32, 101, 120, 112, 111, 114, 116, 32, 101, 120, 116, 101, 110, 100, 115, 32, 102, 97, 108, 115, 101, 32, 102, 105, 110, 97, 108, 108, 121, 32, 102, 111, 114, 32, 102, 117, 110, 99, 116, 105, 111, 110, 32, 105, 102, 32, 105, 109, 112, 108, 101, 109, 101, 110, 116, 115, 32, 105, 110, 32, 105, 110, 116, 101, 114, 102, 97, 99, 101, 32, 108, 101, 116, 32, 110, 97, 109, 101, 115, 112, 97, 99, 101, 32, 110, 101, 119, 32, 110, 117, 108, 108, 32, 111, 102, 32, 112, 117, 98, 108, 105, 99, 32, 114, 101, 97, 100, 111, 110, 108, 121, 32, 114, 101, 116, 117, 114, 110, 32, 115, 117, 112, 101, 114, 32, 116, 104, 105, 115, 32, 116, 104, 114, 111, 119, 32, 116, 114, 117, 101, 32, 116, 114, 121, 32, 116, 121, 112, 101, 32, 116, 121, 112, 101, 111, 102, 32, 117, 110, 100, 101, 102, 105, 110, 101, 100, 32, 119, 104, 105, 108, 101, 32, 97, 115, 32]⟩ _ m w (by decide) hm).mono ?_); rintro e w1 ⟨rfl, rfl⟩)
  go_ret
  exact ⟨ret_bool HT.out, rfl⟩
attribute [local go_sem] cell_alloc_add cell_set_add lt_more
theorem ret_ib {a b : Int} {x y : Bool} (h : a = b) (h' : x = y) : Ending.returned (.tuple #[.int .i64 a, .bool x]) = .returned (.tuple #[.int .i64 b, .bool y]) := by rw [h, h']
theorem blank_or {c : Nat} (h : blankB c = true) : c = 9 ∨ c = 10 ∨ c = 13 ∨ c = 32 := by simp [blankB] at h; omega
theorem blank_no {c : Nat} (h : blankB c = false) : c ≠ 9 ∧ c ≠ 10 ∧ c ≠ 13 ∧ c ≠ 32 := by simp [blankB] at h; omega
theorem cell_succ {w : World} {a : Addr} {k : Nat} {v : Option Value} (h : w.cell? (a.add (k + 1)) = v) : w.cell? ⟨a.block, a.off + (k + 1), none⟩ = v := by rwa [Addr.add_succ'] at h
attribute [local go_sem] cell_alloc_add cell_set_add lt_more
/-- An escape's answer, whatever it is. -/
def escR (s : ByteArray) (i : Nat) : ByteArray × Nat × Bool := match esc s i with
  | some p => (p.1, p.2, true)
  | none => (⟨#[]⟩, i, false)
theorem escR_some {s : ByteArray} {i : Nat} {t : ByteArray} {n : Nat} (h : esc s i = some (t, n)) : escR s i = (t, n, true) := by unfold escR; rw [h]
theorem escR_none {s : ByteArray} {i : Nat} (h : esc s i = none) : escR s i = (⟨#[]⟩, i, false) := by unfold escR; rw [h]
theorem ret_sib {a b : ByteArray} {c d : Int} {x y : Bool} (h : a = b) (h' : c = d) (h'' : x = y) : Ending.returned (.tuple #[.string a, .int .i64 c, .bool x]) = .returned (.tuple #[.string b, .int .i64 d, .bool y]) := by rw [h, h', h'']
theorem extract_one {s : ByteArray} {i : Nat} (h : i < s.size) : s.extract i (i + 1) = one1 (bt s i) := by
  apply ByteArray.ext
  have h1 : (s.extract i (i + 1)).size = 1 := by rw [ByteArray.size_extract]; omega
  apply Array.ext
  · show (s.extract i (i + 1)).size = _; rw [h1]; rfl
  · intro j hj _
    have hj1 : j < 1 := by rw [← h1]; exact hj
    have : j = 0 := by omega
    subst this
    have e : bt (s.extract i (i + 1)) 0 = bt s i := by
      have := bt_extract (s := s) (lo := i) (hi := i + 1) (j := 0) (by omega) (by omega)
      simpa using this
    rw [data_at (show 0 < (s.extract i (i + 1)).size by omega)] at e
    apply UInt8.toNat_inj.1
    simp only [one1, List.getElem_toArray, List.getElem_cons_zero]
    rw [← e, UInt8.ofNat_toNat]
    rfl
def pw : Nat → Int
  | 0 => 1
  | n + 1 => 16 * pw n
theorem pw_bd {m : Nat} (h : m ≤ 6) : pw m ≤ 16777216 := by
  rcases (by omega : m = 0 ∨ m = 1 ∨ m = 2 ∨ m = 3 ∨ m = 4 ∨ m = 5 ∨ m = 6) with rfl | rfl | rfl | rfl | rfl | rfl | rfl <;> decide
theorem hex_no (s : ByteArray) (i : Nat) : ¬ (i + 2 < s.size ∧ bt s (i + 2) = 123 ∧ hexEnd s (i + 3) (i + 9) ≠ i + 3 ∧ hexEnd s (i + 3) (i + 9) < s.size ∧ bt s (hexEnd s (i + 3) (i + 9)) = 125 ∧ hexVal s (i + 3) (i + 9) 0 ≤ 1114111 ∧ ¬ (55296 ≤ hexVal s (i + 3) (i + 9) 0 ∧ hexVal s (i + 3) (i + 9) 0 ≤ 57343)) → hexOk s i = false := by
  intro h
  unfold hexOk
  rw [Bool.eq_false_iff]
  intro h2
  apply h
  simp at h2
  omega
theorem hex_yes (s : ByteArray) (i : Nat) : (i + 2 < s.size ∧ bt s (i + 2) = 123 ∧ hexEnd s (i + 3) (i + 9) ≠ i + 3 ∧ hexEnd s (i + 3) (i + 9) < s.size ∧ bt s (hexEnd s (i + 3) (i + 9)) = 125 ∧ hexVal s (i + 3) (i + 9) 0 ≤ 1114111 ∧ ¬ (55296 ≤ hexVal s (i + 3) (i + 9) 0 ∧ hexVal s (i + 3) (i + 9) 0 ≤ 57343)) → hexOk s i = true := by
  intro h
  unfold hexOk
  simp
  omega
attribute [local go_sem] cell_alloc_add cell_set_add lt_more
attribute [local go_sem] cell_alloc_add cell_set_add lt_more
/-- A token's cells. -/
def tokA (t : Tok) : Array Value := #[.int .i64 t.kind, .string t.text, .int .i64 (t.lo : Int), .int .i64 (t.hi : Int)]
theorem one_esc {s : ByteArray} {j : Nat} (h : bt s j = 92) : one s j = esc s j := if_pos h
theorem one_rune {s : ByteArray} {j : Nat} (h : bt s j ≠ 92) : one s j = some (Utf8.encode (rn s j : Int), j + wd s j) := if_neg h
theorem esc_of {s : ByteArray} {j : Nat} {t : ByteArray} {n : Nat} {ok : Bool} (h : escR s j = (t, n, ok)) : esc s j = if ok = true then some (t, n) else none := by
  unfold escR at h
  cases he : esc s j with
  | none => rw [he] at h; injection h with _ h; injection h with _ h; subst h; rfl
  | some p => rw [he] at h; injection h with h1 h; injection h with h2 h; subst h1 h2 h; rfl
theorem one1_size (c : Nat) : (one1 c).size = 1 := rfl
theorem esc_len {s : ByteArray} {i : Nat} {p : ByteArray × Nat} (h : esc s i = some p) : p.1.size ≤ 4 := by
  have h1 : ∀ c n, p = (one1 c, n) → p.1.size ≤ 4 := fun c n e => by rw [e]; exact (show (1 : Nat) ≤ 4 by decide)
  have h2 : ∀ c n, p = (Utf8.encode c, n) → p.1.size ≤ 4 := fun c n e => by rw [e]; exact encode_size_le _
  unfold esc at h
  split at h
  · split at h
    · exact h1 _ _ (Option.some.inj h).symm
    · split at h
      · exact h1 _ _ (Option.some.inj h).symm
      · split at h
        · exact h1 _ _ (Option.some.inj h).symm
        · split at h
          · exact h1 _ _ (Option.some.inj h).symm
          · split at h
            · exact h1 _ _ (Option.some.inj h).symm
            · split at h
              · split at h
                · exact h2 _ _ (Option.some.inj h).symm
                · cases h
              · cases h
  · cases h
theorem one_len {s : ByteArray} {i : Nat} {t : ByteArray} {j : Nat} (h : one s i = some (t, j)) : t.size ≤ 4 := by
  unfold one at h
  split at h
  · exact esc_len h
  · injection h with h; injection h with h _; rw [← h]; exact encode_size_le _
/-- What quoted answers. -/
def QPost (s : ByteArray) (i : Nat) (e : Ending) : Prop := ∃ (t : Tok) (ok : Bool), e = .returned (.tuple #[.agg (tokA t), .bool ok]) ∧ (match quotedOf s i with
  | some p => ok = true ∧ t = ⟨4, p.1, i, p.2⟩
  | none => ok = false)
theorem QPost.yes {s : ByteArray} {i : Nat} {t : ByteArray} {n : Nat} (h : quotedOf s i = some (t, n)) : QPost s i (.returned (.tuple #[.agg (tokA ⟨4, t, i, n⟩), .bool true])) := ⟨_, _, rfl, by rw [h]; exact ⟨rfl, rfl⟩⟩
theorem QPost.no {s : ByteArray} {i : Nat} {t : Tok} (h : quotedOf s i = none) : QPost s i (.returned (.tuple #[.agg (tokA t), .bool false])) := ⟨_, _, rfl, by rw [h]⟩
attribute [local go_sem] cell_alloc_add cell_set_add lt_more
theorem app_len {acc : ByteArray} {r : Int} {j d : Nat} (h : acc.size ≤ 4 * j) (hd : 1 ≤ d) : (acc ++ Utf8.encode r).size ≤ 4 * (j + d) := by
  have := encode_size_le r
  rw [ByteArray.size_append]; omega
/-- What piece answers. -/
def PPost (s : ByteArray) (i : Nat) (e : Ending) : Prop := ∃ (t : Tok) (m ok : Bool), e = .returned (.tuple #[.agg (tokA t), .bool m, .bool ok]) ∧ (match pieceOf s i with
  | some p => ok = true ∧ m = p.2.2 ∧ t = ⟨0, p.1, i, p.2.1⟩
  | none => ok = false ∧ m = false)
theorem PPost.yes {s : ByteArray} {i : Nat} {t : ByteArray} {n : Nat} {m : Bool} (h : pieceOf s i = some (t, n, m)) : PPost s i (.returned (.tuple #[.agg (tokA ⟨0, t, i, n⟩), .bool m, .bool true])) := ⟨_, _, _, rfl, by rw [h]; exact ⟨rfl, rfl, rfl⟩⟩
theorem PPost.no {s : ByteArray} {i : Nat} {t : Tok} (h : pieceOf s i = none) : PPost s i (.returned (.tuple #[.agg (tokA t), .bool false, .bool false])) := ⟨_, _, _, rfl, by rw [h]; exact ⟨rfl, rfl⟩⟩
attribute [local go_sem] cell_alloc_add cell_set_add lt_more
def numTok (s : ByteArray) (i : Nat) : Tok := if numOk s i = true then ⟨3, s.extract i (digEnd s i), i, digEnd s i⟩ else ⟨0, ⟨#[]⟩, 0, 0⟩
theorem numTok_yes {s : ByteArray} {i : Nat} (h : numOk s i = true) : numTok s i = ⟨3, s.extract i (digEnd s i), i, digEnd s i⟩ := if_pos h
theorem numTok_no {s : ByteArray} {i : Nat} (h : numOk s i = false) : numTok s i = ⟨0, ⟨#[]⟩, 0, 0⟩ := if_neg (by rw [h]; decide)
theorem num_no {s : ByteArray} {i : Nat} (h : 9007199254740991 < digVal s i 0 ∨ (bt s i = 48 ∧ i + 1 < digEnd s i) ∨ (digEnd s i < s.size ∧ letterB (bt s (digEnd s i)) = true)) : numOk s i = false := by
  unfold numOk
  rcases h with h | h | h
  · rw [decide_eq_false (by omega)]; rfl
  · rw [decide_eq_true h.1, decide_eq_true h.2]; simp
  · rw [decide_eq_true h.1, h.2]; simp
theorem num_yes {s : ByteArray} {i : Nat} (h1 : digVal s i 0 ≤ 9007199254740991) (h2 : ¬ (bt s i = 48 ∧ i + 1 < digEnd s i)) (h3 : ¬ (digEnd s i < s.size ∧ letterB (bt s (digEnd s i)) = true)) : numOk s i = true := by
  unfold numOk
  rw [decide_eq_true h1]
  simp
  refine ⟨by omega, ?_⟩
  by_cases hc : digEnd s i < s.size
  · right
    cases hl : letterB (bt s (digEnd s i)) with
    | false => rfl
    | true => exact absurd ⟨hc, hl⟩ h3
  · left; omega
def capV (f : Bool) (x : Nat) : Nat := if f = true then x else 9007199254740992
theorem digVal_step {s : ByteArray} {j x : Nat} (hj : j < s.size) (hd : digitB (bt s j) = true) (hx : x ≤ 9007199254740991) : digVal s j (capV true x) = digVal s (j + 1) (capV (decide (x * 10 + (bt s j - 48) ≤ 9007199254740991)) (x * 10 + (bt s j - 48))) := by
  rw [digVal_go hj hd]
  unfold capV
  by_cases h : x * 10 + (bt s j - 48) ≤ 9007199254740991
  · rw [decide_eq_true h, if_pos rfl, if_pos rfl, Nat.min_eq_left (by omega)]
  · rw [decide_eq_false h, if_pos rfl, if_neg (by decide), Nat.min_eq_right (by omega)]
theorem digVal_stay {s : ByteArray} {j x : Nat} (hj : j < s.size) (hd : digitB (bt s j) = true) : digVal s j (capV false x) = digVal s (j + 1) (capV false x) := by
  rw [digVal_go hj hd]
  unfold capV
  rw [if_neg (by decide), Nat.min_eq_right (by omega)]
theorem digVal_fin {s : ByteArray} {j x : Nat} {f : Bool} (hs : ¬ (j < s.size ∧ digitB (bt s j) = true)) (hx : f = true → x ≤ 9007199254740991) : decide (digVal s j (capV f x) ≤ 9007199254740991) = f := by
  rw [digVal_stop hs]
  unfold capV
  cases f
  · rw [if_neg (by decide)]; decide
  · rw [if_pos rfl]; exact decide_eq_true (hx rfl)
attribute [local go_sem] cell_alloc_add cell_set_add lt_more
/-- The brackets that are open, as a slice holds them. -/
def holeC (hs : List Bool) (j : Nat) : Value := .bool (hs.getD j false)
/-- The block of a slice of bools is one of bools. -/
def BoolAt (w : World) (A : Option Addr) (n : Nat) : Prop := 0 < n → ∀ ad, A = some ad → ∃ cs fr, w.heap[ad.block]? = some (.cells cs 4 fr)
def HR (w : World) (B : Nat) (A : Option Addr) (n : Nat) (hs : List Bool) : Prop := Rd w B A n (holeC hs) ∧ BoolAt w A n
theorem HR.later {w w' : World} {B n : Nat} {A : Option Addr} {hs : List Bool} (h : HR w B A n hs) (hb : Below B w w') (hB : B ≤ w'.heap.size) : HR w' w'.heap.size A n hs :=
  ⟨(h.1.below hb).more hB, fun hn ad e => by
    obtain ⟨ad2, e2, hl, _⟩ := h.1 0 hn
    obtain rfl : ad = ad2 := by rw [e] at e2; injection e2
    obtain ⟨cs, fr, hc⟩ := h.2 hn ad e
    exact ⟨cs, fr, (hb.block _ hl).trans hc⟩⟩
theorem HR.part_congr {w : World} {B n m : Nat} {A : Option Addr} {hs hs' : List Bool} (h : HR w B A n hs) (hm : m ≤ n) (he : ∀ j, j < m → holeC hs j = holeC hs' j) : HR w B A m hs' :=
  ⟨(h.1.part hm).congr he, fun hn => h.2 (by omega)⟩
theorem HR.none_ {w : World} {B : Nat} {A : Option Addr} {hs : List Bool} : HR w B A 0 hs := ⟨Rd.none_, fun h => absurd h (by omega)⟩
/-- What next answers. -/
def NPost (s : ByteArray) (i : Nat) (holes : List Bool) (e : Ending) (w' : World) : Prop := ∃ (t : Tok) (A' : Option Addr) (n' c' : Nat) (ok : Bool), e = .returned (.tuple #[.agg (tokA t), .slice A' n' c', .bool ok]) ∧ n' ≤ c' ∧
  (match tokAt s i holes with
  | some p => ok = true ∧ t = p.1 ∧ n' = p.2.length ∧ HR w' w'.heap.size A' n' p.2
  | none => ok = false)
theorem NPost.yes {s : ByteArray} {i : Nat} {holes : List Bool} {w' : World} {t : Tok} {hs : List Bool} (h : tokAt s i holes = some (t, hs)) {A' : Option Addr} {n' c' : Nat} (hn : n' = hs.length) (hc : n' ≤ c') (hr : HR w' w'.heap.size A' n' hs) :
    NPost s i holes (.returned (.tuple #[.agg (tokA t), .slice A' n' c', .bool true])) w' := ⟨_, _, _, _, _, rfl, hc, by rw [h]; exact ⟨rfl, rfl, hn, hr⟩⟩
theorem NPost.no {s : ByteArray} {i : Nat} {holes : List Bool} {w' : World} {t : Tok} (h : tokAt s i holes = none) {A' : Option Addr} {n' c' : Nat} (hc : n' ≤ c') : NPost s i holes (.returned (.tuple #[.agg (tokA t), .slice A' n' c', .bool false])) w' :=
  ⟨_, _, _, _, _, rfl, hc, by rw [h]⟩
theorem tok_word {s : ByteArray} {i : Nat} {holes : List Bool} (h : letterB (bt s i) = true) : tokAt s i holes = some (⟨if reserved (s.extract i (wordEnd s i)).data.toList = true then 2 else 1, s.extract i (wordEnd s i), i, wordEnd s i⟩, holes) := by
  unfold tokAt; rw [if_pos h]
attribute [local go_sem] cell_alloc_add cell_set_add lt_more
theorem tok_num {s : ByteArray} {i : Nat} {holes : List Bool} (h0 : letterB (bt s i) = false) (h : digitB (bt s i) = true) : tokAt s i holes = if numOk s i = true then some (⟨3, s.extract i (digEnd s i), i, digEnd s i⟩, holes) else none := by
  unfold tokAt; rw [if_neg (by rw [h0]; decide), if_pos h]
theorem tok_str {s : ByteArray} {i : Nat} {holes : List Bool} (h0 : letterB (bt s i) = false) (h : digitB (bt s i) = false) (hq : bt s i = 34 ∨ bt s i = 39) : tokAt s i holes = (quotedOf s i).map fun p => (⟨4, p.1, i, p.2⟩, holes) := by
  unfold tokAt; rw [if_neg (by rw [h0]; decide), if_neg (by rw [h]; decide), if_pos hq]
attribute [local go_sem] cell_alloc_add cell_set_add lt_more
theorem infoBool : (Tryd.prog.info? 4).map (fun i => (i.zero, i.size, i.bytes)) = some (some (.bool false), 1, 1) := by kernel_rfl
theorem holeC_one (hs : List Bool) (j : Nat) : (holeC hs j).oneCell' = true := rfl
theorem HR.of_own {w : World} {base n c : Nat} {A : Option Addr} {xs : List Value} {hs : List Bool} (h : w.ownsRow base 4 1 (.slice A n c) n xs) (hf : ∀ j, j < n → xs[j]? = some (holeC hs j)) : HR w w.heap.size A n hs :=
  ⟨Rd.of_own h hf, fun hn ad e => by
    rcases h.2 with ⟨e1, h0⟩ | ⟨g, cap, cur, e1, _, hc, _⟩
    · omega
    · injection e1 with e1 _ _
      rw [e1] at e
      injection e with e
      subst e
      exact ⟨_, _, hc⟩⟩
theorem holes_snoc (hs : List Bool) (x : Bool) (j : Nat) (hj : j < hs.length + 1) : (firsts (holeC hs) hs.length ++ firsts (fun _ => Value.bool x) 1)[j]? = some (holeC (hs ++ [x]) j) := by
  have h1 : firsts (fun _ => Value.bool x) 1 = [Value.bool x] := rfl
  rw [h1]
  by_cases h : j < hs.length
  · rw [List.getElem?_append_left (by rw [firsts_len]; exact h), firsts_at h]
    unfold holeC
    rw [List.getD_eq_getElem?_getD, List.getD_eq_getElem?_getD, List.getElem?_append_left h]
  · obtain rfl : j = hs.length := by omega
    rw [List.getElem?_append_right (by rw [firsts_len]; omega), firsts_len, Nat.sub_self]
    unfold holeC
    simp
theorem tok_tick {s : ByteArray} {i : Nat} {holes : List Bool} (hc : bt s i = 96) : tokAt s i holes = (pieceOf s i).map fun p => (⟨if p.2.2 = true then 6 else 5, p.1, i, p.2.1⟩, if p.2.2 = true then holes ++ [true] else holes) := by
  unfold tokAt; rw [if_neg (by rw [hc]; decide), if_neg (by rw [hc]; decide), if_neg (by omega), if_pos hc]
theorem tok_hole {s : ByteArray} {i : Nat} {holes : List Bool} (hc : bt s i = 125) (hh : holes.getLast? = some true) : tokAt s i holes = (pieceOf s i).map fun p => (⟨if p.2.2 = true then 7 else 8, p.1, i, p.2.1⟩, if p.2.2 = true then holes else holes.dropLast) := by
  unfold tokAt; rw [if_neg (by rw [hc]; decide), if_neg (by rw [hc]; decide), if_neg (by omega), if_neg (by omega), if_pos ⟨hc, hh⟩]
theorem last_at {holes : List Bool} {m : Nat} {x : Bool} (h : holes.getLast? = some x) (hm : m + 1 = holes.length) : holes.getD m false = x := by
  rw [List.getLast?_eq_getElem?, ← hm, Nat.add_sub_cancel] at h
  rw [List.getD_eq_getElem?_getD, h]; rfl
theorem holes_drop (holes : List Bool) (j m : Nat) (hm : m + 1 = holes.length) (hj : j < m) : holeC holes j = holeC holes.dropLast j := by
  unfold holeC
  rw [List.getD_eq_getElem?_getD, List.getD_eq_getElem?_getD, List.getElem?_dropLast, if_pos (by omega)]
attribute [local go_sem] cell_alloc_add cell_set_add lt_more
def signsB : List ByteArray := [⟨#[61, 61, 61]⟩, ⟨#[33, 61, 61]⟩, ⟨#[62, 62, 62]⟩, ⟨#[43, 61]⟩, ⟨#[45, 61]⟩, ⟨#[42, 61]⟩, ⟨#[37, 61]⟩, ⟨#[61, 62]⟩, ⟨#[60, 61]⟩, ⟨#[62, 61]⟩, ⟨#[60, 60]⟩, ⟨#[62, 62]⟩, ⟨#[38, 38]⟩, ⟨#[124, 124]⟩, ⟨#[123]⟩, ⟨#[125]⟩, ⟨#[40]⟩, ⟨#[41]⟩, ⟨#[91]⟩, ⟨#[93]⟩, ⟨#[46]⟩, ⟨#[44]⟩, ⟨#[59]⟩, ⟨#[58]⟩, ⟨#[63]⟩, ⟨#[61]⟩, ⟨#[43]⟩, ⟨#[45]⟩, ⟨#[42]⟩, ⟨#[37]⟩, ⟨#[33]⟩, ⟨#[126]⟩, ⟨#[60]⟩, ⟨#[62]⟩, ⟨#[38]⟩, ⟨#[124]⟩, ⟨#[94]⟩]
def signsV : Array Value := #[.string ⟨#[61, 61, 61]⟩, .string ⟨#[33, 61, 61]⟩, .string ⟨#[62, 62, 62]⟩, .string ⟨#[43, 61]⟩, .string ⟨#[45, 61]⟩, .string ⟨#[42, 61]⟩, .string ⟨#[37, 61]⟩, .string ⟨#[61, 62]⟩, .string ⟨#[60, 61]⟩, .string ⟨#[62, 61]⟩, .string ⟨#[60, 60]⟩, .string ⟨#[62, 62]⟩, .string ⟨#[38, 38]⟩, .string ⟨#[124, 124]⟩, .string ⟨#[123]⟩, .string ⟨#[125]⟩, .string ⟨#[40]⟩, .string ⟨#[41]⟩, .string ⟨#[91]⟩, .string ⟨#[93]⟩, .string ⟨#[46]⟩, .string ⟨#[44]⟩, .string ⟨#[59]⟩, .string ⟨#[58]⟩, .string ⟨#[63]⟩, .string ⟨#[61]⟩, .string ⟨#[43]⟩, .string ⟨#[45]⟩, .string ⟨#[42]⟩, .string ⟨#[37]⟩, .string ⟨#[33]⟩, .string ⟨#[126]⟩, .string ⟨#[60]⟩, .string ⟨#[62]⟩, .string ⟨#[38]⟩, .string ⟨#[124]⟩, .string ⟨#[94]⟩]
theorem signs_at (k : Nat) (h : k < 37) : signsV[k]? = some (.string (signsB.getD k ⟨#[]⟩)) := by
  have e : signsV = (signsB.map Value.string).toArray := rfl
  have h2 : k < signsB.length := h
  rw [e]; simp [h2]
theorem signs_len (k : Nat) (h : k < 37) : 1 ≤ (signsB.getD k ⟨#[]⟩).size ∧ (signsB.getD k ⟨#[]⟩).size ≤ 3 := by
  have : ∀ k : Fin 37, 1 ≤ (signsB.getD k ⟨#[]⟩).size ∧ (signsB.getD k ⟨#[]⟩).size ≤ 3 := by decide
  exact this ⟨k, h⟩
/-- Does a sign stand here? -/
def standsB (s : ByteArray) (i : Nat) (x : ByteArray) : Prop := i + x.size ≤ s.size ∧ (s.extract i (i + x.size)).data.toList = x.data.toList
def noneTo (s : ByteArray) (i k : Nat) : Prop := ∀ j, j < k → ¬ standsB s i (signsB.getD j ⟨#[]⟩)
theorem noneTo_step {s : ByteArray} {i k : Nat} (h : noneTo s i k) (hn : ¬ standsB s i (signsB.getD k ⟨#[]⟩)) : noneTo s i (k + 1) := fun j hj => by
  by_cases c : j < k
  · exact h j c
  · obtain rfl : j = k := by omega
    exact hn
theorem three_in (l : List UInt8) : l ∈ signs3 ↔ ∃ j, j < 3 ∧ (signsB.getD j ⟨#[]⟩).data.toList = l := by
  constructor
  · intro h
    have : ∀ l ∈ signs3, ∃ j, j < 3 ∧ (signsB.getD j ⟨#[]⟩).data.toList = l := by decide
    exact this l h
  · rintro ⟨j, hj, rfl⟩
    have : ∀ j : Fin 3, (signsB.getD j ⟨#[]⟩).data.toList ∈ signs3 := by decide
    exact this ⟨j, hj⟩
theorem two_in (l : List UInt8) : l ∈ signs2 ↔ ∃ j, 3 ≤ j ∧ j < 14 ∧ (signsB.getD j ⟨#[]⟩).data.toList = l := by
  constructor
  · intro h
    have : ∀ l ∈ signs2, ∃ j, j < 14 ∧ 3 ≤ j ∧ (signsB.getD j ⟨#[]⟩).data.toList = l := by decide
    obtain ⟨j, a, b, c⟩ := this l h
    exact ⟨j, b, a, c⟩
  · rintro ⟨j, hj, hj2, rfl⟩
    have : ∀ j : Fin 14, 3 ≤ j.1 → (signsB.getD j ⟨#[]⟩).data.toList ∈ signs2 := by decide
    exact this ⟨j, hj2⟩ hj
theorem one_in (l : List UInt8) : l ∈ signs1 ↔ ∃ j, 14 ≤ j ∧ j < 37 ∧ (signsB.getD j ⟨#[]⟩).data.toList = l := by
  constructor
  · intro h
    have : ∀ l ∈ signs1, ∃ j, j < 37 ∧ 14 ≤ j ∧ (signsB.getD j ⟨#[]⟩).data.toList = l := by decide
    obtain ⟨j, a, b, c⟩ := this l h
    exact ⟨j, b, a, c⟩
  · rintro ⟨j, hj, hj2, rfl⟩
    have : ∀ j : Fin 37, 14 ≤ j.1 → (signsB.getD j ⟨#[]⟩).data.toList ∈ signs1 := by decide
    exact this ⟨j, hj2⟩ hj
theorem sizes (j : Nat) (hj : j < 37) : (signsB.getD j ⟨#[]⟩).size = if j < 3 then 3 else if j < 14 then 2 else 1 := by
  have : ∀ j : Fin 37, (signsB.getD j ⟨#[]⟩).size = if j.1 < 3 then 3 else if j.1 < 14 then 2 else 1 := by decide
  exact this ⟨j, hj⟩
theorem isSign3 (l : List UInt8) : isSign 3 l = decide (l ∈ signs3) := rfl
theorem isSign2 (l : List UInt8) : isSign 2 l = decide (l ∈ signs2) := rfl
theorem isSign1 (l : List UInt8) : isSign 1 l = decide (l ∈ signs1) := rfl
theorem no3 {s : ByteArray} {i k : Nat} (h : noneTo s i k) (hk : 3 ≤ k) : ¬ (i + 3 ≤ s.size ∧ isSign 3 (cut s i 3) = true) := by
  rintro ⟨h1, h2⟩
  rw [isSign3, decide_eq_true_eq, three_in] at h2
  obtain ⟨j, hj, e⟩ := h2
  have hz := sizes j (by omega)
  rw [if_pos hj] at hz
  exact h j (by omega) ⟨by rw [hz]; exact h1, by rw [hz, e]; rfl⟩
theorem no2 {s : ByteArray} {i k : Nat} (h : noneTo s i k) (hk : 14 ≤ k) : ¬ (i + 2 ≤ s.size ∧ isSign 2 (cut s i 2) = true) := by
  rintro ⟨h1, h2⟩
  rw [isSign2, decide_eq_true_eq, two_in] at h2
  obtain ⟨j, hj, hj2, e⟩ := h2
  have hz := sizes j (by omega)
  rw [if_neg (by omega), if_pos hj2] at hz
  exact h j (by omega) ⟨by rw [hz]; exact h1, by rw [hz, e]; rfl⟩
theorem no1 {s : ByteArray} {i k : Nat} (h : noneTo s i k) (hk : 37 ≤ k) : ¬ (i + 1 ≤ s.size ∧ isSign 1 (cut s i 1) = true) := by
  rintro ⟨h1, h2⟩
  rw [isSign1, decide_eq_true_eq, one_in] at h2
  obtain ⟨j, hj, hj2, e⟩ := h2
  have hz := sizes j (by omega)
  rw [if_neg (by omega), if_neg (by omega)] at hz
  exact h j (by omega) ⟨by rw [hz]; exact h1, by rw [hz, e]; rfl⟩
theorem sign_none {s : ByteArray} {i : Nat} (h : noneTo s i 37) : signAt s i = 0 := by
  unfold signAt; rw [if_neg (no3 h (by omega)), if_neg (no2 h (by omega)), if_neg (no1 h (by omega))]
theorem sign_hit {s : ByteArray} {i k : Nat} (hk : k < 37) (h : noneTo s i k) (hs : standsB s i (signsB.getD k ⟨#[]⟩)) : signAt s i = (signsB.getD k ⟨#[]⟩).size := by
  have hz := sizes k hk
  obtain ⟨h1, h2⟩ := hs
  unfold signAt
  by_cases c3 : k < 3
  · rw [if_pos c3] at hz
    rw [hz] at h1 h2 ⊢
    rw [if_pos ⟨h1, by rw [isSign3, decide_eq_true_eq, three_in]; exact ⟨k, c3, h2.symm⟩⟩]
  · rw [if_neg c3] at hz
    rw [if_neg (no3 h (by omega))]
    by_cases c2 : k < 14
    · rw [if_pos c2] at hz
      rw [hz] at h1 h2 ⊢
      rw [if_pos ⟨h1, by rw [isSign2, decide_eq_true_eq, two_in]; exact ⟨k, by omega, c2, h2.symm⟩⟩]
    · rw [if_neg c2] at hz
      rw [if_neg (no2 h (by omega))]
      rw [hz] at h1 h2 ⊢
      rw [if_pos ⟨h1, by rw [isSign1, decide_eq_true_eq, one_in]; exact ⟨k, by omega, hk, h2.symm⟩⟩]
theorem stands_eq {s : ByteArray} {i : Nat} {x : ByteArray} (h : standsB s i x) : s.extract i (i + x.size) = x := ByteArray.ext (Array.toList_inj.1 h.2)
/-- What a sign leaves open. -/
def signH (holes : List Bool) (x : ByteArray) : List Bool := if x.data.toList = [123] then holes ++ [false] else if x.data.toList = [125] then holes.dropLast else holes
theorem one_byte {s : ByteArray} {i : Nat} {x : ByteArray} (h : standsB s i x) (b : UInt8) (hx : x.data.toList = [b]) : x.size = 1 ∧ bt s i = b.toNat := by
  have hz : x.size = 1 := by have : x.data.toList.length = 1 := by rw [hx]; rfl
                             simpa using this
  refine ⟨hz, ?_⟩
  obtain ⟨h1, h2⟩ := h
  rw [hz] at h1 h2
  have hb : bt (s.extract i (i + 1)) 0 = bt s i := by
    have := bt_extract (s := s) (lo := i) (hi := i + 1) (j := 0) (by omega) (by omega)
    simpa using this
  have hl : 0 < (s.extract i (i + 1)).size := by rw [ByteArray.size_extract]; omega
  rw [data_at hl] at hb
  have h3 : (s.extract i (i + 1)).data.toList = [b] := h2.trans hx
  have e : (s.extract i (i + 1)).data.toList[0]'(by rw [h3]; exact Nat.zero_lt_one) = b := by rw [List.getElem_of_eq h3]; rfl
  rw [← hb]
  exact congrArg UInt8.toNat e
theorem one_byte' {s : ByteArray} {i : Nat} {x : ByteArray} (h : standsB s i x) (hx : x.size = 1) : x.data.toList = [UInt8.ofNat (bt s i)] := by
  obtain ⟨h1, h2⟩ := h
  rw [hx] at h1 h2
  rw [← h2, extract_one (by omega)]
  rfl
theorem tok_sign {s : ByteArray} {i : Nat} {holes : List Bool} (hl : letterB (bt s i) = false) (hd : digitB (bt s i) = false) (h1 : ¬ (bt s i = 34 ∨ bt s i = 39)) (h2 : bt s i ≠ 96) (h3 : ¬ (bt s i = 125 ∧ holes.getLast? = some true)) :
    tokAt s i holes = if signAt s i = 0 then none else some (⟨9, s.extract i (i + signAt s i), i, i + signAt s i⟩, if signAt s i = 1 ∧ bt s i = 123 then holes ++ [false] else if signAt s i = 1 ∧ bt s i = 125 then holes.dropLast else holes) := by
  unfold tokAt
  rw [if_neg (by rw [hl]; decide), if_neg (by rw [hd]; decide), if_neg h1, if_neg h2, if_neg h3]
theorem tok_hit {s : ByteArray} {i k : Nat} {holes : List Bool} (hl : letterB (bt s i) = false) (hd : digitB (bt s i) = false) (h1 : ¬ (bt s i = 34 ∨ bt s i = 39)) (h2 : bt s i ≠ 96) (h3 : ¬ (bt s i = 125 ∧ holes.getLast? = some true))
    (hk : k < 37) (h : noneTo s i k) (hs : standsB s i (signsB.getD k ⟨#[]⟩)) :
    tokAt s i holes = some (⟨9, signsB.getD k ⟨#[]⟩, i, i + (signsB.getD k ⟨#[]⟩).size⟩, signH holes (signsB.getD k ⟨#[]⟩)) := by
  have hsz := signs_len k hk
  rw [tok_sign hl hd h1 h2 h3, sign_hit hk h hs, stands_eq hs, if_neg (by omega)]
  refine congrArg some (Prod.ext rfl ?_)
  show (if _ then _ else _) = signH _ _
  unfold signH
  generalize signsB.getD k ⟨#[]⟩ = x at *
  by_cases c1 : x.data.toList = [123]
  · have := one_byte hs 123 c1
    rw [if_pos c1, if_pos ⟨this.1, this.2⟩]
  · rw [if_neg c1, if_neg (by
      rintro ⟨a, b⟩
      have := one_byte' hs a
      rw [b] at this
      exact c1 this)]
    by_cases c2 : x.data.toList = [125]
    · have := one_byte hs 125 c2
      rw [if_pos c2, if_pos ⟨this.1, this.2⟩]
    · rw [if_neg c2, if_neg (by
        rintro ⟨a, b⟩
        have := one_byte' hs a
        rw [b] at this
        exact c2 this)]
attribute [local go_sem] cell_alloc_add cell_set_add lt_more
attribute [local go_sem] cell_alloc_add cell_set_add lt_more
/-- The cells of a token, of tokens. -/
def tokC (t : Tok) : List Value := [.int .i64 t.kind, .string t.text, .int .i64 (t.lo : Int), .int .i64 (t.hi : Int)]
def toksC (l : List Tok) : List Value := l.flatMap tokC
theorem toksC_snoc (l : List Tok) (t : Tok) : toksC (l ++ [t]) = toksC l ++ tokC t := by simp [toksC]
theorem infoTok : (Tryd.prog.info? 29).map (fun i => (i.zero, i.size, i.bytes)) = some (some (.agg #[.int .i64 0, .string ⟨#[]⟩, .int .i64 0, .int .i64 0]), 4, 40) := by kernel_rfl
theorem tokC_lies (t : Tok) {w : World} {g : Nat} {ty : TypeId} (h : Row w g ty (tokA t)) : ∀ j u, (tokC t)[j]? = some u → w.cell? ((⟨g, 0, none⟩ : Addr).add j) = some u := fun j u hj => by
  rw [add_row, h.cell, Nat.zero_add, ← hj]
  simp [tokC, tokA]
theorem tokC_one (t : Tok) : ∀ u ∈ tokC t, u.oneCell' = true := by intro u hu; simp [tokC] at hu; rcases hu with rfl | rfl | rfl | rfl <;> rfl
/-- A slice that owns a row is a slice. -/
theorem own_shape {w : World} {base size n : Nat} {e : TypeId} {v : Value} {xs : List Value} (h : w.ownsRow base e size v n xs) : ∃ A c, v = .slice A n c ∧ n ≤ c := by
  rcases h.2 with ⟨rfl, rfl⟩ | ⟨g, cap, cur, rfl, _, _, hc, _⟩
  · exact ⟨_, _, rfl, Nat.le_refl _⟩
  · exact ⟨_, _, rfl, hc⟩
/-- The open brackets stand, whatever a row of another type does. -/
theorem HR.grown {w w' : World} {B n base m size : Nat} {e : TypeId} {A : Option Addr} {hs : List Bool} {v : Value} {xs : List Value} (h : HR w B A n hs) (hB : B ≤ w.heap.size) (hown : w.ownsRow base e size v m xs) (he : e ≠ 4) (hg : w.grownBy w' v.ownBlock) : HR w' w'.heap.size A n hs := by
  have key : ∀ j, j < n → ∃ ad, A = some ad ∧ ad.block < w.heap.size ∧ w'.heap[ad.block]? = w.heap[ad.block]? := fun j hj => by
    obtain ⟨ad, e1, hl, _⟩ := h.1 j hj
    obtain ⟨cs, fr, hc⟩ := h.2 (by omega) ad e1
    refine ⟨ad, e1, by omega, hg.block _ (by omega) fun e2 => ?_⟩
    rcases hown.2 with ⟨rfl, _⟩ | ⟨g, cap, cur, rfl, _, hh, _⟩
    · simp [Value.ownBlock] at e2
    · simp [Value.ownBlock] at e2
      first | rw [e2, hc] at hh | rw [← e2, hc] at hh
      injection hh with hh
      injection hh with _ hh
      exact he hh.symm
  refine ⟨fun j hj => ?_, fun hn ad e1 => ?_⟩
  · obtain ⟨ad, e1, hl, hbk⟩ := key j hj
    obtain ⟨ad2, e2, _, hc⟩ := h.1 j hj
    obtain rfl : ad = ad2 := by rw [e1] at e2; injection e2
    have hsz := hg.size
    refine ⟨ad, e1, by omega, ?_⟩
    rw [← hc]
    unfold World.cell?
    rw [block_add, hbk]
  · obtain ⟨ad2, e2, hl, hbk⟩ := key 0 hn
    obtain rfl : ad = ad2 := by rw [e1] at e2; injection e2
    obtain ⟨cs, fr, hc⟩ := h.2 hn ad e1
    exact ⟨cs, fr, hbk.trans hc⟩
/-- What the limit leaves of the tokens: the tokens, the byte of the error, the error (0: none, 3: no token, 4: too many). -/
def capT (most : Nat) (p : List Tok × Option Nat) : List Tok × Nat × Nat :=
  match p.1[most]? with
  | some t => if t.kind = 10 then (p.1, 0, 0) else (p.1.take most, t.lo, 4)
  | none => match p.2 with
    | some j => (p.1, j, 3)
    | none => (p.1, 0, 0)
theorem capT_bad {most : Nat} {p : List Tok × Option Nat} {pre : List Tok} {j : Nat} (h1 : p.1 = pre ++ []) (h2 : p.2 = some j) (hl : pre.length ≤ most) : capT most p = (pre, j, 3) := by
  unfold capT
  rw [h1, List.append_nil, List.getElem?_eq_none hl, h2]
theorem capT_end {most : Nat} {p : List Tok × Option Nat} {pre : List Tok} {t : Tok} (h1 : p.1 = pre ++ [t]) (h2 : p.2 = none) (hl : pre.length ≤ most) (ht : t.kind = 10) : capT most p = (pre ++ [t], 0, 0) := by
  unfold capT
  rw [h1, h2]
  by_cases h : pre.length = most
  · rw [List.getElem?_append_right (by omega), show most - pre.length = 0 by omega]; simp [ht]
  · rw [List.getElem?_eq_none (by simp; omega)]
theorem capT_over {most : Nat} {p : List Tok × Option Nat} {pre rest : List Tok} {t : Tok} (h1 : p.1 = pre ++ t :: rest) (hl : pre.length = most) (ht : t.kind ≠ 10) : capT most p = (pre, t.lo, 4) := by
  unfold capT
  rw [h1, List.getElem?_append_right (by omega), show most - pre.length = 0 by omega]
  simp [ht, ← hl]
theorem tokAt_kind {s : ByteArray} {i : Nat} {holes hs : List Bool} {t : Tok} (h : tokAt s i holes = some (t, hs)) : t.kind ≠ 10 ∧ hs.length ≤ holes.length + 1 := by
  unfold tokAt at h
  repeat' split at h
  all_goals first
    | (injection h with h; injection h with h1 h2; subst h1; subst h2; refine ⟨?_, ?_⟩ <;> (try dsimp only) <;> (repeat' split) <;> first | decide | (simp; done) | (simp; omega) | omega)
    | (rw [Option.map_eq_some_iff] at h; obtain ⟨p, _, h⟩ := h; injection h with h1 h2; subst h1; subst h2; refine ⟨?_, ?_⟩ <;> (try dsimp only) <;> (repeat' split) <;> first | decide | (simp; done) | (simp; omega) | omega)
    | (cases h)
/-- What tokens answers. -/
def TPost (w : World) (p : List Tok × Nat × Nat) (e : Ending) (w' : World) : Prop := ∃ v, e = .returned (.tuple #[v, .int .i64 (p.2.1 : Int), .int .i64 (p.2.2 : Int)]) ∧ w'.ownsRow w.heap.size 29 4 v p.1.length (toksC p.1)
theorem TPost.of {w w' : World} {p : List Tok × Nat × Nat} {l : List Tok} {x y : Nat} {v : Value} (h : p = (l, x, y)) (ho : w'.ownsRow w.heap.size 29 4 v l.length (toksC l)) : TPost w p (.returned (.tuple #[v, .int .i64 (x : Int), .int .i64 (y : Int)])) w' := by subst h; exact ⟨v, rfl, ho⟩
attribute [local go_sem] cell_alloc_add cell_set_add lt_more
/-- The tokens of a text, the byte of the error, the error (0: none). -/
def tokR (s : ByteArray) : List Tok × Nat × Nat := if s.size ≤ 65536 then capT 8192 (toks s 0 []) else ([], 0, 2)
end Go.Proofs.YtdlppdoankeilaaDoor
