/- Plain: texts and rows of bytes, one turned into the other. No program in sight. -/
import Derived.Test.YtdlppdoankeilaaDoorDec
import Derived.Test.YtdlppdoankeilaaDoorRd
import Derived.Laws.IdiomStrings
import Derived.Laws.BytesArg
import Derived.Laws.AppendOwn
namespace Go.Proofs.YtdlppdoankeilaaDoor
set_option linter.unusedVariables false
set_option linter.unusedSimpArgs false
set_option linter.unnecessarySimpa false
open Go.RowKit

/-- The cells of a text's bytes. -/
def byteC (s : ByteArray) (j : Nat) : Value := .int .u8 (bt s j : Int)
theorem data_at {s : ByteArray} {j : Nat} (h : j < s.size) : bt s j = (s.data.toList[j]'(by simpa using h)).toNat := by
  have := bcs_at h
  unfold bcs at this
  have h' : j < s.data.toList.length := by simpa using h
  rw [List.getElem?_map, List.getElem?_eq_getElem h'] at this
  simp at this
  simp
  omega
theorem bt_extract {s : ByteArray} {lo hi j : Nat} (h : j < hi - lo) (hh : hi ≤ s.size) : bt (s.extract lo hi) j = bt s (lo + j) := by
  have h1 : j < (s.extract lo hi).size := by simp [ByteArray.size_extract]; omega
  rw [data_at h1, data_at (show lo + j < s.size by omega)]
  congr 1
  simp
theorem bytesRow_at (s : ByteArray) (cap : Nat) {j : Nat} (h : j < s.size) : (bytesRow s cap)[j]? = some (byteC s j) := by
  unfold bytesRow byteC
  rw [Array.getElem?_append_left (by simpa using h), data_at h]
  simp
  exact ⟨_, Array.getElem?_eq_getElem (show j < s.data.size from h), rfl⟩
/-- The new row of a conversion, read as a slice. -/
theorem rd_row (w : World) (s : ByteArray) (cap : Nat) (t : TypeId) (fr : Nat × Nat) : Rd (w.alloc (.cells (bytesRow s cap) t fr)) (w.heap.size + 1) (some ⟨w.heap.size, 0, none⟩) s.size (byteC s) := fun j hj =>
  ⟨_, rfl, by simp, by rw [add_row, Nat.zero_add, World.cell?_alloc_mark]; exact bytesRow_at s cap hj⟩
theorem of_bytes (s : ByteArray) (l : List UInt8) (h : l = s.data.toList) : (⟨l.toArray⟩ : ByteArray) = s := by subst h; simp
theorem run_string_of {P : Program} {w : World} {B : Nat} {A : Option Addr} {s : ByteArray} (src dst e : TypeId) (c : Nat) (hs : P.underlying src = some (.slice e)) (he : P.underlying e = some (.int .u8)) (hd : P.underlying dst = some .string)
    (h : Rd w B A s.size (byteC s)) : (convert src dst (.slice A s.size c)).run P w = .ok (.string s) w := by
  have hlen : s.data.toList.length = s.size := by simp
  rcases A with _ | ad
  · have h0 : s.size = 0 := by
      rcases Nat.eq_zero_or_pos s.size with h0 | h0
      · exact h0
      · obtain ⟨ad, e', _⟩ := h.addr h0; cases e'
    rw [run_convert_bytes_nil _ src e hs he _ _ dst hd]
    have hl : s.data.toList = [] := List.eq_nil_of_length_eq_zero (by omega)
    have := of_bytes s [] hl.symm
    rw [← this]; rfl
  · have := run_convert_bytes_back (P := P) w src dst e ad c s.data.toList hs he hd (fun j hj => by
      have hj' : j < s.size := by omega
      rw [h.at_ rfl hj']
      show some (Value.int .u8 (bt s j : Int)) = _
      rw [data_at hj'])
    rw [hlen] at this
    rw [this, of_bytes s _ rfl]
/-- A window of a text says the same of the rune at its head. -/
theorem dec_window {s : ByteArray} {i : Nat} (h : i < s.size) : rn (s.extract i (min s.size (i + 4))) 0 = rn s i ∧ wd (s.extract i (min s.size (i + 4))) 0 = wd s i ∧ gd (s.extract i (min s.size (i + 4))) 0 = gd s i := by
  have hsz : (s.extract i (min s.size (i + 4))).size = min (s.size - i) 4 := by simp [ByteArray.size_extract]; omega
  have e1 := dec3_at (s.extract i (min s.size (i + 4))) 0
  have e2 := dec3_at s i
  have ew := dec3_window (n := s.size - i) (m := (s.extract i (min s.size (i + 4))).size - 0) (b0 := bt s i) (b1 := bt s (i + 1)) (b2 := bt s (i + 2)) (b3 := bt s (i + 3))
    (c1 := bt (s.extract i (min s.size (i + 4))) (0 + 1)) (c2 := bt (s.extract i (min s.size (i + 4))) (0 + 2)) (c3 := bt (s.extract i (min s.size (i + 4))) (0 + 3)) (by omega)
    (fun hh => by rw [bt_extract (by omega) (by omega)]) (fun hh => by rw [bt_extract (by omega) (by omega)]) (fun hh => by rw [bt_extract (by omega) (by omega)])
  have hb : bt (s.extract i (min s.size (i + 4))) 0 = bt s i := by rw [bt_extract (by omega) (by omega)]; rfl
  rw [hb, ← ew, ← e2] at e1
  injection e1 with a b
  injection b with b c
  exact ⟨a, b, c⟩
/-- A text from a place on: its runes are the text's own from there on. -/
theorem dec_suffix {s : ByteArray} {k i : Nat} (h : k + i < s.size) : rn (s.extract k s.size) i = rn s (k + i) ∧ wd (s.extract k s.size) i = wd s (k + i) := by
  have hsz : (s.extract k s.size).size = s.size - k := by simp [ByteArray.size_extract]
  have e1 := dec_eq (s.extract k s.size) i
  have e2 := dec_eq s (k + i)
  have n : ∀ j, k + i + j < s.size → bt (s.extract k s.size) (i + j) = bt s (k + i + j) := fun j hj => by rw [bt_extract (by omega) (by omega), Nat.add_assoc]
  have hd : Utf8.decode (s.extract k s.size) i = Utf8.decode s (k + i) := by
    rw [e1, e2, hsz, show s.size - k - i = s.size - (k + i) by omega, show bt (s.extract k s.size) i = bt s (k + i) from n 0 h]
    have hN : ∀ (m b0 b1 b2 b3 c1 c2 c3 : Nat), (1 < m → b1 = c1) → (2 < m → b2 = c2) → (3 < m → b3 = c3) → Lib.decodeN m b0 b1 b2 b3 = Lib.decodeN m b0 c1 c2 c3 := by
      intro m b0 b1 b2 b3 c1 c2 c3 h1 h2 h3
      unfold Lib.decodeN
      by_cases m1 : 1 < m
      · rw [h1 m1]
        by_cases m2 : 2 < m
        · rw [h2 m2]
          by_cases m3 : 3 < m
          · rw [h3 m3]
          · simp only [m3, false_and, and_false, if_false]
        · simp only [m2, show ¬ 3 < m by omega, false_and, and_false, if_false]
      · simp only [m1, show ¬ 2 < m by omega, show ¬ 3 < m by omega, false_and, and_false, if_false]
    exact hN _ _ _ _ _ _ _ _ (fun hh => n 1 (by omega)) (fun hh => n 2 (by omega)) (fun hh => n 3 (by omega))
  unfold rn wd; rw [hd]; exact ⟨rfl, rfl⟩
end Go.Proofs.YtdlppdoankeilaaDoor
