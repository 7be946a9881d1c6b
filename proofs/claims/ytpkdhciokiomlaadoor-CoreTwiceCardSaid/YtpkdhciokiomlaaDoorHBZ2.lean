/- Some texts of this claim, put together. -/
import Derived.Test.YtpkdhciokiomlaaDoorHBZ6
import Derived.WalkKit
import Derived.Laws.BitsAllLaws
import Derived.Test.YtpkdhciokiomlaaDoorHBZ5
import Derived.Laws.IdiomStrings
import Derived.Laws.BytesArg
import Derived.Laws.AppendOwn
namespace Go.Proofs.YtpkdhciokiomlaaDoor
section
set_option linter.unusedVariables false
set_option linter.unusedSimpArgs false
set_option linter.unnecessarySimpa false
open Go.RowKit

/-- What a program's Decode answers at a place. -/
def decR (s : ByteArray) (at_ : Int) : Int := if 0 ≤ at_ ∧ at_ < s.size then (rn s at_.toNat : Int) else 0
def decN (s : ByteArray) (at_ : Int) : Int := if 0 ≤ at_ ∧ at_ < s.size then (wd s at_.toNat : Int) else 0
def decG (s : ByteArray) (at_ : Int) : Bool := if 0 ≤ at_ ∧ at_ < s.size then gd s at_.toNat else false
theorem decR_in {s : ByteArray} {i : Nat} (h : i < s.size) : decR s i = (rn s i : Int) := by unfold decR; rw [if_pos (by omega)]; simp
theorem decN_in {s : ByteArray} {i : Nat} (h : i < s.size) : decN s i = (wd s i : Int) := by unfold decN; rw [if_pos (by omega)]; simp
theorem decG_in {s : ByteArray} {i : Nat} (h : i < s.size) : decG s i = gd s i := by unfold decG; rw [if_pos (by omega)]; simp
theorem decR_out {s : ByteArray} {i : Int} (h : i < 0 ∨ (s.size : Int) ≤ i) : decR s i = 0 := by unfold decR; rw [if_neg (by omega)]
theorem decN_out {s : ByteArray} {i : Int} (h : i < 0 ∨ (s.size : Int) ≤ i) : decN s i = 0 := by unfold decN; rw [if_neg (by omega)]
theorem decG_out {s : ByteArray} {i : Int} (h : i < 0 ∨ (s.size : Int) ≤ i) : decG s i = false := by unfold decG; rw [if_neg (by omega)]

/-- The rune, its size, and whether it is one, of four bytes of which n are there. -/
def dec3 (n b0 b1 b2 b3 : Nat) : Nat × Nat × Bool := ((Lib.decodeN n b0 b1 b2 b3).1, (Lib.decodeN n b0 b1 b2 b3).2, decide (b0 < 128) || decide (1 < (Lib.decodeN n b0 b1 b2 b3).2))
theorem dec3_at (s : ByteArray) (i : Nat) : (rn s i, wd s i, gd s i) = dec3 (s.size - i) (bt s i) (bt s (i + 1)) (bt s (i + 2)) (bt s (i + 3)) := by
  unfold rn gd wd dec3; rw [dec_eq]
theorem dec3_bad {n b0 b1 b2 b3 : Nat} (h : 128 ≤ b0) (h2 : b0 / 32 = 6 → ¬ (1 < n ∧ b1 / 64 = 2 ∧ 128 ≤ b0 % 32 * 64 + b1 % 64))
    (h3 : b0 / 16 = 14 → ¬ (2 < n ∧ b1 / 64 = 2 ∧ b2 / 64 = 2 ∧ 2048 ≤ b0 % 16 * 4096 + b1 % 64 * 64 + b2 % 64 ∧ (b0 % 16 * 4096 + b1 % 64 * 64 + b2 % 64 < 55296 ∨ 57343 < b0 % 16 * 4096 + b1 % 64 * 64 + b2 % 64)))
    (h4 : b0 / 8 = 30 → ¬ (3 < n ∧ b1 / 64 = 2 ∧ b2 / 64 = 2 ∧ b3 / 64 = 2 ∧ 65536 ≤ b0 % 8 * 262144 + b1 % 64 * 4096 + b2 % 64 * 64 + b3 % 64 ∧ b0 % 8 * 262144 + b1 % 64 * 4096 + b2 % 64 * 64 + b3 % 64 ≤ 1114111)) :
    dec3 n b0 b1 b2 b3 = (65533, 1, false) := by
  have hd : Lib.decodeN n b0 b1 b2 b3 = (65533, 1) := by
    unfold Lib.decodeN
    rw [if_neg (by omega)]
    repeat' split
    all_goals first | rfl | (exfalso; omega)
  unfold dec3; rw [hd]; simp; omega
theorem dec3_one {n b0 b1 b2 b3 : Nat} (h : b0 < 128) : dec3 n b0 b1 b2 b3 = (b0, 1, true) := by
  unfold dec3 Lib.decodeN; rw [if_pos h]; simp [h]
theorem dec3_two {n b0 b1 b2 b3 : Nat} (h0 : b0 / 32 = 6) (hn : 1 < n) (h1 : b1 / 64 = 2) (h : 128 ≤ b0 % 32 * 64 + b1 % 64) : dec3 n b0 b1 b2 b3 = (b0 % 32 * 64 + b1 % 64, 2, true) := by
  have hd : Lib.decodeN n b0 b1 b2 b3 = (b0 % 32 * 64 + b1 % 64, 2) := by
    unfold Lib.decodeN
    rw [if_neg (by omega), if_pos ⟨h0, hn, h1⟩, if_pos h]
  unfold dec3; rw [hd]; simp
theorem dec3_three {n b0 b1 b2 b3 : Nat} (h0 : b0 / 16 = 14) (hn : 2 < n) (h1 : b1 / 64 = 2) (h2 : b2 / 64 = 2) (h : 2048 ≤ b0 % 16 * 4096 + b1 % 64 * 64 + b2 % 64)
    (hs : b0 % 16 * 4096 + b1 % 64 * 64 + b2 % 64 < 55296 ∨ 57343 < b0 % 16 * 4096 + b1 % 64 * 64 + b2 % 64) : dec3 n b0 b1 b2 b3 = (b0 % 16 * 4096 + b1 % 64 * 64 + b2 % 64, 3, true) := by
  have hd : Lib.decodeN n b0 b1 b2 b3 = (b0 % 16 * 4096 + b1 % 64 * 64 + b2 % 64, 3) := by
    unfold Lib.decodeN
    rw [if_neg (by omega), if_neg (by omega), if_pos (by omega), if_pos (by omega)]
  unfold dec3; rw [hd]; simp
theorem dec3_four {n b0 b1 b2 b3 : Nat} (h0 : b0 / 8 = 30) (hn : 3 < n) (h1 : b1 / 64 = 2) (h2 : b2 / 64 = 2) (h3 : b3 / 64 = 2) (h : 65536 ≤ b0 % 8 * 262144 + b1 % 64 * 4096 + b2 % 64 * 64 + b3 % 64)
    (hs : b0 % 8 * 262144 + b1 % 64 * 4096 + b2 % 64 * 64 + b3 % 64 ≤ 1114111) : dec3 n b0 b1 b2 b3 = (b0 % 8 * 262144 + b1 % 64 * 4096 + b2 % 64 * 64 + b3 % 64, 4, true) := by
  have hd : Lib.decodeN n b0 b1 b2 b3 = (b0 % 8 * 262144 + b1 % 64 * 4096 + b2 % 64 * 64 + b3 % 64, 4) := by
    unfold Lib.decodeN
    rw [if_neg (by omega), if_neg (by omega), if_neg (by omega), if_pos (by omega), if_pos (by omega)]
  unfold dec3; rw [hd]; simp
set_option maxRecDepth 100000 in
set_option maxHeartbeats 2000000 in
/-- A window of four bytes says the same. -/
theorem dec3_window {n m b0 b1 b2 b3 c1 c2 c3 : Nat} (hm : m = min n 4) (h1 : 1 < n → b1 = c1) (h2 : 2 < n → b2 = c2) (h3 : 3 < n → b3 = c3) : dec3 n b0 b1 b2 b3 = dec3 m b0 c1 c2 c3 := by
  have hd : Lib.decodeN n b0 b1 b2 b3 = Lib.decodeN m b0 c1 c2 c3 := by
    rcases (by omega : n ≤ 1 ∨ n = 2 ∨ n = 3 ∨ 4 ≤ n) with h | h | h | h
    · have a1 : ¬ 1 < n := by omega
      have a2 : ¬ 1 < m := by omega
      simp only [Lib.decodeN, a1, a2, false_and, and_false, if_false]
    · obtain rfl := h1 (by omega)
      have : m = 2 := by omega
      subst this h
      simp only [Lib.decodeN, Nat.lt_irrefl, show ¬ 3 < 2 by omega, false_and, and_false, if_false]
    · obtain rfl := h1 (by omega)
      obtain rfl := h2 (by omega)
      have : m = 3 := by omega
      subst this h
      simp only [Lib.decodeN, Nat.lt_irrefl, false_and, and_false, if_false]
    · obtain rfl := h1 (by omega)
      obtain rfl := h2 (by omega)
      obtain rfl := h3 (by omega)
      have : m = 4 := by omega
      subst this
      simp only [Lib.decodeN, show 1 < n by omega, show 2 < n by omega, show 3 < n by omega, show 1 < 4 by omega, show 2 < 4 by omega, show 3 < 4 by omega]
  unfold dec3; rw [hd]

theorem dec_is {s : ByteArray} {i : Nat} (hi : i < s.size) {R N : Nat} {G : Bool} (h : dec3 (s.size - i) (bt s i) (bt s (i + 1)) (bt s (i + 2)) (bt s (i + 3)) = (R, N, G)) : (R : Int) = decR s i ∧ (N : Int) = decN s i ∧ G = decG s i := by
  rw [← dec3_at] at h
  injection h with h1 h2
  injection h2 with h2 h3
  rw [decR_in hi, decN_in hi, decG_in hi, h1, h2, h3]
  exact ⟨rfl, rfl, rfl⟩

theorem dec_ret {s : ByteArray} {i : Nat} (hi : i < s.size) {R N : Nat} {G : Bool} (h : dec3 (s.size - i) (bt s i) (bt s (i + 1)) (bt s (i + 2)) (bt s (i + 3)) = (R, N, G)) {k j : IntKind} {a b : Int} {g : Bool} (h1 : a = (R : Int)) (h2 : b = (N : Int)) (h3 : g = G) :
    Ending.returned (.tuple #[.int k a, .int j b, .bool g]) = .returned (.tuple #[.int k (decR s i), .int j (decN s i), .bool (decG s i)]) := by
  obtain ⟨e1, e2, e3⟩ := dec_is hi h
  exact ret_iib (h1.trans e1) (h2.trans e2) (h3.trans e3)
theorem dec_row {s : ByteArray} {i : Nat} (hi : i < s.size) {R N : Nat} {G : Bool} (h : dec3 (s.size - i) (bt s i) (bt s (i + 1)) (bt s (i + 2)) (bt s (i + 3)) = (R, N, G)) {k j m : IntKind} {a b u v : Int} {g : Bool} (h0 : u = v) (h1 : a = (R : Int)) (h2 : b = (N : Int)) (h3 : g = G) :
    Ending.returned (.agg #[.int m u, .int k a, .int j b, .bool g]) = .returned (.agg #[.int m v, .int k (decR s i), .int j (decN s i), .bool (decG s i)]) := by
  obtain ⟨e1, e2, e3⟩ := dec_is hi h
  exact ret_row h0 (h1.trans e1) (h2.trans e2) (h3.trans e3)

/-- The bytes of a text, as cells. -/
def bcs (s : ByteArray) : List Value := s.data.toList.map fun b => Value.int .u8 (b.toNat : Int)
theorem bcs_len (s : ByteArray) : (bcs s).length = s.size := by simp [bcs]
theorem bcs_at {s : ByteArray} {i : Nat} (h : i < s.size) : (bcs s)[i]? = some (.int .u8 (bt s i : Int)) := by
  unfold bcs bt
  have h' : i < s.data.toList.length := by simpa using h
  rw [List.getElem?_map, List.getElem?_eq_getElem h']
  simp
  unfold ByteArray.get!
  simp [Array.getElem!_eq_getD, Array.getD, show i < s.data.size from h]
  rw [dif_pos h]

/-! ### bits -/
theorem u8_low6 {c : Int} (h0 : 0 ≤ c) (h1 : c < 256) : bits .and .u8 c 63 = c % 64 := by
  obtain ⟨n, rfl⟩ := Int.eq_ofNat_of_zero_le h0
  have := u8_and_nat n 63 (by omega) (by omega)
  rw [nat_mask6] at this; exact_mod_cast this
theorem u8_low5 {c : Int} (h0 : 0 ≤ c) (h1 : c < 256) : bits .and .u8 c 31 = c % 32 := by
  obtain ⟨n, rfl⟩ := Int.eq_ofNat_of_zero_le h0
  have := u8_and_nat n 31 (by omega) (by omega)
  rw [nat_mask5] at this; exact_mod_cast this
theorem u8_low4 {c : Int} (h0 : 0 ≤ c) (h1 : c < 256) : bits .and .u8 c 15 = c % 16 := by
  obtain ⟨n, rfl⟩ := Int.eq_ofNat_of_zero_le h0
  have := u8_and_nat n 15 (by omega) (by omega)
  rw [nat_mask4] at this; exact_mod_cast this
theorem u8_low3 {c : Int} (h0 : 0 ≤ c) (h1 : c < 256) : bits .and .u8 c 7 = c % 8 := by
  obtain ⟨n, rfl⟩ := Int.eq_ofNat_of_zero_le h0
  have := u8_and_nat n 7 (by omega) (by omega)
  rw [nat_mask3] at this; exact_mod_cast this
theorem i32_join6 {r c : Int} (h0 : 0 ≤ r) (h1 : r ≤ 2097151) (c0 : 0 ≤ c) (c1 : c < 64) : bits .or .i32 (r * 64) c = r * 64 + c := by
  obtain ⟨n, rfl⟩ := Int.eq_ofNat_of_zero_le h0
  obtain ⟨m, rfl⟩ := Int.eq_ofNat_of_zero_le c0
  have hj := nat_join 6 (n * 64) m (by omega) (by omega)
  show IntKind.i32.wrap ((BitVec.ofInt 32 ((n : Int) * 64) ||| BitVec.ofInt 32 (m : Int)).toNat : Int) = _
  have e1 : BitVec.ofInt 32 ((n : Int) * 64) = BitVec.ofNat 32 (n * 64) := by
    rw [show (n : Int) * 64 = ((n * 64 : Nat) : Int) by omega, BitVec.ofInt_natCast]
  rw [e1, BitVec.ofInt_natCast, BitVec.toNat_or, BitVec.toNat_ofNat, BitVec.toNat_ofNat, Nat.mod_eq_of_lt (by omega), Nat.mod_eq_of_lt (by omega), hj, IntKind.wrap_i32]
  omega
end
section
set_option linter.unusedVariables false
set_option linter.unusedSimpArgs false
set_option linter.unnecessarySimpa false
open Go.RowKit

/-- The cells of a text's bytes. -/
def byteC (s : ByteArray) (j : Nat) : Value := .int .u8 (bt s j : Int)
theorem data_at {s : ByteArray} {j : Nat} (h : j < s.size) : bt s j = (s.data.toList[j]'(by simpa using h)).toNat := by
  have := bcs_at h
  unfold bcs at this
  have h' : j < s.data.toList.length := by simpa using h
  rw [List.getElem?_map, List.getElem?_eq_getElem h'] at this
  simp at this
  simp
  omega
theorem bt_extract {s : ByteArray} {lo hi j : Nat} (h : j < hi - lo) (hh : hi ≤ s.size) : bt (s.extract lo hi) j = bt s (lo + j) := by
  have h1 : j < (s.extract lo hi).size := by simp [ByteArray.size_extract]; omega
  rw [data_at h1, data_at (show lo + j < s.size by omega)]
  congr 1
  simp
theorem bytesRow_at (s : ByteArray) (cap : Nat) {j : Nat} (h : j < s.size) : (bytesRow s cap)[j]? = some (byteC s j) := by
  unfold bytesRow byteC
  rw [Array.getElem?_append_left (by simpa using h), data_at h]
  simp
  exact ⟨_, Array.getElem?_eq_getElem (show j < s.data.size from h), rfl⟩
/-- The new row of a conversion, read as a slice. -/
theorem rd_row (w : World) (s : ByteArray) (cap : Nat) (t : TypeId) (fr : Nat × Nat) : Rd (w.alloc (.cells (bytesRow s cap) t fr)) (w.heap.size + 1) (some ⟨w.heap.size, 0, none⟩) s.size (byteC s) := fun j hj =>
  ⟨_, rfl, by simp, by rw [add_row, Nat.zero_add, World.cell?_alloc_mark]; exact bytesRow_at s cap hj⟩
theorem of_bytes (s : ByteArray) (l : List UInt8) (h : l = s.data.toList) : (⟨l.toArray⟩ : ByteArray) = s := by subst h; simp
theorem run_string_of {P : Program} {w : World} {B : Nat} {A : Option Addr} {s : ByteArray} (src dst e : TypeId) (c : Nat) (hs : P.underlying src = some (.slice e)) (he : P.underlying e = some (.int .u8)) (hd : P.underlying dst = some .string)
    (h : Rd w B A s.size (byteC s)) : (convert src dst (.slice A s.size c)).run P w = .ok (.string s) w := by
  have hlen : s.data.toList.length = s.size := by simp
  rcases A with _ | ad
  · have h0 : s.size = 0 := by
      rcases Nat.eq_zero_or_pos s.size with h0 | h0
      · exact h0
      · obtain ⟨ad, e', _⟩ := h.addr h0; cases e'
    rw [run_convert_bytes_nil _ src e hs he _ _ dst hd]
    have hl : s.data.toList = [] := List.eq_nil_of_length_eq_zero (by omega)
    have := of_bytes s [] hl.symm
    rw [← this]; rfl
  · have := run_convert_bytes_back (P := P) w src dst e ad c s.data.toList hs he hd (fun j hj => by
      have hj' : j < s.size := by omega
      rw [h.at_ rfl hj']
      show some (Value.int .u8 (bt s j : Int)) = _
      rw [data_at hj'])
    rw [hlen] at this
    rw [this, of_bytes s _ rfl]
/-- A window of a text says the same of the rune at its head. -/
theorem dec_window {s : ByteArray} {i : Nat} (h : i < s.size) : rn (s.extract i (min s.size (i + 4))) 0 = rn s i ∧ wd (s.extract i (min s.size (i + 4))) 0 = wd s i ∧ gd (s.extract i (min s.size (i + 4))) 0 = gd s i := by
  have hsz : (s.extract i (min s.size (i + 4))).size = min (s.size - i) 4 := by simp [ByteArray.size_extract]; omega
  have e1 := dec3_at (s.extract i (min s.size (i + 4))) 0
  have e2 := dec3_at s i
  have ew := dec3_window (n := s.size - i) (m := (s.extract i (min s.size (i + 4))).size - 0) (b0 := bt s i) (b1 := bt s (i + 1)) (b2 := bt s (i + 2)) (b3 := bt s (i + 3))
    (c1 := bt (s.extract i (min s.size (i + 4))) (0 + 1)) (c2 := bt (s.extract i (min s.size (i + 4))) (0 + 2)) (c3 := bt (s.extract i (min s.size (i + 4))) (0 + 3)) (by omega)
    (fun hh => by rw [bt_extract (by omega) (by omega)]) (fun hh => by rw [bt_extract (by omega) (by omega)]) (fun hh => by rw [bt_extract (by omega) (by omega)])
  have hb : bt (s.extract i (min s.size (i + 4))) 0 = bt s i := by rw [bt_extract (by omega) (by omega)]; rfl
  rw [hb, ← ew, ← e2] at e1
  injection e1 with a b
  injection b with b c
  exact ⟨a, b, c⟩
/-- A text from a place on: its runes are the text's own from there on. -/
theorem dec_suffix {s : ByteArray} {k i : Nat} (h : k + i < s.size) : rn (s.extract k s.size) i = rn s (k + i) ∧ wd (s.extract k s.size) i = wd s (k + i) := by
  have hsz : (s.extract k s.size).size = s.size - k := by simp [ByteArray.size_extract]
  have e1 := dec_eq (s.extract k s.size) i
  have e2 := dec_eq s (k + i)
  have n : ∀ j, k + i + j < s.size → bt (s.extract k s.size) (i + j) = bt s (k + i + j) := fun j hj => by rw [bt_extract (by omega) (by omega), Nat.add_assoc]
  have hd : Utf8.decode (s.extract k s.size) i = Utf8.decode s (k + i) := by
    rw [e1, e2, hsz, show s.size - k - i = s.size - (k + i) by omega, show bt (s.extract k s.size) i = bt s (k + i) from n 0 h]
    have hN : ∀ (m b0 b1 b2 b3 c1 c2 c3 : Nat), (1 < m → b1 = c1) → (2 < m → b2 = c2) → (3 < m → b3 = c3) → Lib.decodeN m b0 b1 b2 b3 = Lib.decodeN m b0 c1 c2 c3 := by
      intro m b0 b1 b2 b3 c1 c2 c3 h1 h2 h3
      unfold Lib.decodeN
      by_cases m1 : 1 < m
      · rw [h1 m1]
        by_cases m2 : 2 < m
        · rw [h2 m2]
          by_cases m3 : 3 < m
          · rw [h3 m3]
          · simp only [m3, false_and, and_false, if_false]
        · simp only [m2, show ¬ 3 < m by omega, false_and, and_false, if_false]
      · simp only [m1, show ¬ 2 < m by omega, show ¬ 3 < m by omega, false_and, and_false, if_false]
    exact hN _ _ _ _ _ _ _ _ (fun hh => n 1 (by omega)) (fun hh => n 2 (by omega)) (fun hh => n 3 (by omega))
  unfold rn wd; rw [hd]; exact ⟨rfl, rfl⟩
end
end Go.Proofs.YtpkdhciokiomlaaDoor
