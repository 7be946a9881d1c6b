/- Plain: what a reader of UTF-8 answers at a place: the rune, its size, whether it is one; bytes as cells. No program in sight. -/
import Derived.Test.YtdlppdoankeilaaDoorUtf
import Derived.WalkKit
import Derived.Laws.BitsAllLaws
namespace Go.Proofs.YtdlppdoankeilaaDoor
set_option linter.unusedVariables false
set_option linter.unusedSimpArgs false
set_option linter.unnecessarySimpa false
open Go.RowKit

/-- What a program's Decode answers at a place. -/
def decR (s : ByteArray) (at_ : Int) : Int := if 0 ≤ at_ ∧ at_ < s.size then (rn s at_.toNat : Int) else 0
def decN (s : ByteArray) (at_ : Int) : Int := if 0 ≤ at_ ∧ at_ < s.size then (wd s at_.toNat : Int) else 0
def decG (s : ByteArray) (at_ : Int) : Bool := if 0 ≤ at_ ∧ at_ < s.size then gd s at_.toNat else false
theorem decR_in {s : ByteArray} {i : Nat} (h : i < s.size) : decR s i = (rn s i : Int) := by unfold decR; rw [if_pos (by omega)]; simp
theorem decN_in {s : ByteArray} {i : Nat} (h : i < s.size) : decN s i = (wd s i : Int) := by unfold decN; rw [if_pos (by omega)]; simp
theorem decG_in {s : ByteArray} {i : Nat} (h : i < s.size) : decG s i = gd s i := by unfold decG; rw [if_pos (by omega)]; simp
theorem decR_out {s : ByteArray} {i : Int} (h : i < 0 ∨ (s.size : Int) ≤ i) : decR s i = 0 := by unfold decR; rw [if_neg (by omega)]
theorem decN_out {s : ByteArray} {i : Int} (h : i < 0 ∨ (s.size : Int) ≤ i) : decN s i = 0 := by unfold decN; rw [if_neg (by omega)]
theorem decG_out {s : ByteArray} {i : Int} (h : i < 0 ∨ (s.size : Int) ≤ i) : decG s i = false := by unfold decG; rw [if_neg (by omega)]

/-- The rune, its size, and whether it is one, of four bytes of which n are there. -/
def dec3 (n b0 b1 b2 b3 : Nat) : Nat × Nat × Bool := ((Lib.decodeN n b0 b1 b2 b3).1, (Lib.decodeN n b0 b1 b2 b3).2, decide (b0 < 128) || decide (1 < (Lib.decodeN n b0 b1 b2 b3).2))
theorem dec3_at (s : ByteArray) (i : Nat) : (rn s i, wd s i, gd s i) = dec3 (s.size - i) (bt s i) (bt s (i + 1)) (bt s (i + 2)) (bt s (i + 3)) := by
  unfold rn gd wd dec3; rw [dec_eq]
theorem dec3_bad {n b0 b1 b2 b3 : Nat} (h : 128 ≤ b0) (h2 : b0 / 32 = 6 → ¬ (1 < n ∧ b1 / 64 = 2 ∧ 128 ≤ b0 % 32 * 64 + b1 % 64))
    (h3 : b0 / 16 = 14 → ¬ (2 < n ∧ b1 / 64 = 2 ∧ b2 / 64 = 2 ∧ 2048 ≤ b0 % 16 * 4096 + b1 % 64 * 64 + b2 % 64 ∧ (b0 % 16 * 4096 + b1 % 64 * 64 + b2 % 64 < 55296 ∨ 57343 < b0 % 16 * 4096 + b1 % 64 * 64 + b2 % 64)))
    (h4 : b0 / 8 = 30 → ¬ (3 < n ∧ b1 / 64 = 2 ∧ b2 / 64 = 2 ∧ b3 / 64 = 2 ∧ 65536 ≤ b0 % 8 * 262144 + b1 % 64 * 4096 + b2 % 64 * 64 + b3 % 64 ∧ b0 % 8 * 262144 + b1 % 64 * 4096 + b2 % 64 * 64 + b3 % 64 ≤ 1114111)) :
    dec3 n b0 b1 b2 b3 = (65533, 1, false) := by
  have hd : Lib.decodeN n b0 b1 b2 b3 = (65533, 1) := by
    unfold Lib.decodeN
    rw [if_neg (by omega)]
    repeat' split
    all_goals first | rfl | (exfalso; omega)
  unfold dec3; rw [hd]; simp; omega
theorem dec3_one {n b0 b1 b2 b3 : Nat} (h : b0 < 128) : dec3 n b0 b1 b2 b3 = (b0, 1, true) := by
  unfold dec3 Lib.decodeN; rw [if_pos h]; simp [h]
theorem dec3_two {n b0 b1 b2 b3 : Nat} (h0 : b0 / 32 = 6) (hn : 1 < n) (h1 : b1 / 64 = 2) (h : 128 ≤ b0 % 32 * 64 + b1 % 64) : dec3 n b0 b1 b2 b3 = (b0 % 32 * 64 + b1 % 64, 2, true) := by
  have hd : Lib.decodeN n b0 b1 b2 b3 = (b0 % 32 * 64 + b1 % 64, 2) := by
    unfold Lib.decodeN
    rw [if_neg (by omega), if_pos ⟨h0, hn, h1⟩, if_pos h]
  unfold dec3; rw [hd]; simp
theorem dec3_three {n b0 b1 b2 b3 : Nat} (h0 : b0 / 16 = 14) (hn : 2 < n) (h1 : b1 / 64 = 2) (h2 : b2 / 64 = 2) (h : 2048 ≤ b0 % 16 * 4096 + b1 % 64 * 64 + b2 % 64)
    (hs : b0 % 16 * 4096 + b1 % 64 * 64 + b2 % 64 < 55296 ∨ 57343 < b0 % 16 * 4096 + b1 % 64 * 64 + b2 % 64) : dec3 n b0 b1 b2 b3 = (b0 % 16 * 4096 + b1 % 64 * 64 + b2 % 64, 3, true) := by
  have hd : Lib.decodeN n b0 b1 b2 b3 = (b0 % 16 * 4096 + b1 % 64 * 64 + b2 % 64, 3) := by
    unfold Lib.decodeN
    rw [if_neg (by omega), if_neg (by omega), if_pos (by omega), if_pos (by omega)]
  unfold dec3; rw [hd]; simp
theorem dec3_four {n b0 b1 b2 b3 : Nat} (h0 : b0 / 8 = 30) (hn : 3 < n) (h1 : b1 / 64 = 2) (h2 : b2 / 64 = 2) (h3 : b3 / 64 = 2) (h : 65536 ≤ b0 % 8 * 262144 + b1 % 64 * 4096 + b2 % 64 * 64 + b3 % 64)
    (hs : b0 % 8 * 262144 + b1 % 64 * 4096 + b2 % 64 * 64 + b3 % 64 ≤ 1114111) : dec3 n b0 b1 b2 b3 = (b0 % 8 * 262144 + b1 % 64 * 4096 + b2 % 64 * 64 + b3 % 64, 4, true) := by
  have hd : Lib.decodeN n b0 b1 b2 b3 = (b0 % 8 * 262144 + b1 % 64 * 4096 + b2 % 64 * 64 + b3 % 64, 4) := by
    unfold Lib.decodeN
    rw [if_neg (by omega), if_neg (by omega), if_neg (by omega), if_pos (by omega), if_pos (by omega)]
  unfold dec3; rw [hd]; simp
set_option maxRecDepth 100000 in
set_option maxHeartbeats 2000000 in
/-- A window of four bytes says the same. -/
theorem dec3_window {n m b0 b1 b2 b3 c1 c2 c3 : Nat} (hm : m = min n 4) (h1 : 1 < n → b1 = c1) (h2 : 2 < n → b2 = c2) (h3 : 3 < n → b3 = c3) : dec3 n b0 b1 b2 b3 = dec3 m b0 c1 c2 c3 := by
  have hd : Lib.decodeN n b0 b1 b2 b3 = Lib.decodeN m b0 c1 c2 c3 := by
    rcases (by omega : n ≤ 1 ∨ n = 2 ∨ n = 3 ∨ 4 ≤ n) with h | h | h | h
    · have a1 : ¬ 1 < n := by omega
      have a2 : ¬ 1 < m := by omega
      simp only [Lib.decodeN, a1, a2, false_and, and_false, if_false]
    · obtain rfl := h1 (by omega)
      have : m = 2 := by omega
      subst this h
      simp only [Lib.decodeN, Nat.lt_irrefl, show ¬ 3 < 2 by omega, false_and, and_false, if_false]
    · obtain rfl := h1 (by omega)
      obtain rfl := h2 (by omega)
      have : m = 3 := by omega
      subst this h
      simp only [Lib.decodeN, Nat.lt_irrefl, false_and, and_false, if_false]
    · obtain rfl := h1 (by omega)
      obtain rfl := h2 (by omega)
      obtain rfl := h3 (by omega)
      have : m = 4 := by omega
      subst this
      simp only [Lib.decodeN, show 1 < n by omega, show 2 < n by omega, show 3 < n by omega, show 1 < 4 by omega, show 2 < 4 by omega, show 3 < 4 by omega]
  unfold dec3; rw [hd]

theorem dec_is {s : ByteArray} {i : Nat} (hi : i < s.size) {R N : Nat} {G : Bool} (h : dec3 (s.size - i) (bt s i) (bt s (i + 1)) (bt s (i + 2)) (bt s (i + 3)) = (R, N, G)) : (R : Int) = decR s i ∧ (N : Int) = decN s i ∧ G = decG s i := by
  rw [← dec3_at] at h
  injection h with h1 h2
  injection h2 with h2 h3
  rw [decR_in hi, decN_in hi, decG_in hi, h1, h2, h3]
  exact ⟨rfl, rfl, rfl⟩

theorem dec_ret {s : ByteArray} {i : Nat} (hi : i < s.size) {R N : Nat} {G : Bool} (h : dec3 (s.size - i) (bt s i) (bt s (i + 1)) (bt s (i + 2)) (bt s (i + 3)) = (R, N, G)) {k j : IntKind} {a b : Int} {g : Bool} (h1 : a = (R : Int)) (h2 : b = (N : Int)) (h3 : g = G) :
    Ending.returned (.tuple #[.int k a, .int j b, .bool g]) = .returned (.tuple #[.int k (decR s i), .int j (decN s i), .bool (decG s i)]) := by
  obtain ⟨e1, e2, e3⟩ := dec_is hi h
  exact ret_iib (h1.trans e1) (h2.trans e2) (h3.trans e3)
theorem dec_row {s : ByteArray} {i : Nat} (hi : i < s.size) {R N : Nat} {G : Bool} (h : dec3 (s.size - i) (bt s i) (bt s (i + 1)) (bt s (i + 2)) (bt s (i + 3)) = (R, N, G)) {k j m : IntKind} {a b u v : Int} {g : Bool} (h0 : u = v) (h1 : a = (R : Int)) (h2 : b = (N : Int)) (h3 : g = G) :
    Ending.returned (.agg #[.int m u, .int k a, .int j b, .bool g]) = .returned (.agg #[.int m v, .int k (decR s i), .int j (decN s i), .bool (decG s i)]) := by
  obtain ⟨e1, e2, e3⟩ := dec_is hi h
  exact ret_row h0 (h1.trans e1) (h2.trans e2) (h3.trans e3)

/-- The bytes of a text, as cells. -/
def bcs (s : ByteArray) : List Value := s.data.toList.map fun b => Value.int .u8 (b.toNat : Int)
theorem bcs_len (s : ByteArray) : (bcs s).length = s.size := by simp [bcs]
theorem bcs_at {s : ByteArray} {i : Nat} (h : i < s.size) : (bcs s)[i]? = some (.int .u8 (bt s i : Int)) := by
  unfold bcs bt
  have h' : i < s.data.toList.length := by simpa using h
  rw [List.getElem?_map, List.getElem?_eq_getElem h']
  simp
  unfold ByteArray.get!
  simp [Array.getElem!_eq_getD, Array.getD, show i < s.data.size from h]
  rw [dif_pos h]

/-! ### bits -/
theorem u8_low6 {c : Int} (h0 : 0 ≤ c) (h1 : c < 256) : bits .and .u8 c 63 = c % 64 := by
  obtain ⟨n, rfl⟩ := Int.eq_ofNat_of_zero_le h0
  have := u8_and_nat n 63 (by omega) (by omega)
  rw [nat_mask6] at this; exact_mod_cast this
theorem u8_low5 {c : Int} (h0 : 0 ≤ c) (h1 : c < 256) : bits .and .u8 c 31 = c % 32 := by
  obtain ⟨n, rfl⟩ := Int.eq_ofNat_of_zero_le h0
  have := u8_and_nat n 31 (by omega) (by omega)
  rw [nat_mask5] at this; exact_mod_cast this
theorem u8_low4 {c : Int} (h0 : 0 ≤ c) (h1 : c < 256) : bits .and .u8 c 15 = c % 16 := by
  obtain ⟨n, rfl⟩ := Int.eq_ofNat_of_zero_le h0
  have := u8_and_nat n 15 (by omega) (by omega)
  rw [nat_mask4] at this; exact_mod_cast this
theorem u8_low3 {c : Int} (h0 : 0 ≤ c) (h1 : c < 256) : bits .and .u8 c 7 = c % 8 := by
  obtain ⟨n, rfl⟩ := Int.eq_ofNat_of_zero_le h0
  have := u8_and_nat n 7 (by omega) (by omega)
  rw [nat_mask3] at this; exact_mod_cast this
theorem i32_join6 {r c : Int} (h0 : 0 ≤ r) (h1 : r ≤ 2097151) (c0 : 0 ≤ c) (c1 : c < 64) : bits .or .i32 (r * 64) c = r * 64 + c := by
  obtain ⟨n, rfl⟩ := Int.eq_ofNat_of_zero_le h0
  obtain ⟨m, rfl⟩ := Int.eq_ofNat_of_zero_le c0
  have hj := nat_join 6 (n * 64) m (by omega) (by omega)
  show IntKind.i32.wrap ((BitVec.ofInt 32 ((n : Int) * 64) ||| BitVec.ofInt 32 (m : Int)).toNat : Int) = _
  have e1 : BitVec.ofInt 32 ((n : Int) * 64) = BitVec.ofNat 32 (n * 64) := by
    rw [show (n : Int) * 64 = ((n * 64 : Nat) : Int) by omega, BitVec.ofInt_natCast]
  rw [e1, BitVec.ofInt_natCast, BitVec.toNat_or, BitVec.toNat_ofNat, BitVec.toNat_ofNat, Nat.mod_eq_of_lt (by omega), Nat.mod_eq_of_lt (by omega), hj, IntKind.wrap_i32]
  omega
end Go.Proofs.YtdlppdoankeilaaDoor
