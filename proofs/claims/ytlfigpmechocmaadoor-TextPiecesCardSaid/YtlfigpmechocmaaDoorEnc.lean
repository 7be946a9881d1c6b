/- Plain: a rune's bytes are the text's own. No program in sight. -/
import Derived.Test.YtlfigpmechocmaaDoorApp
import Derived.Test.YtlfigpmechocmaaDoorConv
import Derived.Lib.AppendStr
namespace Go.Proofs.YtlfigpmechocmaaDoor
set_option linter.unusedVariables false
set_option linter.unusedSimpArgs false
open Go.RowKit

theorem u8_nat {x : Nat} (h : x < 256) : ((UInt8.ofNat x).toNat : Int) = (x : Int) := by rw [UInt8.toNat_ofNat']; omega
theorem bc {s : ByteArray} {i x : Nat} (h : x < 256) (e : x = bt s i) : (Value.int .u8 ((UInt8.ofNat x).toNat : Int)) = byteC s i := by rw [u8_nat h, e]; rfl
theorem enc_cells {s : ByteArray} {k : Nat} (hk : k < s.size) (hg : gd s k = true) : Lib.strCells (Utf8.encode (rn s k : Int)) = (List.range (wd s k)).map fun j => byteC s (k + j) := by
  have e := dec3_at s k
  have b0 := bt_lt s k
  have b1 := bt_lt s (k + 1)
  have b2 := bt_lt s (k + 2)
  have b3 := bt_lt s (k + 3)
  have fin : ∀ R N, dec3 (s.size - k) (bt s k) (bt s (k + 1)) (bt s (k + 2)) (bt s (k + 3)) = (R, N, true) → rn s k = R ∧ wd s k = N := fun R N h => by
    rw [h] at e; injection e with e1 e2; injection e2 with e2 _; exact ⟨e1, e2⟩
  have nope : dec3 (s.size - k) (bt s k) (bt s (k + 1)) (bt s (k + 2)) (bt s (k + 3)) = (65533, 1, false) → False := fun h => by
    rw [h] at e; injection e with e1 e2; injection e2 with _ e3; rw [hg] at e3; cases e3
  have val : ∀ c : Nat, (c < 55296 ∨ (57344 ≤ c ∧ c ≤ 1114111)) → Utf8.valid (c : Int) = true := fun c h => by unfold Utf8.valid; simp; omega
  by_cases h0 : bt s k < 128
  · obtain ⟨e1, e2⟩ := fin _ _ (dec3_one h0)
    rw [e1, e2]
    unfold Utf8.encode
    simp only [val _ (.inl (by omega : bt s k < 55296)), if_true, Int.toNat_natCast]
    rw [if_pos h0]
    simp only [Lib.strCells, List.map_cons, List.map_nil]
    rw [bc (s := s) (i := k) (by omega) rfl]; rfl
  · by_cases h2 : bt s k / 32 = 6
    · by_cases hc : 1 < s.size - k ∧ bt s (k + 1) / 64 = 2 ∧ 128 ≤ bt s k % 32 * 64 + bt s (k + 1) % 64
      · obtain ⟨e1, e2⟩ := fin _ _ (dec3_two h2 hc.1 hc.2.1 hc.2.2)
        rw [e1, e2]
        unfold Utf8.encode
        simp only [val _ (.inl (by omega : bt s k % 32 * 64 + bt s (k + 1) % 64 < 55296)), if_true, Int.toNat_natCast]
        rw [if_neg (by omega), if_pos (by omega)]
        simp only [Lib.strCells, List.map_cons, List.map_nil]
        rw [bc (s := s) (i := k), bc (s := s) (i := k + 1)]
        · rfl
        all_goals omega
      · exact (nope (dec3_bad (by omega) (fun _ => hc) (by omega) (by omega))).elim
    · by_cases h3 : bt s k / 16 = 14
      · by_cases hc : 2 < s.size - k ∧ bt s (k + 1) / 64 = 2 ∧ bt s (k + 2) / 64 = 2 ∧ 2048 ≤ bt s k % 16 * 4096 + bt s (k + 1) % 64 * 64 + bt s (k + 2) % 64 ∧ (bt s k % 16 * 4096 + bt s (k + 1) % 64 * 64 + bt s (k + 2) % 64 < 55296 ∨ 57343 < bt s k % 16 * 4096 + bt s (k + 1) % 64 * 64 + bt s (k + 2) % 64)
        · obtain ⟨e1, e2⟩ := fin _ _ (dec3_three h3 hc.1 hc.2.1 hc.2.2.1 hc.2.2.2.1 hc.2.2.2.2)
          rw [e1, e2]
          unfold Utf8.encode
          simp only [val (bt s k % 16 * 4096 + bt s (k + 1) % 64 * 64 + bt s (k + 2) % 64) (by omega), if_true, Int.toNat_natCast]
          rw [if_neg (by omega), if_neg (by omega), if_pos (by omega)]
          simp only [Lib.strCells, List.map_cons, List.map_nil]
          rw [bc (s := s) (i := k), bc (s := s) (i := k + 1), bc (s := s) (i := k + 2)]
          · rfl
          all_goals omega
        · exact (nope (dec3_bad (by omega) (by omega) (fun _ => hc) (by omega))).elim
      · by_cases h4 : bt s k / 8 = 30
        · by_cases hc : 3 < s.size - k ∧ bt s (k + 1) / 64 = 2 ∧ bt s (k + 2) / 64 = 2 ∧ bt s (k + 3) / 64 = 2 ∧ 65536 ≤ bt s k % 8 * 262144 + bt s (k + 1) % 64 * 4096 + bt s (k + 2) % 64 * 64 + bt s (k + 3) % 64 ∧ bt s k % 8 * 262144 + bt s (k + 1) % 64 * 4096 + bt s (k + 2) % 64 * 64 + bt s (k + 3) % 64 ≤ 1114111
          · obtain ⟨e1, e2⟩ := fin _ _ (dec3_four h4 hc.1 hc.2.1 hc.2.2.1 hc.2.2.2.1 hc.2.2.2.2.1 hc.2.2.2.2.2)
            rw [e1, e2]
            unfold Utf8.encode
            simp only [val (bt s k % 8 * 262144 + bt s (k + 1) % 64 * 4096 + bt s (k + 2) % 64 * 64 + bt s (k + 3) % 64) (by omega), if_true, Int.toNat_natCast]
            rw [if_neg (by omega), if_neg (by omega), if_neg (by omega)]
            simp only [Lib.strCells, List.map_cons, List.map_nil]
            rw [bc (s := s) (i := k), bc (s := s) (i := k + 1), bc (s := s) (i := k + 2), bc (s := s) (i := k + 3)]
            · rfl
            all_goals omega
          · exact (nope (dec3_bad (by omega) (by omega) (by omega) (fun _ => hc))).elim
        · exact (nope (dec3_bad (by omega) (by omega) (by omega) (by omega))).elim
theorem firsts_more (f : Nat → Value) (k m : Nat) : firsts f (k + m) = firsts f k ++ (List.range m).map fun j => f (k + j) := by
  unfold firsts; rw [List.range_add, List.map_append, List.map_map]; rfl
theorem enc_size {s : ByteArray} {k : Nat} (hk : k < s.size) (hg : gd s k = true) : (Utf8.encode (rn s k : Int)).size = wd s k := by
  have := congrArg List.length (enc_cells hk hg)
  rw [Lib.strCells_length] at this; simpa using this
theorem decodeN_bad (n b0 b1 b2 b3 : Nat) (h : 128 ≤ b0) : (Lib.decodeN n b0 b1 b2 b3).2 ≤ 1 → (Lib.decodeN n b0 b1 b2 b3).1 = 65533 := by
  unfold Lib.decodeN
  repeat' split
  all_goals intro hh
  all_goals first
    | omega
    | rfl
    | (simp at hh; done)
/-- What is no rune is U+FFFD, of one byte. -/
theorem bad_is {s : ByteArray} {k : Nat} (hk : k < s.size) (hg : gd s k = false) : rn s k = 65533 ∧ wd s k = 1 := by
  unfold gd at hg
  simp at hg
  have hw := wd_bd hk
  have e := dec_eq s k
  refine ⟨?_, by omega⟩
  have h2 : (Utf8.decode s k).2 ≤ 1 := by have := hg.2; unfold wd at this; omega
  unfold rn
  rw [e] at h2 ⊢
  exact decodeN_bad _ _ _ _ _ hg.1 h2
theorem own_base {w : World} {base : Nat} {e : TypeId} {size n : Nat} {v : Value} {xs : List Value} (h : w.ownsRow base e size v n xs) : ∀ k, v.ownBlock = some k → base ≤ k := fun k e => by
  rcases h.2 with ⟨rfl, _⟩ | ⟨g, cap, cur, rfl, hb, _⟩
  · cases e
  · injection e with e; simp at e; omega
end Go.Proofs.YtlfigpmechocmaaDoor
