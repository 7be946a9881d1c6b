/- Plain: what is quoted reads as it was: the token of a quoted text. No program in sight. -/
import Derived.Test.YtdlppdoankeilaaDoorWin2
import Derived.Test.YtdlppdoankeilaaDoorQuote
import Derived.KernelRfl
namespace Go.Proofs.YtdlppdoankeilaaDoor
set_option linter.unusedVariables false
set_option linter.unusedSimpArgs false
set_option linter.unnecessarySimpa false
open Go.RowKit
/-- These bytes stand here. -/
def Has (q : ByteArray) (j : Nat) (L : List UInt8) : Prop := j + L.length ≤ q.size ∧ ∀ (k : Nat) (c : UInt8), L[k]? = some c → bt q (j + k) = c.toNat
theorem Has.left {q : ByteArray} {j : Nat} {L M : List UInt8} (h : Has q j (L ++ M)) : Has q j L :=
  ⟨by have := h.1; rw [List.length_append] at this; omega, fun k c hk => h.2 k c (by rw [List.getElem?_append_left (List.getElem?_eq_some_iff.1 hk).1]; exact hk)⟩
theorem Has.right {q : ByteArray} {j : Nat} {L M : List UInt8} (h : Has q j (L ++ M)) : Has q (j + L.length) M :=
  ⟨by have := h.1; rw [List.length_append] at this; omega, fun k c hk => by
    rw [Nat.add_assoc]
    exact h.2 (L.length + k) c (by rw [List.getElem?_append_right (by omega), Nat.add_sub_cancel_left]; exact hk)⟩
theorem Has.all {q : ByteArray} {L : List UInt8} (h : q = ⟨L.toArray⟩) : Has q 0 L := by
  subst h
  refine ⟨by simp [ByteArray.size], fun k c hk => ?_⟩
  obtain ⟨hl, he⟩ := List.getElem?_eq_some_iff.1 hk
  rw [Nat.zero_add, data_at (show k < (⟨L.toArray⟩ : ByteArray).size by simpa [ByteArray.size] using hl)]
  simp [he]
theorem hexU_one : ∀ d : Fin 16, hexD (hexU d.1).toNat = (d.1 : Int) := by decide
theorem hex_two {q : ByteArray} {j r : Nat} (hr : r < 256) (h : Has q j ([92, 117, 123] ++ (hexB r).data.toList ++ [125])) : esc q j = some (Utf8.encode (r : Int), j + ([92, 117, 123] ++ (hexB r).data.toList ++ [125]).length) ↔ (r ≤ 1114111) := by
  refine ⟨fun _ => by omega, fun _ => ?_⟩
  have hl := h.1
  by_cases c : r < 16
  · rw [hexB_one c] at h hl ⊢
    have b1 : bt q (j + 1) = 117 := h.2 1 117 rfl
    have b2 : bt q (j + 2) = 123 := h.2 2 123 rfl
    have b3 : bt q (j + 3) = (hexU r).toNat := h.2 3 (hexU r) rfl
    have b4 : bt q (j + 4) = 125 := h.2 4 125 rfl
    have hd : hexD (bt q (j + 3)) = (r : Int) := by rw [b3]; exact hexU_one ⟨r, c⟩
    simp only [List.length_append, List.length_cons, List.length_nil] at hl ⊢
    have he : hexEnd q (j + 3) (j + 9) = j + 4 := by
      rw [hexEnd_go (by omega) (by omega) (by rw [hd]; omega), hexEnd_stop (by rintro ⟨_, _, q3⟩; rw [show j + 3 + 1 = j + 4 by omega, b4] at q3; exact absurd q3 (by decide))]
    have hv : hexVal q (j + 3) (j + 9) 0 = (r : Int) := by
      rw [hexVal_go (by omega) (by omega) (by rw [hd]; omega), hd, hexVal_stop (by rintro ⟨_, _, q3⟩; rw [show j + 3 + 1 = j + 4 by omega, b4] at q3; exact absurd q3 (by decide))]
      omega
    unfold esc
    rw [b1, if_pos (by omega), if_neg (by decide), if_neg (by decide), if_neg (by decide), if_neg (by decide), if_neg (by decide), if_pos rfl]
    rw [if_pos (by
      unfold hexOk
      rw [he, hv, b2, b4]
      simp only [Bool.and_eq_true, decide_eq_true_eq, beq_self_eq_true, Bool.not_eq_true', Bool.and_eq_false_iff, decide_eq_false_iff_not]
      refine ⟨⟨⟨⟨⟨⟨by omega, trivial⟩, by omega⟩, by omega⟩, trivial⟩, by omega⟩, by omega⟩), he, hv]
  · rw [hexB_two (by omega)] at h hl ⊢
    have b1 : bt q (j + 1) = 117 := h.2 1 117 rfl
    have b2 : bt q (j + 2) = 123 := h.2 2 123 rfl
    have b3 : bt q (j + 3) = (hexU (r / 16)).toNat := h.2 3 (hexU (r / 16)) rfl
    have b4 : bt q (j + 4) = (hexU (r % 16)).toNat := h.2 4 (hexU (r % 16)) rfl
    have b5 : bt q (j + 5) = 125 := h.2 5 125 rfl
    have hd : hexD (bt q (j + 3)) = ((r / 16 : Nat) : Int) := by rw [b3]; exact hexU_one ⟨r / 16, by omega⟩
    have hd2 : hexD (bt q (j + 4)) = ((r % 16 : Nat) : Int) := by rw [b4]; exact hexU_one ⟨r % 16, by omega⟩
    simp only [List.length_append, List.length_cons, List.length_nil] at hl ⊢
    have he : hexEnd q (j + 3) (j + 9) = j + 5 := by
      rw [hexEnd_go (by omega) (by omega) (by rw [hd]; omega), hexEnd_go (i := j + 4) (by omega) (by omega) (by rw [hd2]; omega), hexEnd_stop (by rintro ⟨_, _, q3⟩; rw [show j + 4 + 1 = j + 5 by omega, b5] at q3; exact absurd q3 (by decide))]
    have hv : hexVal q (j + 3) (j + 9) 0 = (r : Int) := by
      rw [hexVal_go (by omega) (by omega) (by rw [hd]; omega), hd, hexVal_go (i := j + 4) (by omega) (by omega) (by rw [hd2]; omega), hd2, hexVal_stop (by rintro ⟨_, _, q3⟩; rw [show j + 4 + 1 = j + 5 by omega, b5] at q3; exact absurd q3 (by decide))]
      omega
    unfold esc
    rw [b1, if_pos (by omega), if_neg (by decide), if_neg (by decide), if_neg (by decide), if_neg (by decide), if_neg (by decide), if_pos rfl]
    rw [if_pos (by
      unfold hexOk
      rw [he, hv, b2, b5]
      simp only [Bool.and_eq_true, decide_eq_true_eq, beq_self_eq_true, Bool.not_eq_true', Bool.and_eq_false_iff, decide_eq_false_iff_not]
      refine ⟨⟨⟨⟨⟨⟨by omega, trivial⟩, by omega⟩, by omega⟩, trivial⟩, by omega⟩, by omega⟩), he, hv]
theorem u8n {x : Nat} (h : x < 256) : (x.toUInt8).toNat = x := by simp [Nat.toUInt8, UInt8.toNat_ofNat']; omega
theorem enc_at {L : List Int} {k : Nat} {x : Int} (h : L[k]? = some x) : (L.map fun y => y.toNat.toUInt8)[k]? = some x.toNat.toUInt8 := by rw [List.getElem?_map, h]; rfl
/-- A rune's bytes are read as the rune. -/
theorem plain_one {q : ByteArray} {j r : Nat} (h1 : r ≤ 1114111) (hs : r < 55296 ∨ 57343 < r) (h : Has q j (Lib.encodeRune (r : Int))) : rn q j = r ∧ wd q j = (Lib.encodeRune (r : Int)).length ∧ (128 ≤ r → 128 ≤ bt q j) ∧ (r < 128 → bt q j = r) := by
  have hl := h.1
  have hat : ∀ k x, (Lib.encodeRuneZ (r : Int))[k]? = some x → 0 ≤ x → x < 256 → bt q (j + k) = x.toNat := fun k x hx h0 h2 => by
    rw [h.2 k _ (enc_at hx), u8n (by omega)]
  have key : Utf8.decode q j = Lib.decodeN (q.size - j) (bt q j) (bt q (j + 1)) (bt q (j + 2)) (bt q (j + 3)) := Lib.decode_at q j
  unfold rn wd
  rw [key]
  unfold Lib.encodeRune at hl ⊢
  rw [List.length_map] at hl ⊢
  by_cases c1 : r < 128
  · have e := Lib.encodeRuneZ_one (r := (r : Int)) (by omega) (by omega)
    have b0 := hat 0 r (by rw [e]; rfl) (by omega) (by omega)
    rw [Nat.add_zero] at b0
    rw [e, b0]
    unfold Lib.decodeN
    rw [if_pos (by omega)]
    exact ⟨by simp, rfl, fun q => by omega, fun _ => by omega⟩
  · by_cases c2 : r < 2048
    · have e := Lib.encodeRuneZ_two (r := (r : Int)) (by omega) (by omega)
      have b0 := hat 0 _ (by rw [e]; rfl) (by omega) (by omega)
      have b1 := hat 1 _ (by rw [e]; rfl) (by omega) (by omega)
      rw [Nat.add_zero] at b0
      rw [e] at hl ⊢
      simp only [List.length_cons, List.length_nil] at hl ⊢
      generalize bt q (j + 2) = y2
      generalize bt q (j + 3) = y3
      rw [b0, b1]
      unfold Lib.decodeN
      rw [if_neg (by omega), if_pos (by omega), if_pos (by omega)]
      refine ⟨?_, rfl, fun _ => by omega, fun q => by omega⟩
      show _ * 64 + _ = r
      omega
    · by_cases c3 : r < 65536
      · have e := Lib.encodeRuneZ_three (r := (r : Int)) (by omega)
        have b0 := hat 0 _ (by rw [e]; rfl) (by omega) (by omega)
        have b1 := hat 1 _ (by rw [e]; rfl) (by omega) (by omega)
        have b2 := hat 2 _ (by rw [e]; rfl) (by omega) (by omega)
        rw [Nat.add_zero] at b0
        rw [e] at hl ⊢
        simp only [List.length_cons, List.length_nil] at hl ⊢
        generalize bt q (j + 3) = y3
        rw [b0, b1, b2]
        unfold Lib.decodeN
        rw [if_neg (by omega), if_neg (by omega), if_pos (by omega), if_pos (by omega)]
        refine ⟨?_, rfl, fun _ => by omega, fun q => by omega⟩
        show _ * 4096 + _ * 64 + _ = r
        omega
      · have e := Lib.encodeRuneZ_four (r := (r : Int)) (by omega) (by omega)
        have b0 := hat 0 _ (by rw [e]; rfl) (by omega) (by omega)
        have b1 := hat 1 _ (by rw [e]; rfl) (by omega) (by omega)
        have b2 := hat 2 _ (by rw [e]; rfl) (by omega) (by omega)
        have b3 := hat 3 _ (by rw [e]; rfl) (by omega) (by omega)
        rw [Nat.add_zero] at b0
        rw [e] at hl ⊢
        simp only [List.length_cons, List.length_nil] at hl ⊢
        rw [b0, b1, b2, b3]
        unfold Lib.decodeN
        rw [if_neg (by omega), if_neg (by omega), if_neg (by omega), if_pos (by omega), if_pos (by omega)]
        refine ⟨?_, rfl, fun _ => by omega, fun q => by omega⟩
        show _ * 262144 + _ * 4096 + _ * 64 + _ = r
        omega
theorem qrune_one {q : ByteArray} {j r : Nat} (h1 : r ≤ 1114111) (hs : r < 55296 ∨ 57343 < r) (h : Has q j (qrune r)) : bt q j ≠ 34 ∧ ¬ (bt q j = 10 ∨ bt q j = 13) ∧ one q j = some (Utf8.encode (r : Int), j + (qrune r).length) := by
  have hl := h.1
  by_cases c1 : r = 92 ∨ r = 34
  · rcases c1 with rfl | rfl
    · have e : qrune 92 = [92, 92] := by decide
      rw [e] at h hl ⊢
      have b0 : bt q j = 92 := h.2 0 92 rfl
      have b1 : bt q (j + 1) = 92 := h.2 1 92 rfl
      simp at hl
      refine ⟨by omega, by omega, ?_⟩
      unfold one esc
      rw [if_pos b0, if_pos (by omega), b1]
      kernel_rfl
    · have e : qrune 34 = [92, 34] := by decide
      rw [e] at h hl ⊢
      have b0 : bt q j = 92 := h.2 0 92 rfl
      have b1 : bt q (j + 1) = 34 := h.2 1 34 rfl
      simp at hl
      refine ⟨by omega, by omega, ?_⟩
      unfold one esc
      rw [if_pos b0, if_pos (by omega), b1]
      kernel_rfl
  · by_cases c2 : r = 10
    · subst c2
      rw [qrune_nl] at h hl ⊢
      have b0 : bt q j = 92 := h.2 0 92 rfl
      have b1 : bt q (j + 1) = 110 := h.2 1 110 rfl
      simp at hl
      refine ⟨by omega, by omega, ?_⟩
      unfold one esc
      rw [if_pos b0, if_pos (by omega), b1]
      kernel_rfl
    · by_cases c3 : r = 13
      · subst c3
        rw [qrune_cr] at h hl ⊢
        have b0 : bt q j = 92 := h.2 0 92 rfl
        have b1 : bt q (j + 1) = 114 := h.2 1 114 rfl
        simp at hl
        refine ⟨by omega, by omega, ?_⟩
        unfold one esc
        rw [if_pos b0, if_pos (by omega), b1]
        kernel_rfl
      · by_cases c4 : r = 9
        · subst c4
          rw [qrune_tab] at h hl ⊢
          have b0 : bt q j = 92 := h.2 0 92 rfl
          have b1 : bt q (j + 1) = 116 := h.2 1 116 rfl
          simp at hl
          refine ⟨by omega, by omega, ?_⟩
          unfold one esc
          rw [if_pos b0, if_pos (by omega), b1]
          kernel_rfl
        · by_cases c5 : r < 32 ∨ r = 127
          · rw [qrune_hex c5 c2 c3 c4] at h hl ⊢
            have b0 : bt q j = 92 := h.2 0 92 rfl
            refine ⟨by omega, by omega, ?_⟩
            unfold one
            rw [if_pos b0]
            exact (hex_two (by omega) h).2 h1
          · rw [qrune_plain (by omega) (by omega) (by omega) (by omega)] at h hl ⊢
            obtain ⟨e1, e2, e3, e4⟩ := plain_one h1 hs h
            refine ⟨by omega, by omega, ?_⟩
            unfold one
            rw [if_neg (by omega), e1, e2]
/-- What is read of runes. -/
def reT (s : ByteArray) (l : List Nat) : ByteArray := l.foldl (fun a i => a ++ Utf8.encode (rn s i : Int)) ⟨#[]⟩
theorem quoted_body (s q : ByteArray) : ∀ (l : List Nat) (j : Nat) (acc : ByteArray), Has q j (qbody s l ++ [34]) → quotedGo q 34 j acc = some (l.foldl (fun a i => a ++ Utf8.encode (rn s i : Int)) acc, j + (qbody s l).length + 1)
  | [], j, acc, h => by
    have b0 : bt q j = 34 := h.2 0 34 rfl
    have hl := h.1
    simp [qbody] at hl
    rw [quotedGo_close (by omega) b0]; rfl
  | k :: l, j, acc, h => by
    have e : qbody s (k :: l) ++ [34] = qrune (rn s k) ++ (qbody s l ++ [34]) := by simp [qbody]
    rw [e] at h
    have hb := rn_bd s k
    obtain ⟨h1, h2, h3⟩ := qrune_one hb.1 (by omega) h.left
    have hl := h.1
    rw [List.length_append, List.length_append, List.length_singleton] at hl
    rw [quotedGo_step (by omega) h1 h2 h3, quoted_body s q l _ _ h.right]
    have e2 : (qbody s (k :: l)).length = (qrune (rn s k)).length + (qbody s l).length := by simp [qbody]
    rw [e2, List.foldl_cons]
    congr 2
    omega
theorem quote_toks (s : ByteArray) : toks (quoteB s) 0 [] = ([⟨4, reT s (places s), 0, (quoteB s).size⟩, endT (quoteB s).size], none) := by
  have hA : Has (quoteB s) 0 (34 :: (qbody s (places s) ++ [34])) := Has.all (by unfold quoteB; simp)
  have h0 : bt (quoteB s) 0 = 34 := hA.2 0 34 rfl
  have hB : Has (quoteB s) 1 (qbody s (places s) ++ [34]) := Has.right (j := 0) (L := [34]) hA
  have hsz : (quoteB s).size = 1 + (qbody s (places s)).length + 1 := by unfold quoteB; simp [ByteArray.size]; omega
  have hq := quoted_body s (quoteB s) (places s) 1 ⟨#[]⟩ hB
  have hn : NoSkip (quoteB s) 0 := by unfold NoSkip; rw [h0]; exact ⟨by decide, fun q => absurd q.1 (by decide), fun q => absurd q.1 (by decide)⟩
  have ht : tokAt (quoteB s) 0 [] = some (⟨4, reT s (places s), 0, (quoteB s).size⟩, []) := by
    unfold tokAt quotedOf
    rw [h0, if_neg (by decide), if_neg (by decide), if_pos (by decide), hq, ← hsz]
    rfl
  rw [toks_step (by omega) (hn.skip (by omega)) (by omega) ht]
  show ((_ :: (toks (quoteB s) (quoteB s).size []).1, (toks (quoteB s) (quoteB s).size []).2) : List Tok × Option Nat) = _
  rw [toks_end (skip_end (Nat.lt_irrefl _)) (Nat.lt_irrefl _)]
  rfl
end Go.Proofs.YtdlppdoankeilaaDoor
