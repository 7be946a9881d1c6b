/- Some texts of this claim, put together. -/
import Derived.Test.YtcphkdooemengaaGreatDoorHBZ3
import Derived.Test.YtcphkdooemengaaGreatDoorHBZ11
import Derived.KernelRfl
import Derived.Test.YtcphkdooemengaaGreatDoorHBZ20
import Derived.Lib.ItoaNum
import Derived.Test.YtcphkdooemengaaGreatDoorHBZ6
namespace Go.Proofs.YtcphkdooemengaaGreatDoor
section
set_option linter.unusedVariables false
set_option linter.unusedSimpArgs false
set_option linter.unnecessarySimpa false
open Go.RowKit
/-- These bytes stand here. -/
def Has (q : ByteArray) (j : Nat) (L : List UInt8) : Prop := j + L.length ≤ q.size ∧ ∀ (k : Nat) (c : UInt8), L[k]? = some c → bt q (j + k) = c.toNat
theorem Has.left {q : ByteArray} {j : Nat} {L M : List UInt8} (h : Has q j (L ++ M)) : Has q j L :=
  ⟨by have := h.1; rw [List.length_append] at this; omega, fun k c hk => h.2 k c (by rw [List.getElem?_append_left (List.getElem?_eq_some_iff.1 hk).1]; exact hk)⟩
theorem Has.right {q : ByteArray} {j : Nat} {L M : List UInt8} (h : Has q j (L ++ M)) : Has q (j + L.length) M :=
  ⟨by have := h.1; rw [List.length_append] at this; omega, fun k c hk => by
    rw [Nat.add_assoc]
    exact h.2 (L.length + k) c (by rw [List.getElem?_append_right (by omega), Nat.add_sub_cancel_left]; exact hk)⟩
theorem Has.all {q : ByteArray} {L : List UInt8} (h : q = ⟨L.toArray⟩) : Has q 0 L := by
  subst h
  refine ⟨by simp [ByteArray.size], fun k c hk => ?_⟩
  obtain ⟨hl, he⟩ := List.getElem?_eq_some_iff.1 hk
  rw [Nat.zero_add, data_at (show k < (⟨L.toArray⟩ : ByteArray).size by simpa [ByteArray.size] using hl)]
  simp [he]
theorem hexU_one : ∀ d : Fin 16, hexD (hexU d.1).toNat = (d.1 : Int) := by decide
theorem hex_two {q : ByteArray} {j r : Nat} (hr : r < 256) (h : Has q j ([92, 117, 123] ++ (hexB r).data.toList ++ [125])) : esc q j = some (Utf8.encode (r : Int), j + ([92, 117, 123] ++ (hexB r).data.toList ++ [125]).length) ↔ (r ≤ 1114111) := by
  refine ⟨fun _ => by omega, fun _ => ?_⟩
  have hl := h.1
  by_cases c : r < 16
  · rw [hexB_one c] at h hl ⊢
    have b1 : bt q (j + 1) = 117 := h.2 1 117 rfl
    have b2 : bt q (j + 2) = 123 := h.2 2 123 rfl
    have b3 : bt q (j + 3) = (hexU r).toNat := h.2 3 (hexU r) rfl
    have b4 : bt q (j + 4) = 125 := h.2 4 125 rfl
    have hd : hexD (bt q (j + 3)) = (r : Int) := by rw [b3]; exact hexU_one ⟨r, c⟩
    simp only [List.length_append, List.length_cons, List.length_nil] at hl ⊢
    have he : hexEnd q (j + 3) (j + 9) = j + 4 := by
      rw [hexEnd_go (by omega) (by omega) (by rw [hd]; omega), hexEnd_stop (by rintro ⟨_, _, q3⟩; rw [show j + 3 + 1 = j + 4 by omega, b4] at q3; exact absurd q3 (by decide))]
    have hv : hexVal q (j + 3) (j + 9) 0 = (r : Int) := by
      rw [hexVal_go (by omega) (by omega) (by rw [hd]; omega), hd, hexVal_stop (by rintro ⟨_, _, q3⟩; rw [show j + 3 + 1 = j + 4 by omega, b4] at q3; exact absurd q3 (by decide))]
      omega
    unfold esc
    rw [b1, if_pos (by omega), if_neg (by decide), if_neg (by decide), if_neg (by decide), if_neg (by decide), if_neg (by decide), if_pos rfl]
    rw [if_pos (by
      unfold hexOk
      rw [he, hv, b2, b4]
      simp only [Bool.and_eq_true, decide_eq_true_eq, beq_self_eq_true, Bool.not_eq_true', Bool.and_eq_false_iff, decide_eq_false_iff_not]
      refine ⟨⟨⟨⟨⟨⟨by omega, trivial⟩, by omega⟩, by omega⟩, trivial⟩, by omega⟩, by omega⟩), he, hv]
  · rw [hexB_two (by omega)] at h hl ⊢
    have b1 : bt q (j + 1) = 117 := h.2 1 117 rfl
    have b2 : bt q (j + 2) = 123 := h.2 2 123 rfl
    have b3 : bt q (j + 3) = (hexU (r / 16)).toNat := h.2 3 (hexU (r / 16)) rfl
    have b4 : bt q (j + 4) = (hexU (r % 16)).toNat := h.2 4 (hexU (r % 16)) rfl
    have b5 : bt q (j + 5) = 125 := h.2 5 125 rfl
    have hd : hexD (bt q (j + 3)) = ((r / 16 : Nat) : Int) := by rw [b3]; exact hexU_one ⟨r / 16, by omega⟩
    have hd2 : hexD (bt q (j + 4)) = ((r % 16 : Nat) : Int) := by rw [b4]; exact hexU_one ⟨r % 16, by omega⟩
    simp only [List.length_append, List.length_cons, List.length_nil] at hl ⊢
    have he : hexEnd q (j + 3) (j + 9) = j + 5 := by
      rw [hexEnd_go (by omega) (by omega) (by rw [hd]; omega), hexEnd_go (i := j + 4) (by omega) (by omega) (by rw [hd2]; omega), hexEnd_stop (by rintro ⟨_, _, q3⟩; rw [show j + 4 + 1 = j + 5 by omega, b5] at q3; exact absurd q3 (by decide))]
    have hv : hexVal q (j + 3) (j + 9) 0 = (r : Int) := by
      rw [hexVal_go (by omega) (by omega) (by rw [hd]; omega), hd, hexVal_go (i := j + 4) (by omega) (by omega) (by rw [hd2]; omega), hd2, hexVal_stop (by rintro ⟨_, _, q3⟩; rw [show j + 4 + 1 = j + 5 by omega, b5] at q3; exact absurd q3 (by decide))]
      omega
    unfold esc
    rw [b1, if_pos (by omega), if_neg (by decide), if_neg (by decide), if_neg (by decide), if_neg (by decide), if_neg (by decide), if_pos rfl]
    rw [if_pos (by
      unfold hexOk
      rw [he, hv, b2, b5]
      simp only [Bool.and_eq_true, decide_eq_true_eq, beq_self_eq_true, Bool.not_eq_true', Bool.and_eq_false_iff, decide_eq_false_iff_not]
      refine ⟨⟨⟨⟨⟨⟨by omega, trivial⟩, by omega⟩, by omega⟩, trivial⟩, by omega⟩, by omega⟩), he, hv]
theorem u8n {x : Nat} (h : x < 256) : (x.toUInt8).toNat = x := by simp [Nat.toUInt8, UInt8.toNat_ofNat']; omega
theorem enc_at {L : List Int} {k : Nat} {x : Int} (h : L[k]? = some x) : (L.map fun y => y.toNat.toUInt8)[k]? = some x.toNat.toUInt8 := by rw [List.getElem?_map, h]; rfl
/-- A rune's bytes are read as the rune. -/
theorem plain_one {q : ByteArray} {j r : Nat} (h1 : r ≤ 1114111) (hs : r < 55296 ∨ 57343 < r) (h : Has q j (Lib.encodeRune (r : Int))) : rn q j = r ∧ wd q j = (Lib.encodeRune (r : Int)).length ∧ (128 ≤ r → 128 ≤ bt q j) ∧ (r < 128 → bt q j = r) := by
  have hl := h.1
  have hat : ∀ k x, (Lib.encodeRuneZ (r : Int))[k]? = some x → 0 ≤ x → x < 256 → bt q (j + k) = x.toNat := fun k x hx h0 h2 => by
    rw [h.2 k _ (enc_at hx), u8n (by omega)]
  have key : Utf8.decode q j = Lib.decodeN (q.size - j) (bt q j) (bt q (j + 1)) (bt q (j + 2)) (bt q (j + 3)) := Lib.decode_at q j
  unfold rn wd
  rw [key]
  unfold Lib.encodeRune at hl ⊢
  rw [List.length_map] at hl ⊢
  by_cases c1 : r < 128
  · have e := Lib.encodeRuneZ_one (r := (r : Int)) (by omega) (by omega)
    have b0 := hat 0 r (by rw [e]; rfl) (by omega) (by omega)
    rw [Nat.add_zero] at b0
    rw [e, b0]
    unfold Lib.decodeN
    rw [if_pos (by omega)]
    exact ⟨by simp, rfl, fun q => by omega, fun _ => by omega⟩
  · by_cases c2 : r < 2048
    · have e := Lib.encodeRuneZ_two (r := (r : Int)) (by omega) (by omega)
      have b0 := hat 0 _ (by rw [e]; rfl) (by omega) (by omega)
      have b1 := hat 1 _ (by rw [e]; rfl) (by omega) (by omega)
      rw [Nat.add_zero] at b0
      rw [e] at hl ⊢
      simp only [List.length_cons, List.length_nil] at hl ⊢
      generalize bt q (j + 2) = y2
      generalize bt q (j + 3) = y3
      rw [b0, b1]
      unfold Lib.decodeN
      rw [if_neg (by omega), if_pos (by omega), if_pos (by omega)]
      refine ⟨?_, rfl, fun _ => by omega, fun q => by omega⟩
      show _ * 64 + _ = r
      omega
    · by_cases c3 : r < 65536
      · have e := Lib.encodeRuneZ_three (r := (r : Int)) (by omega)
        have b0 := hat 0 _ (by rw [e]; rfl) (by omega) (by omega)
        have b1 := hat 1 _ (by rw [e]; rfl) (by omega) (by omega)
        have b2 := hat 2 _ (by rw [e]; rfl) (by omega) (by omega)
        rw [Nat.add_zero] at b0
        rw [e] at hl ⊢
        simp only [List.length_cons, List.length_nil] at hl ⊢
        generalize bt q (j + 3) = y3
        rw [b0, b1, b2]
        unfold Lib.decodeN
        rw [if_neg (by omega), if_neg (by omega), if_pos (by omega), if_pos (by omega)]
        refine ⟨?_, rfl, fun _ => by omega, fun q => by omega⟩
        show _ * 4096 + _ * 64 + _ = r
        omega
      · have e := Lib.encodeRuneZ_four (r := (r : Int)) (by omega) (by omega)
        have b0 := hat 0 _ (by rw [e]; rfl) (by omega) (by omega)
        have b1 := hat 1 _ (by rw [e]; rfl) (by omega) (by omega)
        have b2 := hat 2 _ (by rw [e]; rfl) (by omega) (by omega)
        have b3 := hat 3 _ (by rw [e]; rfl) (by omega) (by omega)
        rw [Nat.add_zero] at b0
        rw [e] at hl ⊢
        simp only [List.length_cons, List.length_nil] at hl ⊢
        rw [b0, b1, b2, b3]
        unfold Lib.decodeN
        rw [if_neg (by omega), if_neg (by omega), if_neg (by omega), if_pos (by omega), if_pos (by omega)]
        refine ⟨?_, rfl, fun _ => by omega, fun q => by omega⟩
        show _ * 262144 + _ * 4096 + _ * 64 + _ = r
        omega
theorem qrune_one {q : ByteArray} {j r : Nat} (h1 : r ≤ 1114111) (hs : r < 55296 ∨ 57343 < r) (h : Has q j (qrune r)) : bt q j ≠ 34 ∧ ¬ (bt q j = 10 ∨ bt q j = 13) ∧ one q j = some (Utf8.encode (r : Int), j + (qrune r).length) := by
  have hl := h.1
  by_cases c1 : r = 92 ∨ r = 34
  · rcases c1 with rfl | rfl
    · have e : qrune 92 = [92, 92] := by decide
      rw [e] at h hl ⊢
      have b0 : bt q j = 92 := h.2 0 92 rfl
      have b1 : bt q (j + 1) = 92 := h.2 1 92 rfl
      simp at hl
      refine ⟨by omega, by omega, ?_⟩
      unfold one esc
      rw [if_pos b0, if_pos (by omega), b1]
      kernel_rfl
    · have e : qrune 34 = [92, 34] := by decide
      rw [e] at h hl ⊢
      have b0 : bt q j = 92 := h.2 0 92 rfl
      have b1 : bt q (j + 1) = 34 := h.2 1 34 rfl
      simp at hl
      refine ⟨by omega, by omega, ?_⟩
      unfold one esc
      rw [if_pos b0, if_pos (by omega), b1]
      kernel_rfl
  · by_cases c2 : r = 10
    · subst c2
      rw [qrune_nl] at h hl ⊢
      have b0 : bt q j = 92 := h.2 0 92 rfl
      have b1 : bt q (j + 1) = 110 := h.2 1 110 rfl
      simp at hl
      refine ⟨by omega, by omega, ?_⟩
      unfold one esc
      rw [if_pos b0, if_pos (by omega), b1]
      kernel_rfl
    · by_cases c3 : r = 13
      · subst c3
        rw [qrune_cr] at h hl ⊢
        have b0 : bt q j = 92 := h.2 0 92 rfl
        have b1 : bt q (j + 1) = 114 := h.2 1 114 rfl
        simp at hl
        refine ⟨by omega, by omega, ?_⟩
        unfold one esc
        rw [if_pos b0, if_pos (by omega), b1]
        kernel_rfl
      · by_cases c4 : r = 9
        · subst c4
          rw [qrune_tab] at h hl ⊢
          have b0 : bt q j = 92 := h.2 0 92 rfl
          have b1 : bt q (j + 1) = 116 := h.2 1 116 rfl
          simp at hl
          refine ⟨by omega, by omega, ?_⟩
          unfold one esc
          rw [if_pos b0, if_pos (by omega), b1]
          kernel_rfl
        · by_cases c5 : r < 32 ∨ r = 127
          · rw [qrune_hex c5 c2 c3 c4] at h hl ⊢
            have b0 : bt q j = 92 := h.2 0 92 rfl
            refine ⟨by omega, by omega, ?_⟩
            unfold one
            rw [if_pos b0]
            exact (hex_two (by omega) h).2 h1
          · rw [qrune_plain (by omega) (by omega) (by omega) (by omega)] at h hl ⊢
            obtain ⟨e1, e2, e3, e4⟩ := plain_one h1 hs h
            refine ⟨by omega, by omega, ?_⟩
            unfold one
            rw [if_neg (by omega), e1, e2]
/-- What is read of runes. -/
def reT (s : ByteArray) (l : List Nat) : ByteArray := l.foldl (fun a i => a ++ Utf8.encode (rn s i : Int)) ⟨#[]⟩
theorem quoted_body (s q : ByteArray) : ∀ (l : List Nat) (j : Nat) (acc : ByteArray), Has q j (qbody s l ++ [34]) → quotedGo q 34 j acc = some (l.foldl (fun a i => a ++ Utf8.encode (rn s i : Int)) acc, j + (qbody s l).length + 1)
  | [], j, acc, h => by
    have b0 : bt q j = 34 := h.2 0 34 rfl
    have hl := h.1
    simp [qbody] at hl
    rw [quotedGo_close (by omega) b0]; rfl
  | k :: l, j, acc, h => by
    have e : qbody s (k :: l) ++ [34] = qrune (rn s k) ++ (qbody s l ++ [34]) := by simp [qbody]
    rw [e] at h
    have hb := rn_bd s k
    obtain ⟨h1, h2, h3⟩ := qrune_one hb.1 (by omega) h.left
    have hl := h.1
    rw [List.length_append, List.length_append, List.length_singleton] at hl
    rw [quotedGo_step (by omega) h1 h2 h3, quoted_body s q l _ _ h.right]
    have e2 : (qbody s (k :: l)).length = (qrune (rn s k)).length + (qbody s l).length := by simp [qbody]
    rw [e2, List.foldl_cons]
    congr 2
    omega
end
section
set_option linter.unusedVariables false
set_option linter.unusedSimpArgs false
set_option linter.unnecessarySimpa false
open Go.RowKit
/-! ### digits -/
def decVal (l : List UInt8) : Nat := l.foldl (fun a c => a * 10 + (c.toNat - 48)) 0
theorem decVal_snoc (l : List UInt8) (c : UInt8) : decVal (l ++ [c]) = decVal l * 10 + (c.toNat - 48) := by simp [decVal]
theorem dg_nat {d : Nat} (h : d < 10) : (UInt8.ofNat (48 + d)).toNat = 48 + d := by rw [UInt8.toNat_ofNat']; omega
theorem dec_val (u : Nat) : decVal (Lib.decDigits u) = u ∧ (∀ c ∈ Lib.decDigits u, 48 ≤ c.toNat ∧ c.toNat ≤ 57) ∧ Lib.decDigits u ≠ [] := by
  induction u using Nat.strongRecOn with
  | ind u ih =>
    rw [Lib.decDigits]
    split
    · rename_i h
      refine ⟨?_, ?_, by simp⟩
      · show 0 * 10 + ((UInt8.ofNat (48 + u)).toNat - 48) = u
        rw [dg_nat h]; omega
      · intro c hc
        have := dg_nat h
        rw [List.mem_singleton.1 hc]
        omega
    · rename_i h
      obtain ⟨h1, h2, h3⟩ := ih (u / 10) (by omega)
      have hd := dg_nat (d := u % 10) (by omega)
      refine ⟨?_, ?_, by simp⟩
      · rw [decVal_snoc, h1, hd]; omega
      · intro c hc
        rcases List.mem_append.1 hc with hc | hc
        · exact h2 c hc
        · rw [List.mem_singleton.1 hc]
          omega
/-- What stands in a number. -/
def numC (c : UInt8) : Prop := c.toNat = 45 ∨ (48 ≤ c.toNat ∧ c.toNat ≤ 57)
theorem itoa_chars (n : Int) : ∀ c ∈ Lib.itoa n, numC c := fun c hc => by
  unfold Lib.itoa at hc
  split at hc
  · rcases List.mem_cons.1 hc with rfl | hc
    · exact .inl rfl
    · exact .inr ((dec_val _).2.1 c hc)
  · exact .inr ((dec_val _).2.1 c hc)
theorem itoa_ne (n : Int) : Lib.itoa n ≠ [] := by
  unfold Lib.itoa
  split
  · simp
  · exact (dec_val _).2.2
theorem itoa_inj {a b : Int} (h : Lib.itoa a = Lib.itoa b) : a = b := by
  have key : ∀ u v : Nat, (45 : UInt8) :: Lib.decDigits u ≠ Lib.decDigits v := fun u v e => by
    have := (dec_val v).2.1 45 (by rw [← e]; simp)
    exact absurd this.1 (by decide)
  unfold Lib.itoa at h
  split at h <;> split at h
  · injection h with _ h
    have := congrArg decVal h
    rw [(dec_val _).1, (dec_val _).1] at this
    omega
  · exact absurd h (key _ _)
  · exact absurd h.symm (key _ _)
  · have := congrArg decVal h
    rw [(dec_val _).1, (dec_val _).1] at this
    omega
/-! ### pieces -/
theorem span_eq {P : UInt8 → Prop} : ∀ {l l' a a' : List UInt8}, (∀ c ∈ l, P c) → (∀ c ∈ l', P c) → (∀ c, a.head? = some c → ¬ P c) → (∀ c, a'.head? = some c → ¬ P c) → l ++ a = l' ++ a' → l = l' ∧ a = a'
  | [], [], a, a', _, _, _, _, h => ⟨rfl, h⟩
  | [], c :: l', a, a', _, h2, h3, _, h => by
    have e : a = c :: (l' ++ a') := h
    exact absurd (h2 c (by simp)) (h3 c (by rw [e]; rfl))
  | c :: l, [], a, a', h1, _, _, h4, h => by
    have e : a' = c :: (l ++ a) := h.symm
    exact absurd (h1 c (by simp)) (h4 c (by rw [e]; rfl))
  | c :: l, c' :: l', a, a', h1, h2, h3, h4, h => by
    injection h with e1 e2
    obtain ⟨e3, e4⟩ := span_eq (fun x hx => h1 x (by simp [hx])) (fun x hx => h2 x (by simp [hx])) h3 h4 e2
    exact ⟨by rw [e1, e3], e4⟩
theorem reT_bytes (s : ByteArray) : ∀ (l : List Nat) (acc : ByteArray), (l.foldl (fun a i => a ++ Utf8.encode (rn s i : Int)) acc).data.toList = acc.data.toList ++ l.flatMap fun i => Lib.encodeRune (rn s i : Int)
  | [], acc => by simp
  | k :: l, acc => by
    have hb := rn_bd s k
    rw [List.foldl_cons, reT_bytes s l, encode_eq hb.1 (by omega)]
    simp
theorem reT_good {s : ByteArray} (h : good s = true) : reT s (places s) = s := by
  have h1 := good_bytes h
  have h2 : s.data.toList = (bytesZ s).map fun x => x.toNat.toUInt8 := by
    unfold bytesZ
    rw [List.map_map]
    conv => lhs; rw [← List.map_id s.data.toList]
    apply List.map_congr_left
    intro x _
    simp
  apply ByteArray.ext
  apply Array.toList_inj.1
  rw [reT, reT_bytes, h2, h1, runesOf, List.map_flatMap, List.flatMap_map]
  rfl
/-- Two quoted texts ahead of something. -/
theorem quote_span {x x' : ByteArray} (hx : good x = true) (hx' : good x' = true) {c c' : List UInt8} (h : (quoteB x).data.toList ++ c = (quoteB x').data.toList ++ c') : x = x' ∧ c = c' := by
  have e : ∀ (s : ByteArray) (d : List UInt8), (quoteB s).data.toList ++ d = 34 :: ((qbody s (places s) ++ [34]) ++ d) := fun s d => by unfold quoteB; simp
  have key : ∀ (s : ByteArray) (d : List UInt8) (q : ByteArray), q = ⟨((quoteB s).data.toList ++ d).toArray⟩ → good s = true → quotedGo q 34 1 ⟨#[]⟩ = some (s, 1 + (qbody s (places s)).length + 1) := fun s d q hq hs => by
    rw [e] at hq
    have hA : Has q 0 (([34] ++ (qbody s (places s) ++ [34])) ++ d) := Has.all (by rw [hq]; simp)
    have hB : Has q 1 (qbody s (places s) ++ [34]) := Has.right (j := 0) (L := [34]) hA.left
    have h1 := quoted_body s q (places s) 1 ⟨#[]⟩ hB
    rw [show (places s).foldl (fun a i => a ++ Utf8.encode (rn s i : Int)) ⟨#[]⟩ = reT s (places s) from rfl, reT_good hs] at h1
    exact h1
  have k1 := key x c _ rfl hx
  have k2 := key x' c' ⟨((quoteB x).data.toList ++ c).toArray⟩ (by rw [h]) hx'
  rw [k1] at k2
  injection k2 with k2
  injection k2 with k3 k4
  subst k3
  exact ⟨rfl, List.append_cancel_left h⟩
/-! ### lines -/
/-- A node's line. -/
def lineT (d : Nat) (y : Nd) : List UInt8 := List.replicate (2 * d) 32 ++ (Lib.itoa y.k ++ ((if y.x.size = 0 then [] else 32 :: (quoteB y.x).data.toList) ++ ((if y.m = 0 then [] else 32 :: Lib.itoa y.m) ++ [10])))
theorem head_num (n : Int) (r : List UInt8) : ∃ c t, Lib.itoa n ++ r = c :: t ∧ numC c := by
  rcases h : Lib.itoa n with _ | ⟨c, t⟩
  · exact absurd h (itoa_ne n)
  · exact ⟨c, t ++ r, rfl, itoa_chars n c (by rw [h]; simp)⟩
theorem not_num {c : UInt8} (h : c.toNat = 32 ∨ c.toNat = 10) : ¬ numC c := by unfold numC; omega
theorem size_zero {x : ByteArray} (h : x.size = 0) : x = ⟨#[]⟩ := by
  apply ByteArray.ext
  exact Array.eq_empty_of_size_eq_zero h
def textP (y : Nd) : List UInt8 := if y.x.size = 0 then [] else 32 :: (quoteB y.x).data.toList
def numP (m : Int) : List UInt8 := if m = 0 then [] else 32 :: Lib.itoa m
theorem lineT_app (d : Nat) (y : Nd) (r : List UInt8) : lineT d y ++ r = List.replicate (2 * d) 32 ++ (Lib.itoa y.k ++ (textP y ++ (numP y.m ++ (10 :: r)))) := by
  unfold lineT textP numP; simp
theorem num_eq {m m' : Int} {r r' : List UInt8} (h : numP m ++ (10 :: r) = numP m' ++ (10 :: r')) : m = m' ∧ r = r' := by
  unfold numP at h
  by_cases c : m = 0 <;> by_cases c' : m' = 0
  · rw [if_pos c, if_pos c'] at h
    injection h with _ h
    exact ⟨by omega, h⟩
  · rw [if_pos c, if_neg c'] at h
    injection h with h _
    exact absurd h (by decide)
  · rw [if_neg c, if_pos c'] at h
    injection h with h _
    exact absurd h (by decide)
  · rw [if_neg c, if_neg c'] at h
    injection h with _ h
    have h2 : Lib.itoa m ++ (10 :: r) = Lib.itoa m' ++ (10 :: r') := h
    obtain ⟨e1, e2⟩ := span_eq (P := numC) (itoa_chars m) (itoa_chars m') (fun c hc => by simp at hc; subst hc; exact not_num (.inr rfl)) (fun c hc => by simp at hc; subst hc; exact not_num (.inr rfl)) h2
    injection e2 with _ e2
    exact ⟨itoa_inj e1, e2⟩
theorem quote_head (x : ByteArray) (a : List UInt8) : ∃ t, (quoteB x).data.toList ++ a = 34 :: t := ⟨(qbody x (places x) ++ [34]) ++ a, by unfold quoteB; simp⟩
theorem mix_ne {x : ByteArray} {m : Int} {a b : List UInt8} : 32 :: ((quoteB x).data.toList ++ a) ≠ numP m ++ (10 :: b) := fun h => by
  unfold numP at h
  by_cases c : m = 0
  · rw [if_pos c] at h
    injection h with h _
    exact absurd h (by decide)
  · rw [if_neg c] at h
    injection h with _ h
    obtain ⟨d, t, e, hd⟩ := head_num m (10 :: b)
    obtain ⟨t2, e2⟩ := quote_head x a
    have h2 : (quoteB x).data.toList ++ a = Lib.itoa m ++ (10 :: b) := h
    rw [e, e2] at h2
    injection h2 with h2 _
    subst h2
    unfold numC at hd
    exact absurd hd (by decide)
/-- What follows the kind. -/
theorem tail_eq {y y' : Nd} (hx : good y.x = true) (hx' : good y'.x = true) {r r' : List UInt8}
    (h : textP y ++ (numP y.m ++ (10 :: r)) = textP y' ++ (numP y'.m ++ (10 :: r'))) : y.x = y'.x ∧ y.m = y'.m ∧ r = r' := by
  unfold textP at h
  by_cases c : y.x.size = 0 <;> by_cases c' : y'.x.size = 0
  · rw [if_pos c, if_pos c', List.nil_append, List.nil_append] at h
    obtain ⟨e1, e2⟩ := num_eq h
    exact ⟨by rw [size_zero c, size_zero c'], e1, e2⟩
  · rw [if_pos c, if_neg c', List.nil_append] at h
    exact absurd h.symm mix_ne
  · rw [if_neg c, if_pos c', List.nil_append] at h
    exact absurd h mix_ne
  · rw [if_neg c, if_neg c', List.cons_append, List.cons_append] at h
    injection h with _ h
    obtain ⟨e1, e2⟩ := quote_span hx hx' h
    obtain ⟨e3, e4⟩ := num_eq e2
    exact ⟨e1, e3, e4⟩
theorem head_blank (n : Int) (a : List UInt8) : ∀ c, (Lib.itoa n ++ a).head? = some c → ¬ c = 32 := fun c hc e => by
  obtain ⟨c2, t, e2, h2⟩ := head_num n a
  rw [e2] at hc
  simp at hc
  subst hc
  rw [e] at h2
  unfold numC at h2
  exact absurd h2 (by decide)
theorem head_tail (z : Nd) (a : List UInt8) : ∀ c, (textP z ++ (numP z.m ++ (10 :: a))).head? = some c → ¬ numC c := fun c hc => by
  unfold textP numP at hc
  by_cases c1 : z.x.size = 0
  · rw [if_pos c1] at hc
    by_cases c2 : z.m = 0
    · rw [if_pos c2] at hc
      simp at hc
      subst hc
      exact not_num (.inr rfl)
    · rw [if_neg c2] at hc
      simp at hc
      subst hc
      exact not_num (.inl rfl)
  · rw [if_neg c1] at hc
    simp at hc
    subst hc
    exact not_num (.inl rfl)
theorem line_eq {d d' : Nat} {y y' : Nd} (hx : good y.x = true) (hx' : good y'.x = true) {r r' : List UInt8} (h : lineT d y ++ r = lineT d' y' ++ r') : d = d' ∧ y.k = y'.k ∧ y.x = y'.x ∧ y.m = y'.m ∧ r = r' := by
  rw [lineT_app, lineT_app] at h
  obtain ⟨e1, e2⟩ := span_eq (P := fun c => c = 32) (fun c hc => List.eq_of_mem_replicate hc) (fun c hc => List.eq_of_mem_replicate hc) (head_blank _ _) (head_blank _ _) h
  have hd := congrArg List.length e1
  rw [List.length_replicate, List.length_replicate] at hd
  obtain ⟨e3, e4⟩ := span_eq (P := numC) (itoa_chars _) (itoa_chars _) (head_tail _ _) (head_tail _ _) e2
  obtain ⟨e5, e6, e7⟩ := tail_eq hx hx' e4
  exact ⟨by omega, itoa_inj e3, e5, e6, e7⟩
/-- Nodes, each with how deep it stands, as lines. -/
def linesT (l : List (Nat × Nd)) : List UInt8 := l.flatMap fun p => lineT p.1 p.2
theorem line_ne (d : Nat) (y : Nd) : lineT d y ≠ [] := fun h => by
  have := congrArg List.length h
  simp [lineT] at this
theorem lines_eq : ∀ {l l' : List (Nat × Nd)}, (∀ p ∈ l, good p.2.x = true) → (∀ p ∈ l', good p.2.x = true) → linesT l = linesT l' → l.length = l'.length ∧ ∀ j, j < l.length → (l.getD j (0, nd0)).1 = (l'.getD j (0, nd0)).1 ∧ (l.getD j (0, nd0)).2.k = (l'.getD j (0, nd0)).2.k ∧ (l.getD j (0, nd0)).2.x = (l'.getD j (0, nd0)).2.x ∧ (l.getD j (0, nd0)).2.m = (l'.getD j (0, nd0)).2.m
  | [], [], _, _, _ => ⟨rfl, fun j hj => by simp at hj⟩
  | [], p :: l', _, _, h => by
    have h2 : lineT p.1 p.2 ++ linesT l' = [] := h.symm
    exact absurd (List.append_eq_nil_iff.1 h2).1 (line_ne _ _)
  | p :: l, [], _, _, h => by
    have h2 : lineT p.1 p.2 ++ linesT l = [] := h
    exact absurd (List.append_eq_nil_iff.1 h2).1 (line_ne _ _)
  | p :: l, p' :: l', h1, h2, h => by
    have h3 : lineT p.1 p.2 ++ linesT l = lineT p'.1 p'.2 ++ linesT l' := h
    obtain ⟨e1, e2, e3, e4, e5⟩ := line_eq (h1 p (by simp)) (h2 p' (by simp)) h3
    obtain ⟨e6, e7⟩ := lines_eq (fun q hq => h1 q (by simp [hq])) (fun q hq => h2 q (by simp [hq])) e5
    refine ⟨by simp [e6], fun j hj => ?_⟩
    cases j with
    | zero => exact ⟨e1, e2, e3, e4⟩
    | succ j =>
      rw [List.length_cons] at hj
      simpa using e7 j (by omega)
end
end Go.Proofs.YtcphkdooemengaaGreatDoor
