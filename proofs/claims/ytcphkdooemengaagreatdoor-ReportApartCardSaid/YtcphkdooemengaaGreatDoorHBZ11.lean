/- Some texts of this claim, put together. -/
import Derived.Test.YtcphkdooemengaaGreatDoorHBZ2
import Derived.Lib.RuneBytes
import Derived.Lib.UnsafeStr
import Derived.Test.YtcphkdooemengaaGreatDoorHPgDec
import Derived.Test.YtcphkdooemengaaGreatDoorHBZ28
import Derived.Laws.Rows
import Derived.Laws.Bits64b
import Derived.Lib.LaidTab
namespace Go.Proofs.YtcphkdooemengaaGreatDoor
section
set_option linter.unusedVariables false
set_option linter.unusedSimpArgs false
set_option linter.unnecessarySimpa false
open Go.RowKit

/-- A place of a text. -/
abbrev Pl (s : ByteArray) : Type := { i : Nat // i < s.size }
def plE (s : ByteArray) (x : Pl s) : Array Value := #[.int .i64 (x.1 : Int), .int .i32 (rn s x.1 : Int)]
def plL (s : ByteArray) (l : List Nat) : List (Pl s) := l.filterMap fun i => if h : i < s.size then some ⟨i, h⟩ else none
theorem plL_snoc {s : ByteArray} {pre : List Nat} {k : Nat} (h : k < s.size) : plL s (pre ++ [k]) = plL s pre ++ [⟨k, h⟩] := by
  unfold plL; rw [List.filterMap_append]; simp [h]
theorem plL_len {s : ByteArray} {pre : List Nat} {k : Nat} (hp : AtPlace s pre k) (h : k < s.size) : (plL s pre).length < s.size := by
  have h1 : (plL s pre).length ≤ pre.length := List.length_filterMap_le _ _
  have h2 := (hp.step h).len
  simp at h2; omega
theorem plL_pre {s : ByteArray} {pre : List Nat} {k : Nat} (hp : AtPlace s pre k) : plL s pre <+: plL s (places s) := by
  rw [hp.1]; unfold plL; rw [List.filterMap_append]; exact List.prefix_append _ _
theorem mem_placesF (s : ByteArray) : ∀ (f i j : Nat), j ∈ placesF s f i → j < s.size
  | 0, _, _, h => by simp [placesF] at h
  | f + 1, i, j, h => by
    simp only [placesF] at h
    split at h
    · rcases List.mem_cons.1 h with rfl | h
      · assumption
      · exact mem_placesF s f _ j h
    · simp at h
theorem mem_places {s : ByteArray} {j : Nat} (h : j ∈ places s) : j < s.size := mem_placesF s _ _ j h
theorem plL_val {s : ByteArray} {l : List Nat} (h : ∀ j ∈ l, j < s.size) : (plL s l).map (·.1) = l := by
  unfold plL
  induction l with
  | nil => rfl
  | cons a l ih =>
    have ha := h a (by simp)
    have := ih (fun j hj => h j (by simp [hj]))
    simp [ha, this]
/-- The places that have come. -/
def vals {t : ByteArray} (pre : List (Pl t)) : List Nat := pre.map (·.1)
theorem vals_snoc {t : ByteArray} (pre : List (Pl t)) (x : Pl t) : vals (pre ++ [x]) = vals pre ++ [x.1] := by simp [vals]
theorem vals_len {t : ByteArray} (pre : List (Pl t)) : (vals pre).length = pre.length := by simp [vals]
end
section
set_option linter.unusedVariables false
set_option linter.unusedSimpArgs false
set_option linter.unnecessarySimpa false
open Go.RowKit

/-- Hexadecimal digits of a small number. -/
def hexU (d : Nat) : UInt8 := if d < 10 then UInt8.ofNat (48 + d) else UInt8.ofNat (87 + d)
def hexB (r : Nat) : ByteArray := if r < 16 then ⟨#[hexU r]⟩ else ⟨#[hexU (r / 16), hexU (r % 16)]⟩
theorem hexB_one {r : Nat} (h : r < 16) : hexB r = ⟨#[hexU r]⟩ := if_pos h
theorem hexB_two {r : Nat} (h : 16 ≤ r) : hexB r = ⟨#[hexU (r / 16), hexU (r % 16)]⟩ := if_neg (by omega)
theorem hexB_size (r : Nat) : (hexB r).size ≤ 2 := by unfold hexB; split <;> simp [ByteArray.size]

/-- What a rune is in quotes. -/
def qrune (r : Nat) : List UInt8 :=
  if r = 92 ∨ r = 34 then 92 :: Lib.encodeRune (r : Int)
  else if r = 10 then [92, 110] else if r = 13 then [92, 114] else if r = 9 then [92, 116]
  else if r < 32 ∨ r = 127 then [92, 117, 123] ++ (hexB r).data.toList ++ [125]
  else Lib.encodeRune (r : Int)
theorem qrune_len (r : Nat) : (qrune r).length ≤ 6 := by
  have h1 : (Lib.encodeRune (r : Int)).length ≤ 4 := by rw [← Lib.runeCells_length]; exact (Lib.runeCells_le _).2
  have h2 := hexB_size r
  unfold qrune
  repeat' split
  all_goals (simp <;> omega)
def qbody (s : ByteArray) (l : List Nat) : List UInt8 := l.flatMap fun i => qrune (rn s i)
theorem qbody_snoc (s : ByteArray) (l : List Nat) (i : Nat) : qbody s (l ++ [i]) = qbody s l ++ qrune (rn s i) := by simp [qbody]
theorem qbody_len (s : ByteArray) (l : List Nat) : (qbody s l).length ≤ 6 * l.length := by
  induction l with
  | nil => simp [qbody]
  | cons a l ih =>
    have := qrune_len (rn s a)
    have e : qbody s (a :: l) = qrune (rn s a) ++ qbody s l := by simp [qbody]
    rw [e]; simp; omega
def quoteB (s : ByteArray) : ByteArray := ⟨(34 :: qbody s (places s) ++ [34]).toArray⟩

/-- The model's own encoding, of a rune. -/
theorem encode_eq {r : Nat} (h1 : r ≤ 1114111) (hs : r < 55296 ∨ 57343 < r) : (Utf8.encode (r : Int)) = ⟨(Lib.encodeRune (r : Int)).toArray⟩ := by
  have hv : Utf8.valid (r : Int) = true := by unfold Utf8.valid; simp; omega
  have nat : ∀ x : Nat, ((x : Int)).toNat.toUInt8 = UInt8.ofNat x := fun x => by simp
  unfold Utf8.encode
  simp only [hv, if_true, Int.toNat_natCast]
  unfold Lib.encodeRune
  by_cases c1 : r < 128
  · rw [if_pos c1, Lib.encodeRuneZ_one (by omega) (by omega)]; simp
  · rw [if_neg c1]
    by_cases c2 : r < 2048
    · rw [if_pos c2, Lib.encodeRuneZ_two (by omega) (by omega)]
      have e1 : (192 + (r : Int) / 64).toNat = 192 + r / 64 := by omega
      have e2 : (128 + (r : Int) % 64).toNat = 128 + r % 64 := by omega
      simp [e1, e2]
    · rw [if_neg c2]
      by_cases c3 : r < 65536
      · rw [if_pos c3, Lib.encodeRuneZ_three (by omega)]
        have e1 : (224 + (r : Int) / 4096).toNat = 224 + r / 4096 := by omega
        have e2 : (128 + (r : Int) / 64 % 64).toNat = 128 + r / 64 % 64 := by omega
        have e3 : (128 + (r : Int) % 64).toNat = 128 + r % 64 := by omega
        simp [e1, e2, e3]
      · rw [if_neg c3, Lib.encodeRuneZ_four (by omega) (by omega)]
        have e1 : (240 + (r : Int) / 262144).toNat = 240 + r / 262144 := by omega
        have e2 : (128 + (r : Int) / 4096 % 64).toNat = 128 + r / 4096 % 64 := by omega
        have e3 : (128 + (r : Int) / 64 % 64).toNat = 128 + r / 64 % 64 := by omega
        have e4 : (128 + (r : Int) % 64).toNat = 128 + r % 64 := by omega
        simp [e1, e2, e3, e4]
theorem qrune_esc {r : Nat} (h : r = 92 ∨ r = 34) : qrune r = 92 :: Lib.encodeRune (r : Int) := if_pos h
theorem qrune_nl : qrune 10 = [92, 110] := rfl
theorem qrune_cr : qrune 13 = [92, 114] := rfl
theorem qrune_tab : qrune 9 = [92, 116] := rfl
theorem qrune_hex {r : Nat} (h : r < 32 ∨ r = 127) (h1 : r ≠ 10) (h2 : r ≠ 13) (h3 : r ≠ 9) : qrune r = [92, 117, 123] ++ (hexB r).data.toList ++ [125] := by
  unfold qrune; rw [if_neg (by omega), if_neg h1, if_neg h2, if_neg h3, if_pos h]
theorem qrune_plain {r : Nat} (h : 32 ≤ r) (h1 : r ≠ 92) (h2 : r ≠ 34) (h3 : r ≠ 127) : qrune r = Lib.encodeRune (r : Int) := by
  unfold qrune; rw [if_neg (by omega), if_neg (by omega), if_neg (by omega), if_neg (by omega), if_neg (by omega)]
end
section
set_option linter.unusedVariables false
set_option linter.unusedSimpArgs false
set_option linter.unnecessarySimpa false
open Go.RowKit

/-- Each byte is plain, and a quote stands behind a backslash. -/
def OkL (l : List UInt8) : Prop := ∀ (i : Nat) (c : UInt8), l[i]? = some c → 32 ≤ c.toNat ∧ c.toNat ≠ 127 ∧ (c.toNat = 34 → 1 ≤ i ∧ l[i - 1]? = some 92)
theorem OkL.nil : OkL [] := fun i c h => by simp at h
theorem OkL.append {a b : List UInt8} (ha : OkL a) (hb : OkL b) : OkL (a ++ b) := fun i c h => by
  by_cases hi : i < a.length
  · rw [List.getElem?_append_left hi] at h
    obtain ⟨h1, h2, h3⟩ := ha i c h
    refine ⟨h1, h2, fun e => ?_⟩
    obtain ⟨h4, h5⟩ := h3 e
    exact ⟨h4, by rw [List.getElem?_append_left (by omega)]; exact h5⟩
  · rw [List.getElem?_append_right (by omega)] at h
    obtain ⟨h1, h2, h3⟩ := hb _ c h
    refine ⟨h1, h2, fun e => ?_⟩
    obtain ⟨h4, h5⟩ := h3 e
    refine ⟨by omega, ?_⟩
    rw [List.getElem?_append_right (by omega), show i - 1 - a.length = i - a.length - 1 by omega]; exact h5
def okb (l : List UInt8) : Bool := (List.range l.length).all fun i => match l[i]? with
  | some c => decide (32 ≤ c.toNat) && decide (c.toNat ≠ 127) && (decide (c.toNat ≠ 34) || (decide (1 ≤ i) && decide (l[i - 1]? = some 92)))
  | none => true
theorem OkL.of_okb {l : List UInt8} (h : okb l = true) : OkL l := fun i c hc => by
  have hi : i < l.length := (List.getElem?_eq_some_iff.1 hc).1
  have := List.all_eq_true.1 h i (by simpa using hi)
  rw [hc] at this
  simp at this
  obtain ⟨⟨h1, h2⟩, h3⟩ := this
  refine ⟨h1, h2, fun e => ?_⟩
  rcases h3 with h3 | h3
  · exact absurd e h3
  · exact h3
theorem OkL.of_all {l : List UInt8} (h : ∀ c ∈ l, 32 ≤ c.toNat ∧ c.toNat ≠ 127 ∧ c.toNat ≠ 34) : OkL l := fun i c hc => by
  obtain ⟨h1, h2, h3⟩ := h c (List.mem_of_getElem? hc)
  exact ⟨h1, h2, fun e => absurd e h3⟩
theorem qrune_ok {r : Nat} (h1 : r ≤ 1114111) (hs : r < 55296 ∨ 57343 < r) : OkL (qrune r) := by
  by_cases hsm : r < 128
  · have : ∀ x : Fin 128, okb (qrune x.1) = true := by decide +kernel
    exact OkL.of_okb (this ⟨r, hsm⟩)
  · rw [qrune_plain (by omega) (by omega) (by omega) (by omega)]
    refine OkL.of_all fun c hc => ?_
    unfold Lib.encodeRune at hc
    obtain ⟨x, hx, rfl⟩ := List.mem_map.1 hc
    have key : 128 ≤ x ∧ x < 256 → 32 ≤ x.toNat.toUInt8.toNat ∧ x.toNat.toUInt8.toNat ≠ 127 ∧ x.toNat.toUInt8.toNat ≠ 34 := fun h => by
      have e : x.toNat.toUInt8.toNat = x.toNat := by simp; omega
      omega
    apply key
    by_cases c2 : r < 2048
    · rw [Lib.encodeRuneZ_two (by omega) (by omega)] at hx; simp at hx; omega
    · by_cases c3 : r < 65536
      · rw [Lib.encodeRuneZ_three (by omega)] at hx; simp at hx; omega
      · rw [Lib.encodeRuneZ_four (by omega) (by omega)] at hx; simp at hx; omega
theorem qbody_ok (s : ByteArray) (l : List Nat) : OkL (qbody s l) := by
  induction l with
  | nil => exact OkL.nil
  | cons a l ih =>
    have e : qbody s (a :: l) = qrune (rn s a) ++ qbody s l := by simp [qbody]
    have hb := rn_bd s a
    rw [e]; exact (qrune_ok hb.1 (by omega)).append ih
theorem bt_list {s : ByteArray} {i : Nat} {c : UInt8} (h : s.data.toList[i]? = some c) : bt s i = c.toNat := by
  have hi : i < s.data.toList.length := (List.getElem?_eq_some_iff.1 h).1
  have hi' : i < s.size := by simpa using hi
  rw [data_at hi']
  have := (List.getElem?_eq_some_iff.1 h).2
  rw [this]
theorem quote_size (s : ByteArray) : (quoteB s).size = (qbody s (places s)).length + 2 := by unfold quoteB; simp [ByteArray.size]
theorem quote_first (s : ByteArray) : bt (quoteB s) 0 = 34 := bt_list (c := 34) (by unfold quoteB; simp)
theorem quote_last (s : ByteArray) : bt (quoteB s) ((quoteB s).size - 1) = 34 := by
  rw [quote_size]
  refine bt_list (c := 34) ?_
  unfold quoteB
  simp
theorem quote_ok (s : ByteArray) (i : Nat) (h1 : 1 ≤ i) (h2 : i + 1 < (quoteB s).size) : 32 ≤ bt (quoteB s) i ∧ bt (quoteB s) i ≠ 127 ∧ (bt (quoteB s) i = 34 → bt (quoteB s) (i - 1) = 92) := by
  rw [quote_size] at h2
  obtain ⟨c, hc⟩ : ∃ c, (qbody s (places s))[i - 1]? = some c := ⟨_, List.getElem?_eq_getElem (by omega)⟩
  obtain ⟨a1, a2, a3⟩ := qbody_ok s (places s) (i - 1) c hc
  have e : (quoteB s).data.toList[i]? = some c := by
    unfold quoteB
    simp only [List.cons_append]
    obtain ⟨j, rfl⟩ : ∃ j, i = j + 1 := ⟨i - 1, by omega⟩
    simp only [List.getElem?_cons_succ]
    rw [List.getElem?_append_left (by omega)]; exact hc
  rw [bt_list e]
  refine ⟨a1, a2, fun h => ?_⟩
  obtain ⟨b1, b2⟩ := a3 h
  refine bt_list (c := 92) ?_
  unfold quoteB
  simp only [List.cons_append]
  obtain ⟨j, rfl⟩ : ∃ j, i = j + 1 + 1 := ⟨i - 2, by omega⟩
  simp only [Nat.add_sub_cancel, List.getElem?_cons_succ] at b2 ⊢
  rw [List.getElem?_append_left (by omega)]; exact b2
end
section
set_option linter.unusedVariables false
set_option linter.unusedSimpArgs false
set_option linter.unnecessarySimpa false
open Go.RowKit
attribute [local go_sem] cell_alloc_add cell_set_add lt_more
/-- The cell of the library's table that TrailingZeros64 reads at 16. -/
def Tz (w : World) : Prop := w.cell? ⟨3, 15, none⟩ = some (.int .u8 4) ∧ 3 < w.heap.size
theorem Tz.later {w w' : World} (h : Tz w) {B : Nat} (hb : Below B w w') (hB : 3 < B) : Tz w' := ⟨(hb.cell (p := ⟨3, 15, none⟩) hB).trans h.1, Nat.lt_of_lt_of_le h.2 hb.size⟩
theorem Tz.keep {w w' : World} (h : Tz w) (hb : Below w.heap.size w w') : Tz w' := h.later hb h.2
set_option maxRecDepth 100000 in
set_option maxHeartbeats 1000000 in
theorem isPow (w : World) : Calls Tryz.prog 118 #[.int .i64 16] w fun e w' => e = .returned (.bool true) ∧ w' = w := by
  have e1 : bits BinOp.and IntKind.i64 16 15 = 0 := by decide
  go_enter Tryz.func118, Tryz.ntmps118
  go_wp2
  go_ret
  exact ⟨rfl, rfl⟩
set_option maxRecDepth 100000 in
set_option maxHeartbeats 1000000 in
theorem tz64 (w : World) (h : Tz w) : Calls Tryz.prog 143 #[.int .u64 16] w fun e w' => e = .returned (.int .i64 4) ∧ w' = w := by
  have e1 : IntKind.u64.wrap (-16) = 18446744073709551600 := by decide
  have e2 : bits BinOp.and IntKind.u64 16 18446744073709551600 = 16 := by decide
  have e3 : (IntKind.u64.wrap (16 * 285870213051353865) / 288230376151711744).toNat = 15 := by decide
  have hc := h.1
  have hg : 3 < w.heap.size := h.2
  clear h
  go_enter Tryz.func143, Tryz.ntmps143
  go_wp2
  go_ret
  exact ⟨rfl, rfl⟩
set_option maxRecDepth 100000 in
set_option maxHeartbeats 1000000 in
theorem tz (w : World) (h : Tz w) : Calls Tryz.prog 119 #[.int .u64 16] w fun e w' => e = .returned (.int .i64 4) ∧ w' = w := by
  go_enter Tryz.func119, Tryz.ntmps119
  go_wp2_with (go_at_call 143; refine (tz64 _ h).mono ?_; rintro e w1 ⟨rfl, rfl⟩)
  go_ret
  exact ⟨rfl, rfl⟩

def dg : ByteArray := ⟨#[48, 49, 50, 51, 52, 53, 54, 55, 56, 57, 97, 98, 99, 100, 101, 102, 103, 104, 105, 106, 107, 108, 109, 110, 111, 112, 113, 114, 115, 116, 117, 118, 119, 120, 121, 122]⟩
theorem dg_at (r : Nat) (h : r < 16) (h' : r < dg.size) : dg[r] = hexU r := by
  have : ∀ x : Fin 16, dg.data[x.1]? = some (hexU x.1) := by decide
  have h2 := this ⟨r, h⟩
  have h3 : dg.data[r]? = some dg[r] := by rw [Array.getElem?_eq_getElem (by exact h')]; rfl
  rw [h3] at h2; injection h2
theorem conv_one (r : Nat) (h : r < 16) (w : World) (C : Array Value) (t : TypeId) (h1 : C[64]? = some (.int .u8 ((hexU r).toNat : Int))) :
    (convert 40 9 (.slice (some ⟨w.heap.size, 64, none⟩) 1 1)).run Tryz.prog (w.alloc (.cells C t)) = .ok (.string (hexB r)) (w.alloc (.cells C t)) := by
  have := run_convert_bytes_back (P := Tryz.prog) (w.alloc (.cells C t)) 40 9 5 ⟨w.heap.size, 64, none⟩ 1 [hexU r] Tryz.underlying40 Tryz.underlying5 Tryz.underlying9 (fun j hj => by
    simp at hj; subst hj; rw [add_row, World.cell?_alloc_mark]; simpa using h1)
  rw [hexB_one h]; simpa using this
theorem conv_two (r : Nat) (h : 16 ≤ r) (w : World) (C : Array Value) (t : TypeId) (h1 : C[63]? = some (.int .u8 ((hexU (r / 16)).toNat : Int))) (h2 : C[64]? = some (.int .u8 ((hexU (r % 16)).toNat : Int))) :
    (convert 40 9 (.slice (some ⟨w.heap.size, 63, none⟩) 2 2)).run Tryz.prog (w.alloc (.cells C t)) = .ok (.string (hexB r)) (w.alloc (.cells C t)) := by
  have := run_convert_bytes_back (P := Tryz.prog) (w.alloc (.cells C t)) 40 9 5 ⟨w.heap.size, 63, none⟩ 2 [hexU (r / 16), hexU (r % 16)] Tryz.underlying40 Tryz.underlying5 Tryz.underlying9 (fun j hj => by
    simp at hj
    rw [add_row, World.cell?_alloc_mark]
    rcases (by omega : j = 0 ∨ j = 1) with rfl | rfl
    · simpa using h1
    · simpa using h2)
  rw [hexB_two h]; simpa using this
theorem zlen : Tryz.zeroCells142.size = 65 := by kernel_rfl

set_option maxRecDepth 100000 in
set_option maxHeartbeats 4000000 in
theorem fbits_one (r : Nat) (hr : r < 16) (w : World) (h : Tz w) : Calls Tryz.prog 88 #[.slice none 0 0, .int .u64 (r : Int), .int .i64 16, .bool false, .bool false] w fun e w' => (∃ v, e = .returned (.tuple #[v, .string (hexB r)])) ∧ Below w.heap.size w w' := by
  go_enter Tryz.func88, Tryz.ntmps88
  go_wp2_with (first
    | (go_at_call 118; refine (isPow _).mono ?_; rintro e w1 ⟨rfl, rfl⟩)
    | (go_at_call 119; refine (tz _ (h.keep (by (exact bl)))).mono ?_; rintro e w1 ⟨rfl, rfl⟩))
  refine wp_loop_rounds 1 ?_
  rw [rounds_succ]
  go_wp2
  rw [conv_one r hr _ _ _ (by rw [Array.getElem?_setIfInBounds_self_of_lt (by rw [zlen]; decide)]; congr 3; exact congrArg UInt8.toNat (dg_at r hr _))]
  go_wp2
  go_ret2
  exact ⟨⟨_, rfl⟩, (Below.refl _ _).alloc (Nat.le_refl _) _⟩
set_option maxRecDepth 100000 in
set_option maxHeartbeats 4000000 in
theorem fbits_two (r : Nat) (hr : 16 ≤ r) (hr2 : r < 128) (w : World) (h : Tz w) : Calls Tryz.prog 88 #[.slice none 0 0, .int .u64 (r : Int), .int .i64 16, .bool false, .bool false] w fun e w' => (∃ v, e = .returned (.tuple #[v, .string (hexB r)])) ∧ Below w.heap.size w w' := by
  have hm : bits .and .u64 (r : Int) 15 = ((r % 16 : Nat) : Int) := by
    have := bits_and_u64_nat r 15 (by omega) (by omega)
    rw [nat_mask4] at this; exact this
  have h16 : r % 16 < 16 := by omega
  have h17 : r / 16 < 16 := by omega
  go_enter Tryz.func88, Tryz.ntmps88
  go_wp2_with (first
    | (go_at_call 118; refine (isPow _).mono ?_; rintro e w1 ⟨rfl, rfl⟩)
    | (go_at_call 119; refine (tz _ (h.keep (by (exact bl)))).mono ?_; rintro e w1 ⟨rfl, rfl⟩))
  refine wp_loop_rounds 2 ?_
  rw [rounds_succ]
  go_wp2
  rw [rounds_succ]
  go_wp2
  rw [conv_two r hr _ _ _ (by rw [Array.getElem?_setIfInBounds_self_of_lt (by rw [Array.size_setIfInBounds, zlen]; decide)]; congr 3; exact congrArg UInt8.toNat (dg_at (r / 16) h17 _))
    (by rw [Array.getElem?_setIfInBounds_ne (by decide), Array.getElem?_setIfInBounds_self_of_lt (by rw [zlen]; decide)]; congr 3; exact congrArg UInt8.toNat (dg_at (r % 16) h16 _))]
  go_wp2
  go_ret2
  exact ⟨⟨_, rfl⟩, (Below.refl _ _).alloc (Nat.le_refl _) _⟩

theorem fbits (r : Nat) (hr : r < 128) (w : World) (h : Tz w) : Calls Tryz.prog 88 #[.slice none 0 0, .int .u64 (r : Int), .int .i64 16, .bool false, .bool false] w fun e w' => (∃ v, e = .returned (.tuple #[v, .string (hexB r)])) ∧ Below w.heap.size w w' := by
  by_cases h16 : r < 16
  · exact fbits_one r h16 w h
  · exact fbits_two r (by omega) hr w h
set_option maxRecDepth 100000 in
set_option maxHeartbeats 1000000 in
theorem ifint (r : Nat) (hr : r < 128) (w : World) (h : Tz w) : Calls Tryz.prog 58 #[.int .i64 (r : Int), .int .i64 16] w fun e w' => e = .returned (.string (hexB r)) ∧ Below w.heap.size w w' := by
  go_enter Tryz.func58, Tryz.ntmps58
  go_wp2_with (go_at_call 88; refine (fbits r hr _ h).mono ?_; rintro e w1 ⟨⟨v, rfl⟩, hb⟩)
  go_ret
  exact ⟨rfl, hb⟩
set_option maxRecDepth 100000 in
set_option maxHeartbeats 1000000 in
theorem fint (r : Nat) (hr : r < 128) (w : World) (h : Tz w) : Calls Tryz.prog 37 #[.int .i64 (r : Int), .int .i64 16] w fun e w' => e = .returned (.string (hexB r)) ∧ Below w.heap.size w w' := by
  go_enter Tryz.func37, Tryz.ntmps37
  go_wp2_with (go_at_call 58; refine (ifint r hr _ h).mono ?_; rintro e w1 ⟨rfl, hb⟩)
  go_ret
  exact ⟨rfl, hb⟩
end
end Go.Proofs.YtcphkdooemengaaGreatDoor
