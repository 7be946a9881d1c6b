/- Some texts of this claim, put together. -/
import Derived.WalkKit
import Derived.WalkSmall
import Derived.Lib.Hide
import Derived.Lib.DecodeN
import Derived.Lib.RuneBytes
import Derived.Laws.BitsAllLaws
import Derived.Deep.QuietTactic
import Derived.BigQuiet
import Derived.Lib.SmallJoins
import Derived.SliceStrings
import Derived.OpenShut
import Derived.Deep.Fields
namespace Go.Proofs.YtpkdhciokiomlaaGreatDoor
section
set_option linter.unusedVariables false
set_option linter.unusedSimpArgs false
set_option linter.unnecessarySimpa false
open Go.RowKit

/-- A goal 'Below ..' over allocs, stores, draws and callees' worlds: by the default argument. -/
theorem bl {P : Prop} (h : P := by (repeat (first | (with_reducible exact Below.refl _ _) | (with_reducible assumption) | (with_reducible refine Below.setCell ?_ (by first | omega | (simp <;> omega)) _) | (with_reducible refine Below.alloc ?_ (by first | omega | (simp <;> omega)) _) | (with_reducible refine Below.drew ?_) | (with_reducible refine below_drewN ?_ _) | (with_reducible refine Below.trans ?_ (Below.mono (by with_reducible assumption) (by first | omega | (simp <;> omega))))))) : P := h
theorem bcell {B : Nat} {W w1 : World} (hb : Below B W w1) : (∀ b o, b < B → w1.cell? ⟨b, o, none⟩ = W.cell? ⟨b, o, none⟩) ∧ (∀ b o, b < B → w1.frozen? ⟨b, o, none⟩ = W.frozen? ⟨b, o, none⟩) :=
  ⟨fun b o h => hb.cell (p := ⟨b, o, none⟩) h, fun b o h => hb.frozen (p := ⟨b, o, none⟩) h⟩

/-- Block g is just these cells, of type t, and may be written. -/
def Row (w : World) (g : Nat) (t : TypeId) (cs : Array Value) : Prop := w.heap[g]? = some (.cells cs t (0, 0))

section
variable {w w' : World} {g : Nat} {t : TypeId} {cs : Array Value}
theorem Row.lt (h : Row w g t cs) : g < w.heap.size := by
  rcases Nat.lt_or_ge g w.heap.size with hl | hg
  · exact hl
  · unfold Row at h; rw [Array.getElem?_eq_none hg] at h; cases h
theorem Row.cell (h : Row w g t cs) (i : Nat) : w.cell? ⟨g, i, none⟩ = cs[i]? := cell_of_row w g i cs t (0, 0) h
theorem Row.free (h : Row w g t cs) (i : Nat) : w.frozen? ⟨g, i, none⟩ = false := by unfold Row at h; simp [World.frozen?, h]
theorem Row.new (w : World) (t : TypeId) (cs : Array Value) : Row (w.alloc (.cells cs t)) w.heap.size t cs := by
  unfold Row; show (w.heap.push _)[w.heap.size]? = _; rw [Array.getElem?_push_size]
theorem Row.drew (h : Row w g t cs) : Row w.drew g t cs := h
theorem Row.drewN (h : Row w g t cs) (n : Nat) : Row (w.drewN n) g t cs := h
theorem Row.alloc (h : Row w g t cs) (o : Obj) : Row (w.alloc o) g t cs := (Below.heap_alloc w o g h.lt).trans h
theorem Row.put (h : Row w g t cs) (i : Nat) (u : Value) : Row (w.setCell ⟨g, i, none⟩ u) g t (cs.setIfInBounds i u) := by
  unfold Row at h ⊢; simp [World.setCell, Array.getElem?_modify, h]
theorem Row.far (h : Row w g t cs) {p : Addr} (hp : g ≠ p.block) (u : Value) : Row (w.setCell p u) g t cs := (Below.heap_setCell w p u g hp).trans h
theorem Row.below {B : Nat} (h : Row w g t cs) (hb : Below B w w') (hg : g < B) : Row w' g t cs := (hb.block g hg).trans h
/-- Three cells written, one behind the other. -/
theorem Row.put3 {x y z a b c : Value} (h : Row w g t #[x, y, z]) : Row (((w.setCell ⟨g, 0, none⟩ a).setCell ⟨g, 1, none⟩ b).setCell ⟨g, 2, none⟩ c) g t #[a, b, c] := by
  have := ((h.put 0 a).put 1 b).put 2 c; simpa using this
end
theorem ret_bool {a b : Bool} (h : a = b) : Ending.returned (.bool a) = .returned (.bool b) := by rw [h]
theorem ret_int {k : IntKind} {a b : Int} (h : a = b) : Ending.returned (.int k a) = .returned (.int k b) := by rw [h]
theorem ret_str {a b : ByteArray} (h : a = b) : Ending.returned (.string a) = .returned (.string b) := by rw [h]
theorem ret_ints {k j : IntKind} {a b c d : Int} (h : a = b) (h' : c = d) : Ending.returned (.tuple #[.int k a, .int j c]) = .returned (.tuple #[.int k b, .int j d]) := by rw [h, h']
theorem ret_iib {k j : IntKind} {a b c d : Int} {x y : Bool} (h : a = b) (h' : c = d) (h'' : x = y) : Ending.returned (.tuple #[.int k a, .int j c, .bool x]) = .returned (.tuple #[.int k b, .int j d, .bool y]) := by rw [h, h', h'']
theorem ret_row {k j m : IntKind} {a b c d u v : Int} {x y : Bool} (h0 : u = v) (h : a = b) (h' : c = d) (h'' : x = y) : Ending.returned (.agg #[.int m u, .int k a, .int j c, .bool x]) = .returned (.agg #[.int m v, .int k b, .int j d, .bool y]) := by rw [h0, h, h', h'']
end
section
set_option linter.unusedVariables false
set_option linter.unusedSimpArgs false
set_option linter.unnecessarySimpa false
open Go.RowKit

/-- The rune that begins at a place. -/
def rn (s : ByteArray) (i : Nat) : Nat := (Utf8.decode s i).1
/-- How many bytes it has. -/
def wd (s : ByteArray) (i : Nat) : Nat := (Utf8.decode s i).2
/-- The byte at a place, as a number. -/
def bt (s : ByteArray) (i : Nat) : Nat := (s.get! i).toNat
/-- Is it a rune (or a byte that begins none)? -/
def gd (s : ByteArray) (i : Nat) : Bool := decide (bt s i < 128) || decide (1 < wd s i)
theorem bt_lt (s : ByteArray) (i : Nat) : bt s i < 256 := (s.get! i).toNat_lt

theorem dec_eq (s : ByteArray) (i : Nat) : Utf8.decode s i = Lib.decodeN (s.size - i) (bt s i) (bt s (i + 1)) (bt s (i + 2)) (bt s (i + 3)) := Lib.decode_at s i
theorem decodeN_wd (n b0 b1 b2 b3 : Nat) (h : 0 < n) : 1 ≤ (Lib.decodeN n b0 b1 b2 b3).2 ∧ (Lib.decodeN n b0 b1 b2 b3).2 ≤ n ∧ (Lib.decodeN n b0 b1 b2 b3).2 ≤ 4 := by
  unfold Lib.decodeN
  repeat' split
  all_goals (simp only []; omega)
theorem decodeN_rn (n b0 b1 b2 b3 : Nat) (h0 : b0 < 256) : (Lib.decodeN n b0 b1 b2 b3).1 ≤ 1114111 ∧ ((Lib.decodeN n b0 b1 b2 b3).1 < 55296 ∨ 57344 ≤ (Lib.decodeN n b0 b1 b2 b3).1) := by
  unfold Lib.decodeN
  repeat' split
  all_goals (simp only []; omega)
theorem wd_bd {s : ByteArray} {i : Nat} (h : i < s.size) : 1 ≤ wd s i ∧ i + wd s i ≤ s.size ∧ wd s i ≤ 4 := by
  unfold wd; rw [dec_eq]
  have := decodeN_wd (s.size - i) (bt s i) (bt s (i + 1)) (bt s (i + 2)) (bt s (i + 3)) (by omega)
  omega
theorem rn_bd (s : ByteArray) (i : Nat) : rn s i ≤ 1114111 ∧ (rn s i < 55296 ∨ 57344 ≤ rn s i) := by
  unfold rn; rw [dec_eq]; exact decodeN_rn _ _ _ _ _ (bt_lt s i)

/-- The runes from a place on: their places. -/
def placesF (s : ByteArray) : Nat → Nat → List Nat
  | 0, _ => []
  | f + 1, i => if i < s.size then i :: placesF s f (i + wd s i) else []
/-- The places of all runes from a place on. -/
def placesAt (s : ByteArray) (i : Nat) : List Nat := placesF s (s.size - i) i
def places (s : ByteArray) : List Nat := placesAt s 0
theorem placesF_fuel (s : ByteArray) : ∀ (f g i : Nat), s.size - i ≤ f → s.size - i ≤ g → placesF s f i = placesF s g i
  | 0, 0, _, _, _ => rfl
  | 0, g + 1, i, h, _ => by simp only [placesF]; rw [if_neg (by omega)]
  | f + 1, 0, i, _, h => by simp only [placesF]; rw [if_neg (by omega)]
  | f + 1, g + 1, i, h, h' => by
    simp only [placesF]
    by_cases hi : i < s.size
    · have := wd_bd hi
      rw [if_pos hi, if_pos hi, placesF_fuel s f g (i + wd s i) (by omega) (by omega)]
    · rw [if_neg hi, if_neg hi]
theorem placesAt_end {s : ByteArray} {i : Nat} (h : ¬ i < s.size) : placesAt s i = [] := by
  unfold placesAt; rw [show s.size - i = 0 by omega]; rfl
theorem placesAt_step {s : ByteArray} {i : Nat} (h : i < s.size) : placesAt s i = i :: placesAt s (i + wd s i) := by
  have hw := wd_bd h
  unfold placesAt
  obtain ⟨f, hf⟩ : ∃ f, s.size - i = f + 1 := ⟨s.size - i - 1, by omega⟩
  rw [hf]
  simp only [placesF]
  rw [if_pos h, placesF_fuel s f (s.size - (i + wd s i)) (i + wd s i) (by omega) (by omega)]
theorem placesF_len (s : ByteArray) : ∀ (f i : Nat), (placesF s f i).length ≤ f
  | 0, _ => by simp [placesF]
  | f + 1, i => by
    simp only [placesF]
    split
    · have := placesF_len s f (i + wd s i); simp; omega
    · simp
theorem places_len (s : ByteArray) : (places s).length ≤ s.size := by
  have := placesF_len s (s.size - 0) 0; unfold places placesAt; omega

/-- Where a loop over the runes stands: what is behind, and what is to come. -/
def AtPlace (s : ByteArray) (pre : List Nat) (i : Nat) : Prop := places s = pre ++ placesAt s i ∧ i ≤ s.size
theorem AtPlace.start (s : ByteArray) : AtPlace s [] 0 := ⟨rfl, Nat.zero_le _⟩
theorem AtPlace.step {s : ByteArray} {pre : List Nat} {i : Nat} (h : AtPlace s pre i) (hi : i < s.size) : AtPlace s (pre ++ [i]) (i + wd s i) :=
  ⟨by rw [h.1, placesAt_step hi]; simp, (wd_bd hi).2.1⟩
theorem AtPlace.fin {s : ByteArray} {pre : List Nat} {i : Nat} (h : AtPlace s pre i) (hi : ¬ i < s.size) : pre = places s := by
  rw [h.1, placesAt_end hi]; simp
theorem AtPlace.len {s : ByteArray} {pre : List Nat} {i : Nat} (h : AtPlace s pre i) : pre.length ≤ s.size := by
  have := places_len s; rw [h.1] at this; simp at this; omega

/-- The model's own conversion to runes. -/
theorem runesFrom_eq (s : ByteArray) : ∀ (f i : Nat) (acc : Array Value), Conv.runesFrom s f i acc = acc ++ ((placesF s f i).map fun j => Value.int .i32 (rn s j : Int)).toArray
  | 0, _, acc => by simp [Conv.runesFrom, placesF]
  | f + 1, i, acc => by
    unfold Conv.runesFrom
    simp only [placesF]
    by_cases hi : i < s.size
    · rw [if_pos hi, if_pos hi]
      show Conv.runesFrom s f (i + wd s i) (acc.push (.int .i32 (Int.ofNat (rn s i)))) = _
      rw [runesFrom_eq s f (i + wd s i)]
      simp
    · rw [if_neg hi, if_neg hi]; simp
theorem runes_eq (s : ByteArray) : Conv.runesFrom s s.size 0 #[] = ((places s).map fun j => Value.int .i32 (rn s j : Int)).toArray := by
  rw [runesFrom_eq]; simp [places, placesAt]
/-- The runes of a text. -/
def runesOf (s : ByteArray) : List Int := (places s).map fun j => (rn s j : Int)
end
section
set_option linter.unusedVariables false
set_option linter.unusedSimpArgs false
set_option linter.unnecessarySimpa false
open Go.RowKit

/-- What a program's Decode answers at a place. -/
def decR (s : ByteArray) (at_ : Int) : Int := if 0 ≤ at_ ∧ at_ < s.size then (rn s at_.toNat : Int) else 0
def decN (s : ByteArray) (at_ : Int) : Int := if 0 ≤ at_ ∧ at_ < s.size then (wd s at_.toNat : Int) else 0
def decG (s : ByteArray) (at_ : Int) : Bool := if 0 ≤ at_ ∧ at_ < s.size then gd s at_.toNat else false
theorem decR_in {s : ByteArray} {i : Nat} (h : i < s.size) : decR s i = (rn s i : Int) := by unfold decR; rw [if_pos (by omega)]; simp
theorem decN_in {s : ByteArray} {i : Nat} (h : i < s.size) : decN s i = (wd s i : Int) := by unfold decN; rw [if_pos (by omega)]; simp
theorem decG_in {s : ByteArray} {i : Nat} (h : i < s.size) : decG s i = gd s i := by unfold decG; rw [if_pos (by omega)]; simp
theorem decR_out {s : ByteArray} {i : Int} (h : i < 0 ∨ (s.size : Int) ≤ i) : decR s i = 0 := by unfold decR; rw [if_neg (by omega)]
theorem decN_out {s : ByteArray} {i : Int} (h : i < 0 ∨ (s.size : Int) ≤ i) : decN s i = 0 := by unfold decN; rw [if_neg (by omega)]
theorem decG_out {s : ByteArray} {i : Int} (h : i < 0 ∨ (s.size : Int) ≤ i) : decG s i = false := by unfold decG; rw [if_neg (by omega)]

/-- The rune, its size, and whether it is one, of four bytes of which n are there. -/
def dec3 (n b0 b1 b2 b3 : Nat) : Nat × Nat × Bool := ((Lib.decodeN n b0 b1 b2 b3).1, (Lib.decodeN n b0 b1 b2 b3).2, decide (b0 < 128) || decide (1 < (Lib.decodeN n b0 b1 b2 b3).2))
theorem dec3_at (s : ByteArray) (i : Nat) : (rn s i, wd s i, gd s i) = dec3 (s.size - i) (bt s i) (bt s (i + 1)) (bt s (i + 2)) (bt s (i + 3)) := by
  unfold rn gd wd dec3; rw [dec_eq]
theorem dec3_bad {n b0 b1 b2 b3 : Nat} (h : 128 ≤ b0) (h2 : b0 / 32 = 6 → ¬ (1 < n ∧ b1 / 64 = 2 ∧ 128 ≤ b0 % 32 * 64 + b1 % 64))
    (h3 : b0 / 16 = 14 → ¬ (2 < n ∧ b1 / 64 = 2 ∧ b2 / 64 = 2 ∧ 2048 ≤ b0 % 16 * 4096 + b1 % 64 * 64 + b2 % 64 ∧ (b0 % 16 * 4096 + b1 % 64 * 64 + b2 % 64 < 55296 ∨ 57343 < b0 % 16 * 4096 + b1 % 64 * 64 + b2 % 64)))
    (h4 : b0 / 8 = 30 → ¬ (3 < n ∧ b1 / 64 = 2 ∧ b2 / 64 = 2 ∧ b3 / 64 = 2 ∧ 65536 ≤ b0 % 8 * 262144 + b1 % 64 * 4096 + b2 % 64 * 64 + b3 % 64 ∧ b0 % 8 * 262144 + b1 % 64 * 4096 + b2 % 64 * 64 + b3 % 64 ≤ 1114111)) :
    dec3 n b0 b1 b2 b3 = (65533, 1, false) := by
  have hd : Lib.decodeN n b0 b1 b2 b3 = (65533, 1) := by
    unfold Lib.decodeN
    rw [if_neg (by omega)]
    repeat' split
    all_goals first | rfl | (exfalso; omega)
  unfold dec3; rw [hd]; simp; omega
theorem dec3_one {n b0 b1 b2 b3 : Nat} (h : b0 < 128) : dec3 n b0 b1 b2 b3 = (b0, 1, true) := by
  unfold dec3 Lib.decodeN; rw [if_pos h]; simp [h]
theorem dec3_two {n b0 b1 b2 b3 : Nat} (h0 : b0 / 32 = 6) (hn : 1 < n) (h1 : b1 / 64 = 2) (h : 128 ≤ b0 % 32 * 64 + b1 % 64) : dec3 n b0 b1 b2 b3 = (b0 % 32 * 64 + b1 % 64, 2, true) := by
  have hd : Lib.decodeN n b0 b1 b2 b3 = (b0 % 32 * 64 + b1 % 64, 2) := by
    unfold Lib.decodeN
    rw [if_neg (by omega), if_pos ⟨h0, hn, h1⟩, if_pos h]
  unfold dec3; rw [hd]; simp
theorem dec3_three {n b0 b1 b2 b3 : Nat} (h0 : b0 / 16 = 14) (hn : 2 < n) (h1 : b1 / 64 = 2) (h2 : b2 / 64 = 2) (h : 2048 ≤ b0 % 16 * 4096 + b1 % 64 * 64 + b2 % 64)
    (hs : b0 % 16 * 4096 + b1 % 64 * 64 + b2 % 64 < 55296 ∨ 57343 < b0 % 16 * 4096 + b1 % 64 * 64 + b2 % 64) : dec3 n b0 b1 b2 b3 = (b0 % 16 * 4096 + b1 % 64 * 64 + b2 % 64, 3, true) := by
  have hd : Lib.decodeN n b0 b1 b2 b3 = (b0 % 16 * 4096 + b1 % 64 * 64 + b2 % 64, 3) := by
    unfold Lib.decodeN
    rw [if_neg (by omega), if_neg (by omega), if_pos (by omega), if_pos (by omega)]
  unfold dec3; rw [hd]; simp
theorem dec3_four {n b0 b1 b2 b3 : Nat} (h0 : b0 / 8 = 30) (hn : 3 < n) (h1 : b1 / 64 = 2) (h2 : b2 / 64 = 2) (h3 : b3 / 64 = 2) (h : 65536 ≤ b0 % 8 * 262144 + b1 % 64 * 4096 + b2 % 64 * 64 + b3 % 64)
    (hs : b0 % 8 * 262144 + b1 % 64 * 4096 + b2 % 64 * 64 + b3 % 64 ≤ 1114111) : dec3 n b0 b1 b2 b3 = (b0 % 8 * 262144 + b1 % 64 * 4096 + b2 % 64 * 64 + b3 % 64, 4, true) := by
  have hd : Lib.decodeN n b0 b1 b2 b3 = (b0 % 8 * 262144 + b1 % 64 * 4096 + b2 % 64 * 64 + b3 % 64, 4) := by
    unfold Lib.decodeN
    rw [if_neg (by omega), if_neg (by omega), if_neg (by omega), if_pos (by omega), if_pos (by omega)]
  unfold dec3; rw [hd]; simp
set_option maxRecDepth 100000 in
set_option maxHeartbeats 2000000 in
/-- A window of four bytes says the same. -/
theorem dec3_window {n m b0 b1 b2 b3 c1 c2 c3 : Nat} (hm : m = min n 4) (h1 : 1 < n → b1 = c1) (h2 : 2 < n → b2 = c2) (h3 : 3 < n → b3 = c3) : dec3 n b0 b1 b2 b3 = dec3 m b0 c1 c2 c3 := by
  have hd : Lib.decodeN n b0 b1 b2 b3 = Lib.decodeN m b0 c1 c2 c3 := by
    rcases (by omega : n ≤ 1 ∨ n = 2 ∨ n = 3 ∨ 4 ≤ n) with h | h | h | h
    · have a1 : ¬ 1 < n := by omega
      have a2 : ¬ 1 < m := by omega
      simp only [Lib.decodeN, a1, a2, false_and, and_false, if_false]
    · obtain rfl := h1 (by omega)
      have : m = 2 := by omega
      subst this h
      simp only [Lib.decodeN, Nat.lt_irrefl, show ¬ 3 < 2 by omega, false_and, and_false, if_false]
    · obtain rfl := h1 (by omega)
      obtain rfl := h2 (by omega)
      have : m = 3 := by omega
      subst this h
      simp only [Lib.decodeN, Nat.lt_irrefl, false_and, and_false, if_false]
    · obtain rfl := h1 (by omega)
      obtain rfl := h2 (by omega)
      obtain rfl := h3 (by omega)
      have : m = 4 := by omega
      subst this
      simp only [Lib.decodeN, show 1 < n by omega, show 2 < n by omega, show 3 < n by omega, show 1 < 4 by omega, show 2 < 4 by omega, show 3 < 4 by omega]
  unfold dec3; rw [hd]

theorem dec_is {s : ByteArray} {i : Nat} (hi : i < s.size) {R N : Nat} {G : Bool} (h : dec3 (s.size - i) (bt s i) (bt s (i + 1)) (bt s (i + 2)) (bt s (i + 3)) = (R, N, G)) : (R : Int) = decR s i ∧ (N : Int) = decN s i ∧ G = decG s i := by
  rw [← dec3_at] at h
  injection h with h1 h2
  injection h2 with h2 h3
  rw [decR_in hi, decN_in hi, decG_in hi, h1, h2, h3]
  exact ⟨rfl, rfl, rfl⟩

theorem dec_ret {s : ByteArray} {i : Nat} (hi : i < s.size) {R N : Nat} {G : Bool} (h : dec3 (s.size - i) (bt s i) (bt s (i + 1)) (bt s (i + 2)) (bt s (i + 3)) = (R, N, G)) {k j : IntKind} {a b : Int} {g : Bool} (h1 : a = (R : Int)) (h2 : b = (N : Int)) (h3 : g = G) :
    Ending.returned (.tuple #[.int k a, .int j b, .bool g]) = .returned (.tuple #[.int k (decR s i), .int j (decN s i), .bool (decG s i)]) := by
  obtain ⟨e1, e2, e3⟩ := dec_is hi h
  exact ret_iib (h1.trans e1) (h2.trans e2) (h3.trans e3)
theorem dec_row {s : ByteArray} {i : Nat} (hi : i < s.size) {R N : Nat} {G : Bool} (h : dec3 (s.size - i) (bt s i) (bt s (i + 1)) (bt s (i + 2)) (bt s (i + 3)) = (R, N, G)) {k j m : IntKind} {a b u v : Int} {g : Bool} (h0 : u = v) (h1 : a = (R : Int)) (h2 : b = (N : Int)) (h3 : g = G) :
    Ending.returned (.agg #[.int m u, .int k a, .int j b, .bool g]) = .returned (.agg #[.int m v, .int k (decR s i), .int j (decN s i), .bool (decG s i)]) := by
  obtain ⟨e1, e2, e3⟩ := dec_is hi h
  exact ret_row h0 (h1.trans e1) (h2.trans e2) (h3.trans e3)

/-- The bytes of a text, as cells. -/
def bcs (s : ByteArray) : List Value := s.data.toList.map fun b => Value.int .u8 (b.toNat : Int)
theorem bcs_len (s : ByteArray) : (bcs s).length = s.size := by simp [bcs]
theorem bcs_at {s : ByteArray} {i : Nat} (h : i < s.size) : (bcs s)[i]? = some (.int .u8 (bt s i : Int)) := by
  unfold bcs bt
  have h' : i < s.data.toList.length := by simpa using h
  rw [List.getElem?_map, List.getElem?_eq_getElem h']
  simp
  unfold ByteArray.get!
  simp [Array.getElem!_eq_getD, Array.getD, show i < s.data.size from h]
  rw [dif_pos h]

/-! ### bits -/
theorem u8_low6 {c : Int} (h0 : 0 ≤ c) (h1 : c < 256) : bits .and .u8 c 63 = c % 64 := by
  obtain ⟨n, rfl⟩ := Int.eq_ofNat_of_zero_le h0
  have := u8_and_nat n 63 (by omega) (by omega)
  rw [nat_mask6] at this; exact_mod_cast this
theorem u8_low5 {c : Int} (h0 : 0 ≤ c) (h1 : c < 256) : bits .and .u8 c 31 = c % 32 := by
  obtain ⟨n, rfl⟩ := Int.eq_ofNat_of_zero_le h0
  have := u8_and_nat n 31 (by omega) (by omega)
  rw [nat_mask5] at this; exact_mod_cast this
theorem u8_low4 {c : Int} (h0 : 0 ≤ c) (h1 : c < 256) : bits .and .u8 c 15 = c % 16 := by
  obtain ⟨n, rfl⟩ := Int.eq_ofNat_of_zero_le h0
  have := u8_and_nat n 15 (by omega) (by omega)
  rw [nat_mask4] at this; exact_mod_cast this
theorem u8_low3 {c : Int} (h0 : 0 ≤ c) (h1 : c < 256) : bits .and .u8 c 7 = c % 8 := by
  obtain ⟨n, rfl⟩ := Int.eq_ofNat_of_zero_le h0
  have := u8_and_nat n 7 (by omega) (by omega)
  rw [nat_mask3] at this; exact_mod_cast this
theorem i32_join6 {r c : Int} (h0 : 0 ≤ r) (h1 : r ≤ 2097151) (c0 : 0 ≤ c) (c1 : c < 64) : bits .or .i32 (r * 64) c = r * 64 + c := by
  obtain ⟨n, rfl⟩ := Int.eq_ofNat_of_zero_le h0
  obtain ⟨m, rfl⟩ := Int.eq_ofNat_of_zero_le c0
  have hj := nat_join 6 (n * 64) m (by omega) (by omega)
  show IntKind.i32.wrap ((BitVec.ofInt 32 ((n : Int) * 64) ||| BitVec.ofInt 32 (m : Int)).toNat : Int) = _
  have e1 : BitVec.ofInt 32 ((n : Int) * 64) = BitVec.ofNat 32 (n * 64) := by
    rw [show (n : Int) * 64 = ((n * 64 : Nat) : Int) by omega, BitVec.ofInt_natCast]
  rw [e1, BitVec.ofInt_natCast, BitVec.toNat_or, BitVec.toNat_ofNat, BitVec.toNat_ofNat, Nat.mod_eq_of_lt (by omega), Nat.mod_eq_of_lt (by omega), hj, IntKind.wrap_i32]
  omega
end
section
set_option linter.unusedVariables false
set_option linter.unusedSimpArgs false
set_option linter.unnecessarySimpa false
open Go.RowKit
/-- A world that stands on wc: all that wc held is as it was. -/
structure Later (wc : World) where
  w : World
  h : Below wc.heap.size wc w
instance (wc : World) : Nonempty (Later wc) := ⟨⟨wc, Below.refl _ _⟩⟩
section
variable {wc : World}
theorem Later.cell (x : Later wc) {b o : Nat} (hb : b < wc.heap.size) : x.w.cell? ⟨b, o, none⟩ = wc.cell? ⟨b, o, none⟩ := x.h.cell (p := ⟨b, o, none⟩) hb
theorem Later.frozen (x : Later wc) {b o : Nat} (hb : b < wc.heap.size) : x.w.frozen? ⟨b, o, none⟩ = wc.frozen? ⟨b, o, none⟩ := x.h.frozen (p := ⟨b, o, none⟩) hb
theorem Later.cellAt (x : Later wc) {a : Addr} (hb : a.block < wc.heap.size) : x.w.cell? a = wc.cell? a := x.h.cell hb
theorem Later.call {P : Program} {f : FuncId} {args : Array Value} {x : Later wc} {v : Value} (h : Calls P f args x.w fun e w' => e = .returned v ∧ Below x.w.heap.size x.w w') :
    Calls P f args x.w fun e w'' => e = .returned v ∧ ∃ y : Later wc, w'' = y.w :=
  h.mono fun _ w' ⟨he, hb⟩ => ⟨he, ⟨w', x.h.trans (hb.mono x.h.size)⟩, rfl⟩
theorem Later.call_same {P : Program} {f : FuncId} {args : Array Value} {x : Later wc} {v : Value} (h : Calls P f args x.w fun e w' => e = .returned v ∧ w' = x.w) :
    Calls P f args x.w fun e w'' => e = .returned v ∧ ∃ y : Later wc, w'' = y.w :=
  h.mono fun _ w' ⟨he, hb⟩ => ⟨he, x, hb⟩
theorem wp_region_later {P : Program} {id : Nat} {Q : Exit → Act → World → Prop} {a : Act} {w : World} {l : List Oper} (wc : World) (hw : Below wc.heap.size wc w) (hm : P.follows .mixedOrders = true) (hB : Region.lexB .any l.toArray = true)
    (h : wpQuiet P l.toArray (fun w' => ∃ x : Later wc, w' = x.w) (fun a' => ∀ w', (∃ x : Later wc, w' = x.w) → Q .normal a' w') l a) : (Code.region id l.toArray true).wp P Q a w :=
  wp_region_quiet (C := fun w' => ∃ x : Later wc, w' = x.w) hm hB ⟨⟨_, hw.drew⟩, rfl⟩ (by simpa using h)
end
end
section
set_option linter.unusedVariables false
set_option linter.unusedSimpArgs false
set_option linter.unnecessarySimpa false
open Go.ChangeShapes Go.WideShapes Go.ChangeAt Go.WideMaps Go.WideElems Go.RowKit Go.Joins Go.Deep
section
variable {H : Type} {enc : TypeId × Value → H} {P : Program} {w : World} {base : Nat} {spare : Nat → Bool} {held : Bool}
theorem array5 {α : Type} {cs : Array α} (h : cs.size = 5) : ∃ c0 c1 c2 c3 c4, cs = #[c0, c1, c2, c3, c4] := by
  obtain ⟨l⟩ := cs
  match l, h with
  | [c0, c1, c2, c3, c4], _ => exact ⟨c0, c1, c2, c3, c4, rfl⟩
theorem list5 {α : Type} {l : List α} (h : l.length = 5) : ∃ c0 c1 c2 c3 c4, l = [c0, c1, c2, c3, c4] := by
  match l, h with
  | [c0, c1, c2, c3, c4], _ => exact ⟨c0, c1, c2, c3, c4, rfl⟩
theorem trod_struct5 {t : TypeId} {f0 f1 f2 f3 f4 : Field} {fuel : Nat} {cs : List Value} {x : DataW H × List MemPlace} (ht : P.underlying t = some (.struct #[f0, f1, f2, f3, f4])) (h : DataW.trod enc P w base spare held fuel t cs = some x) :
    ∃ y0 y1 y2 y3 y4 n, x = (.agg [y0.1, y1.1, y2.1, y3.1, y4.1], y0.2 ++ (y1.2 ++ (y2.2 ++ (y3.2 ++ y4.2)))) ∧ cs.length = P.cellsOf t ∧ DataW.trod enc P w base spare held n f0.type ((cs.drop f0.offset).take (P.cellsOf f0.type)) = some y0 ∧
      DataW.trod enc P w base spare held n f1.type ((cs.drop f1.offset).take (P.cellsOf f1.type)) = some y1 ∧ DataW.trod enc P w base spare held n f2.type ((cs.drop f2.offset).take (P.cellsOf f2.type)) = some y2 ∧
      DataW.trod enc P w base spare held n f3.type ((cs.drop f3.offset).take (P.cellsOf f3.type)) = some y3 ∧ DataW.trod enc P w base spare held n f4.type ((cs.drop f4.offset).take (P.cellsOf f4.type)) = some y4 := by
  obtain ⟨xs, n, _, rfl, hl, hlen, hf⟩ := DataW.trod_struct ht h
  match xs, hlen with
  | [y0, y1, y2, y3, y4], _ => exact ⟨y0, y1, y2, y3, y4, n, by simp, hl, by simpa using hf 0 f0 rfl, by simpa using hf 1 f1 rfl, by simpa using hf 2 f2 rfl, by simpa using hf 3 f3 rfl, by simpa using hf 4 f4 rfl⟩
theorem trod_one5 {t : TypeId} {f0 f1 f2 f3 f4 : Field} {fuel : Nat} {cs : List Value} {x : DataW H × List MemPlace}
    (hs : P.underlying t = some (.struct #[f0, f1, f2, f3, f4])) (hone : oneCellFields P #[f0, f1, f2, f3, f4] = true) (hC : P.cellsOf t = 5) (h : DataW.trod enc P w base spare held fuel t cs = some x) :
    ∃ (v0 v1 v2 v3 v4 : Value) (y0 y1 y2 y3 y4 : DataW H × List MemPlace) (n : Nat), cs = [v0, v1, v2, v3, v4] ∧ x = (.agg [y0.1, y1.1, y2.1, y3.1, y4.1], y0.2 ++ (y1.2 ++ (y2.2 ++ (y3.2 ++ y4.2)))) ∧
      DataW.trod enc P w base spare held n f0.type [v0] = some y0 ∧ DataW.trod enc P w base spare held n f1.type [v1] = some y1 ∧ DataW.trod enc P w base spare held n f2.type [v2] = some y2 ∧ DataW.trod enc P w base spare held n f3.type [v3] = some y3 ∧ DataW.trod enc P w base spare held n f4.type [v4] = some y4 := by
  obtain ⟨y0, y1, y2, y3, y4, n, hx, hlen, h0, h1, h2, h3, h4⟩ := trod_struct5 hs h
  obtain ⟨c0, c1, c2, c3, c4, rfl⟩ := list5 (hlen.trans hC)
  obtain ⟨o0, k0⟩ := hone_of hone 0 f0 rfl
  obtain ⟨o1, k1⟩ := hone_of hone 1 f1 rfl
  obtain ⟨o2, k2⟩ := hone_of hone 2 f2 rfl
  obtain ⟨o3, k3⟩ := hone_of hone 3 f3 rfl
  obtain ⟨o4, k4⟩ := hone_of hone 4 f4 rfl
  exact ⟨c0, c1, c2, c3, c4, y0, y1, y2, y3, y4, n, rfl, hx, by simpa [o0, k0] using h0, by simpa [o1, k1] using h1, by simpa [o2, k2] using h2, by simpa [o3, k3] using h3, by simpa [o4, k4] using h4⟩
theorem open_agg5 {r : Reach} {b0 : Nat} {t : TypeId} {f0 f1 f2 f3 f4 : Field} {v : Value} {d : DataW H} {p : List MemPlace} (hs : P.underlying t = some (.struct #[f0, f1, f2, f3, f4])) (hone : oneCellFields P #[f0, f1, f2, f3, f4] = true) (hC : P.cellsOf t = 5)
    (hv : Value.okWide P w r b0 t v) (h : DataW.Trod enc P w base spare held t v d p) :
    ∃ (v0 v1 v2 v3 v4 : Value) (y0 y1 y2 y3 y4 : DataW H × List MemPlace) (n : Nat), v = .agg #[v0, v1, v2, v3, v4] ∧ d = .agg [y0.1, y1.1, y2.1, y3.1, y4.1] ∧
      DataW.trod enc P w base spare held n f0.type [v0] = some y0 ∧ DataW.trod enc P w base spare held n f1.type [v1] = some y1 ∧ DataW.trod enc P w base spare held n f2.type [v2] = some y2 ∧ DataW.trod enc P w base spare held n f3.type [v3] = some y3 ∧ DataW.trod enc P w base spare held n f4.type [v4] = some y4 := by
  obtain ⟨cs, rfl, hsz⟩ := okWide_struct hs hv
  obtain ⟨c0, c1, c2, c3, c4, rfl⟩ := array5 (hsz.trans hC)
  obtain ⟨fuel, hf⟩ := h
  obtain ⟨v0, v1, v2, v3, v4, y0, y1, y2, y3, y4, n, e, hx, h0, h1, h2, h3, h4⟩ := trod_one5 hs hone hC hf
  simp only [Value.cells, List.cons.injEq, and_true] at e
  obtain ⟨rfl, rfl, rfl, rfl, rfl⟩ := e
  simp only [Prod.mk.injEq] at hx
  exact ⟨_, _, _, _, _, y0, y1, y2, y3, y4, n, rfl, hx.1, h0, h1, h2, h3, h4⟩
end
end
end Go.Proofs.YtpkdhciokiomlaaGreatDoor
