/- Some texts of this claim, put together. -/
import Derived.Test.YtpkdhciokiomlaaDoorHBZ1
import Derived.Lib.DecodeN
import Derived.Lib.RuneBytes
import Derived.Test.YtpkdhciokiomlaaDoorHBZ5
import Derived.Lib.OthersKept
import Derived.OneCell
import Derived.WalkSmall
namespace Go.Proofs.YtpkdhciokiomlaaDoor
section
set_option linter.unusedVariables false
set_option linter.unusedSimpArgs false
set_option linter.unnecessarySimpa false
open Go.RowKit

/-- The rune that begins at a place. -/
def rn (s : ByteArray) (i : Nat) : Nat := (Utf8.decode s i).1
/-- How many bytes it has. -/
def wd (s : ByteArray) (i : Nat) : Nat := (Utf8.decode s i).2
/-- The byte at a place, as a number. -/
def bt (s : ByteArray) (i : Nat) : Nat := (s.get! i).toNat
/-- Is it a rune (or a byte that begins none)? -/
def gd (s : ByteArray) (i : Nat) : Bool := decide (bt s i < 128) || decide (1 < wd s i)
theorem bt_lt (s : ByteArray) (i : Nat) : bt s i < 256 := (s.get! i).toNat_lt

theorem dec_eq (s : ByteArray) (i : Nat) : Utf8.decode s i = Lib.decodeN (s.size - i) (bt s i) (bt s (i + 1)) (bt s (i + 2)) (bt s (i + 3)) := Lib.decode_at s i
theorem decodeN_wd (n b0 b1 b2 b3 : Nat) (h : 0 < n) : 1 ≤ (Lib.decodeN n b0 b1 b2 b3).2 ∧ (Lib.decodeN n b0 b1 b2 b3).2 ≤ n ∧ (Lib.decodeN n b0 b1 b2 b3).2 ≤ 4 := by
  unfold Lib.decodeN
  repeat' split
  all_goals (simp only []; omega)
theorem decodeN_rn (n b0 b1 b2 b3 : Nat) (h0 : b0 < 256) : (Lib.decodeN n b0 b1 b2 b3).1 ≤ 1114111 ∧ ((Lib.decodeN n b0 b1 b2 b3).1 < 55296 ∨ 57344 ≤ (Lib.decodeN n b0 b1 b2 b3).1) := by
  unfold Lib.decodeN
  repeat' split
  all_goals (simp only []; omega)
theorem wd_bd {s : ByteArray} {i : Nat} (h : i < s.size) : 1 ≤ wd s i ∧ i + wd s i ≤ s.size ∧ wd s i ≤ 4 := by
  unfold wd; rw [dec_eq]
  have := decodeN_wd (s.size - i) (bt s i) (bt s (i + 1)) (bt s (i + 2)) (bt s (i + 3)) (by omega)
  omega
theorem rn_bd (s : ByteArray) (i : Nat) : rn s i ≤ 1114111 ∧ (rn s i < 55296 ∨ 57344 ≤ rn s i) := by
  unfold rn; rw [dec_eq]; exact decodeN_rn _ _ _ _ _ (bt_lt s i)

/-- The runes from a place on: their places. -/
def placesF (s : ByteArray) : Nat → Nat → List Nat
  | 0, _ => []
  | f + 1, i => if i < s.size then i :: placesF s f (i + wd s i) else []
/-- The places of all runes from a place on. -/
def placesAt (s : ByteArray) (i : Nat) : List Nat := placesF s (s.size - i) i
def places (s : ByteArray) : List Nat := placesAt s 0
theorem placesF_fuel (s : ByteArray) : ∀ (f g i : Nat), s.size - i ≤ f → s.size - i ≤ g → placesF s f i = placesF s g i
  | 0, 0, _, _, _ => rfl
  | 0, g + 1, i, h, _ => by simp only [placesF]; rw [if_neg (by omega)]
  | f + 1, 0, i, _, h => by simp only [placesF]; rw [if_neg (by omega)]
  | f + 1, g + 1, i, h, h' => by
    simp only [placesF]
    by_cases hi : i < s.size
    · have := wd_bd hi
      rw [if_pos hi, if_pos hi, placesF_fuel s f g (i + wd s i) (by omega) (by omega)]
    · rw [if_neg hi, if_neg hi]
theorem placesAt_end {s : ByteArray} {i : Nat} (h : ¬ i < s.size) : placesAt s i = [] := by
  unfold placesAt; rw [show s.size - i = 0 by omega]; rfl
theorem placesAt_step {s : ByteArray} {i : Nat} (h : i < s.size) : placesAt s i = i :: placesAt s (i + wd s i) := by
  have hw := wd_bd h
  unfold placesAt
  obtain ⟨f, hf⟩ : ∃ f, s.size - i = f + 1 := ⟨s.size - i - 1, by omega⟩
  rw [hf]
  simp only [placesF]
  rw [if_pos h, placesF_fuel s f (s.size - (i + wd s i)) (i + wd s i) (by omega) (by omega)]
theorem placesF_len (s : ByteArray) : ∀ (f i : Nat), (placesF s f i).length ≤ f
  | 0, _ => by simp [placesF]
  | f + 1, i => by
    simp only [placesF]
    split
    · have := placesF_len s f (i + wd s i); simp; omega
    · simp
theorem places_len (s : ByteArray) : (places s).length ≤ s.size := by
  have := placesF_len s (s.size - 0) 0; unfold places placesAt; omega

/-- Where a loop over the runes stands: what is behind, and what is to come. -/
def AtPlace (s : ByteArray) (pre : List Nat) (i : Nat) : Prop := places s = pre ++ placesAt s i ∧ i ≤ s.size
theorem AtPlace.start (s : ByteArray) : AtPlace s [] 0 := ⟨rfl, Nat.zero_le _⟩
theorem AtPlace.step {s : ByteArray} {pre : List Nat} {i : Nat} (h : AtPlace s pre i) (hi : i < s.size) : AtPlace s (pre ++ [i]) (i + wd s i) :=
  ⟨by rw [h.1, placesAt_step hi]; simp, (wd_bd hi).2.1⟩
theorem AtPlace.fin {s : ByteArray} {pre : List Nat} {i : Nat} (h : AtPlace s pre i) (hi : ¬ i < s.size) : pre = places s := by
  rw [h.1, placesAt_end hi]; simp
theorem AtPlace.len {s : ByteArray} {pre : List Nat} {i : Nat} (h : AtPlace s pre i) : pre.length ≤ s.size := by
  have := places_len s; rw [h.1] at this; simp at this; omega

/-- The model's own conversion to runes. -/
theorem runesFrom_eq (s : ByteArray) : ∀ (f i : Nat) (acc : Array Value), Conv.runesFrom s f i acc = acc ++ ((placesF s f i).map fun j => Value.int .i32 (rn s j : Int)).toArray
  | 0, _, acc => by simp [Conv.runesFrom, placesF]
  | f + 1, i, acc => by
    unfold Conv.runesFrom
    simp only [placesF]
    by_cases hi : i < s.size
    · rw [if_pos hi, if_pos hi]
      show Conv.runesFrom s f (i + wd s i) (acc.push (.int .i32 (Int.ofNat (rn s i)))) = _
      rw [runesFrom_eq s f (i + wd s i)]
      simp
    · rw [if_neg hi, if_neg hi]; simp
theorem runes_eq (s : ByteArray) : Conv.runesFrom s s.size 0 #[] = ((places s).map fun j => Value.int .i32 (rn s j : Int)).toArray := by
  rw [runesFrom_eq]; simp [places, placesAt]
/-- The runes of a text. -/
def runesOf (s : ByteArray) : List Int := (places s).map fun j => (rn s j : Int)
end
section
set_option linter.unusedVariables false
set_option linter.unusedSimpArgs false
set_option linter.unnecessarySimpa false
open Go.RowKit
theorem below_grown {W W' : World} (hb : Below W.heap.size W W') : W.grownBy W' none := ⟨hb.os, hb.tape, hb.output, hb.size, fun i hi _ => hb.block i hi⟩
theorem own_below {W W' : World} {base : Nat} {e : TypeId} {size n : Nat} {v : Value} {xs : List Value} (h : W.ownsRow base e size v n xs) (hb : Below W.heap.size W W') : W'.ownsRow base e size v n xs :=
  h.kept (below_grown hb) (by cases hv : v.ownBlock <;> simp)
theorem own_ge {w : World} {base : Nat} {e : TypeId} {size n : Nat} {v : Value} {xs : List Value} (h : w.ownsRow base e size v n xs) : ∀ k, v.ownBlock = some k → base ≤ k := fun k e => by
  rcases h.2 with ⟨rfl, _⟩ | ⟨g, cap, cur, rfl, hb, _⟩
  · cases e
  · injection e with e; simp at e; omega
theorem own_lt {w : World} {base : Nat} {e : TypeId} {size n : Nat} {v : Value} {xs : List Value} (h : w.ownsRow base e size v n xs) : ∀ k, v.ownBlock = some k → k < w.heap.size := fun k e => by
  rcases h.2 with ⟨rfl, _⟩ | ⟨g, cap, cur, rfl, _, hh, _⟩
  · cases e
  · injection e with e; simp at e; subst e; exact (Array.getElem?_eq_some_iff.1 hh).1
theorem row_grown {W W' : World} {g : Nat} {t : TypeId} {cs : Array Value} {row : Option Nat} (h : Row W g t cs) (hg : W.grownBy W' row) (hne : row ≠ some g) : Row W' g t cs := (hg.block g h.lt (fun e => hne e.symm)).trans h
end
section
set_option linter.unusedVariables false
set_option linter.unusedSimpArgs false
set_option linter.unnecessarySimpa false
open Go.RowKit
theorem own_grown {w w' : World} {base : Nat} {e : TypeId} {size n : Nat} {v : Value} {xs : List Value} {row : Option Nat} (h : w.ownsRow base e size v n xs) (hg : w.grownBy w' row) (hne : ∀ g, v.ownBlock = some g → row ≠ some g) : w'.ownsRow base e size v n xs := by
  refine ⟨h.1, ?_⟩
  rcases h.2 with h0 | ⟨g, cap, cur, rfl, hb, hh, hr⟩
  · exact .inl h0
  · have hlt : g < w.heap.size := (Array.getElem?_eq_some_iff.1 hh).1
    exact .inr ⟨g, cap, cur, rfl, hb, (hg.block g hlt (fun e => hne g rfl e.symm)).trans hh, hr⟩
theorem own_type {w : World} {base : Nat} {e : TypeId} {size n : Nat} {v : Value} {xs : List Value} (h : w.ownsRow base e size v n xs) {g : Nat} (hv : v.ownBlock = some g) : ∃ cur fr, w.heap[g]? = some (.cells cur e fr) := by
  rcases h.2 with ⟨rfl, _⟩ | ⟨g', cap, cur, rfl, hb, hh, hr⟩
  · simp [Value.ownBlock] at hv
  · simp [Value.ownBlock] at hv; subst hv; exact ⟨_, _, hh⟩
theorem own_two {w : World} {b b' : Nat} {e e' : TypeId} {size size' n n' : Nat} {v v' : Value} {xs xs' : List Value} (h : w.ownsRow b e size v n xs) (h' : w.ownsRow b' e' size' v' n' xs') (hne : e ≠ e') : ∀ g, v'.ownBlock = some g → v.ownBlock ≠ some g := fun g hv' hv => by
  obtain ⟨_, _, h1⟩ := own_type h hv
  obtain ⟨_, _, h2⟩ := own_type h' hv'
  rw [h1] at h2; injection h2 with h2; injection h2 with _ h2 _; exact hne h2
theorem iter_grown {w w' : World} {row : Option Nat} {k : Nat} {o : Obj} (h : w.heap[k]? = some o) (hg : w.grownBy w' row) (hne : row ≠ some k) : w'.heap[k]? = some o :=
  (hg.block k (Array.getElem?_eq_some_iff.1 h).1 (fun e => hne e.symm)).trans h
theorem cell_grown {w w' : World} {row : Option Nat} {g : Nat} {v : Value} (h : w.cell? ⟨g, 0, none⟩ = some v) (hg : w.grownBy w' row) (hne : row ≠ some g) : w'.cell? ⟨g, 0, none⟩ = some v := by
  have hlt : g < w.heap.size := by
    rcases Nat.lt_or_ge g w.heap.size with h1 | h1
    · exact h1
    · simp [World.cell?, Array.getElem?_eq_none h1] at h
  exact (World.cell?_of_block (hg.block g hlt (fun e => hne e.symm))).trans h
/-- The rows of what is told of the runes at these places. -/
def atC (l : List Nat) : List Value := l.map fun (p : Nat) => .int .i64 (p : Int)
def runeC (s : ByteArray) (l : List Nat) : List Value := l.map fun (p : Nat) => .int .i32 (rn s p : Int)
theorem atC_snoc (l : List Nat) (p : Nat) : atC (l ++ [p]) = atC l ++ [.int .i64 (p : Int)] := by simp [atC]
theorem runeC_snoc (s : ByteArray) (l : List Nat) (p : Nat) : runeC s (l ++ [p]) = runeC s l ++ [.int .i32 (rn s p : Int)] := by simp [runeC]
end
end Go.Proofs.YtpkdhciokiomlaaDoor
