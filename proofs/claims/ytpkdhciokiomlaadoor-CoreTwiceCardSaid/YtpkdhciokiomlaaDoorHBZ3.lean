/- Some texts of this claim, put together. -/
import Derived.Test.YtpkdhciokiomlaaDoorHBZ6
import Derived.Lib.RuneBytes
import Derived.Test.YtpkdhciokiomlaaDoorHLex2
namespace Go.Proofs.YtpkdhciokiomlaaDoor
section
set_option linter.unusedVariables false
set_option linter.unusedSimpArgs false
set_option linter.unnecessarySimpa false
open Go.RowKit
set_option maxHeartbeats 2000000 in
theorem decodeN_enc (n b0 b1 b2 b3 : Nat) (h0 : b0 < 256) (h1 : b1 < 256) (h2 : b2 < 256) (h3 : b3 < 256) (hg : b0 < 128 ∨ 1 < (Lib.decodeN n b0 b1 b2 b3).2) :
    Lib.encodeRuneZ ((Lib.decodeN n b0 b1 b2 b3).1 : Int) = ([(b0 : Int), b1, b2, b3].take (Lib.decodeN n b0 b1 b2 b3).2) := by
  unfold Lib.decodeN at hg ⊢
  by_cases c1 : b0 < 128
  · rw [if_pos c1]
    rw [Lib.encodeRuneZ_one (by omega) (by simp only []; omega)]; rfl
  · rw [if_neg c1] at hg ⊢
    split
    · rename_i c
      rw [if_pos c] at hg
      split
      · rw [Lib.encodeRuneZ_two (by simp only []; omega) (by simp only []; omega)]
        simp only [List.take_succ_cons, List.take_zero, List.cons.injEq, and_true]
        omega
      · rename_i d; rw [if_neg d] at hg; simp at hg; omega
    · rename_i c
      rw [if_neg c] at hg
      split
      · rename_i c'
        rw [if_pos c'] at hg
        split
        · rw [Lib.encodeRuneZ_three (by simp only []; omega)]
          simp only [List.take_succ_cons, List.take_zero, List.cons.injEq, and_true]
          omega
        · rename_i d; rw [if_neg d] at hg; simp at hg; omega
      · rename_i c'
        rw [if_neg c'] at hg
        split
        · rename_i c''
          rw [if_pos c''] at hg
          split
          · rw [Lib.encodeRuneZ_four (by simp only []; omega) (by simp only []; omega)]
            simp only [List.take_succ_cons, List.take_zero, List.cons.injEq, and_true]
            omega
          · rename_i d; rw [if_neg d] at hg; simp at hg; omega
        · rename_i c''; rw [if_neg c''] at hg; simp at hg; omega
/-- A text's bytes, as numbers. -/
def bytesZ (s : ByteArray) : List Int := s.data.toList.map fun x => (x.toNat : Int)
theorem bytesZ_len (s : ByteArray) : (bytesZ s).length = s.size := by simp [bytesZ]
theorem bytesZ_inj {s t : ByteArray} (h : bytesZ s = bytesZ t) : s = t := by
  have h2 : s.data.toList = t.data.toList := List.map_inj_right (f := fun x : UInt8 => (x.toNat : Int)) (fun x y e => UInt8.toNat_inj.1 (Int.ofNat_inj.1 e)) |>.1 h
  exact ByteArray.ext (Array.toList_inj.1 h2)
theorem bytesZ_at {s : ByteArray} {i : Nat} (h : i < s.size) : (bytesZ s).drop i = (bt s i : Int) :: (bytesZ s).drop (i + 1) := by
  rw [List.drop_eq_getElem_cons (by rw [bytesZ_len]; exact h)]
  congr 1
  simp [bytesZ, bt, ByteArray.get!, h]
theorem bytesZ_rune {s : ByteArray} {i : Nat} (h : i < s.size) (hg : gd s i = true) : (bytesZ s).drop i = Lib.encodeRuneZ (rn s i : Int) ++ (bytesZ s).drop (i + wd s i) := by
  have hw := wd_bd h
  have e := decodeN_enc (s.size - i) (bt s i) (bt s (i + 1)) (bt s (i + 2)) (bt s (i + 3)) (bt_lt _ _) (bt_lt _ _) (bt_lt _ _) (bt_lt _ _) (by
    unfold gd wd at hg; rw [dec_eq] at hg; simpa using hg)
  rw [← dec_eq] at e
  change Lib.encodeRuneZ (rn s i : Int) = List.take (wd s i) _ at e
  rw [e]
  generalize wd s i = k at *
  rcases (by omega : k = 1 ∨ k = 2 ∨ k = 3 ∨ k = 4) with rfl | rfl | rfl | rfl
  · rw [bytesZ_at h]; rfl
  · rw [bytesZ_at h, bytesZ_at (show i + 1 < s.size by omega)]; rfl
  · rw [bytesZ_at h, bytesZ_at (show i + 1 < s.size by omega), bytesZ_at (show i + 1 + 1 < s.size by omega)]; rfl
  · rw [bytesZ_at h, bytesZ_at (show i + 1 < s.size by omega), bytesZ_at (show i + 1 + 1 < s.size by omega), bytesZ_at (show i + 1 + 1 + 1 < s.size by omega)]; rfl
/-- Is a text good all through? -/
def good (s : ByteArray) : Bool := (places s).all (gd s)
theorem bytesZ_places (s : ByteArray) : ∀ (n i : Nat), s.size - i ≤ n → i ≤ s.size → (placesAt s i).all (gd s) = true → (bytesZ s).drop i = (placesAt s i).flatMap fun p => Lib.encodeRuneZ (rn s p : Int)
  | 0, i, h, hi, _ => by
    rw [placesAt_end (by omega), List.drop_of_length_le (by rw [bytesZ_len]; omega)]; rfl
  | n + 1, i, h, hi, hg => by
    by_cases hlt : i < s.size
    · have hw := wd_bd hlt
      rw [placesAt_step hlt] at hg ⊢
      rw [List.all_cons, Bool.and_eq_true] at hg
      rw [bytesZ_rune hlt hg.1, List.flatMap_cons, bytesZ_places s n (i + wd s i) (by omega) hw.2.1 hg.2]
    · rw [placesAt_end hlt, List.drop_of_length_le (by rw [bytesZ_len]; omega)]; rfl
theorem good_bytes {s : ByteArray} (h : good s = true) : bytesZ s = (runesOf s).flatMap Lib.encodeRuneZ := by
  have := bytesZ_places s s.size 0 (by omega) (by omega) h
  rw [List.drop_zero] at this
  rw [this]
  unfold runesOf places
  rw [List.flatMap_map]
/-- Two good texts of the same runes are the same. -/
theorem good_inj {s t : ByteArray} (hs : good s = true) (ht : good t = true) (h : runesOf s = runesOf t) : s = t :=
  bytesZ_inj (by rw [good_bytes hs, good_bytes ht, h])
end
section
set_option linter.unusedVariables false
set_option linter.unusedSimpArgs false
set_option linter.unnecessarySimpa false
open Go.RowKit
/-- A node. -/
structure Nd where
  k : Int
  x : ByteArray
  m : Int
  ks : List Int
  p : Int
def nd0 : Nd := ⟨0, ⟨#[]⟩, 0, [], 0⟩
instance : Inhabited Nd := ⟨nd0⟩
def inL (L : List Nd) (i : Int) : Bool := decide (0 ≤ i) && decide (i < (L.length : Int))
def nd (L : List Nd) (i : Int) : Nd := if 0 ≤ i then L.getD i.toNat nd0 else nd0
theorem inL_iff {L : List Nd} {i : Int} : inL L i = true ↔ 0 ≤ i ∧ i < L.length := by simp [inL]
theorem inL_nat {L : List Nd} {i : Int} (h : inL L i = true) : ∃ j : Nat, i = (j : Int) ∧ j < L.length := by
  rw [inL_iff] at h
  exact ⟨i.toNat, by omega, by omega⟩
theorem nd_out {L : List Nd} {i : Int} (h : inL L i = false) : nd L i = nd0 := by
  unfold nd
  split
  · have h2 : ¬ (0 ≤ i ∧ i < L.length) := by rw [← inL_iff, h]; simp
    rw [List.getD_eq_getElem?_getD, List.getElem?_eq_none (by omega)]; rfl
  · rfl
theorem nd_nat (L : List Nd) (j : Nat) : nd L (j : Int) = L.getD j nd0 := by simp [nd]
theorem in_of_kind {L : List Nd} {i : Int} (h : (nd L i).k ≠ 0) : inL L i = true := by
  rcases Bool.eq_false_or_eq_true (inL L i) with h1 | h1
  · exact h1
  · rw [nd_out h1] at h; exact absurd rfl h
/-! ### kinds -/
def exprK (k : Int) : Bool := decide (10 ≤ k) && decide (k ≤ 34) && !(k == 21)
def typeK (k : Int) : Bool := decide (80 ≤ k) && decide (k ≤ 87) && !(k == 85)
def stmtK (k : Int) : Bool := k == 40 || k == 41 || k == 42 || k == 47 || k == 49 || k == 51 || k == 52 || k == 53 || k == 54 || k == 55 || k == 56 || k == 57 || k == 58 || k == 59 || k == 60 || k == 61 || k == 63 || k == 64 || k == 65
def kindK (k : Int) : Bool := (decide (1 ≤ k) && decide (k ≤ 3)) || (decide (10 ≤ k) && decide (k ≤ 34)) || (decide (40 ≤ k) && decide (k ≤ 67)) || (decide (80 ≤ k) && decide (k ≤ 87))
/-! ### places, as the program has them -/
abbrev Plc := List Nd → Int → Bool
def ofP (l : List Int) : Plc := fun L i => l.contains (nd L i).k
def orP (p q : Plc) : Plc := fun L i => p L i || q L i
def rowsP (p : Plc) : Plc := fun L i => (nd L i).k == 2 && (nd L i).ks.all fun j => inL L j && p L j
def anyP : Plc := fun _ _ => true
def exprP : Plc := fun L i => exprK (nd L i).k
def typeP : Plc := fun L i => typeK (nd L i).k
def stmtP : Plc := fun L i => stmtK (nd L i).k
def plainP : Plc := fun L i => (nd L i).k == 66 && ((nd L i).m == 0 || (nd L i).m == 1)
def spotP : Plc := ofP [17, 29, 30]
/-- A Name, or Members over one, in so many steps. -/
def pathIn (L : List Nd) : Nat → Int → Bool
  | 0, _ => false
  | f + 1, i => if (nd L i).k = 29 then (match (nd L i).ks with
      | [j] => inL L j && pathIn L f j
      | _ => false) else (nd L i).k == 17
def pathP : Plc := fun L i => pathIn L L.length i
def ctorsB (L : List Nd) (ks : List Int) : Nat := (ks.filter fun j => (nd L j).k == 46).length
def memP : Plc := fun L i => rowsP (ofP [44, 45, 46]) L i && decide (ctorsB L (nd L i).ks < 2)
def expK (y : Nd) : Bool := if y.k = 40 then y.m == 1 else if y.k = 47 then !(y.m == 1) else y.k == 41 || y.k == 42 || y.k == 49 || y.k == 51 || y.k == 52
def expP : Plc := fun L i => expK (nd L i)
def letP : Plc := fun L i => (nd L i).k == 40 && (nd L i).m == 0
/-- The table: what the kids of a kind are of; true: any number of the last one. -/
def tab (k : Int) : Option (List Plc × Bool) :=
  if k = 1 ∨ k = 10 ∨ k = 11 ∨ k = 13 ∨ k = 14 ∨ k = 15 ∨ k = 16 ∨ k = 18 ∨ k = 17 ∨ k = 32 ∨ k = 58 ∨ k = 59 ∨ k = 65 ∨ k = 67 ∨ k = 81 ∨ k = 82 then some ([], false)
  else if k = 2 then some ([anyP], true)
  else if k = 3 ∨ k = 63 then some ([stmtP], true)
  else if k = 19 then some ([exprP], true)
  else if k = 20 then some ([ofP [21]], true)
  else if k = 21 ∨ k = 23 ∨ k = 29 ∨ k = 34 ∨ k = 60 ∨ k = 64 then some ([exprP], false)
  else if k = 22 then some ([rowsP (ofP [67]), rowsP plainP, orP (ofP [63]) exprP], false)
  else if k = 24 ∨ k = 30 then some ([exprP, exprP], false)
  else if k = 25 then some ([exprP, exprP, exprP], false)
  else if k = 26 then some ([spotP, exprP], false)
  else if k = 27 then some ([exprP, rowsP typeP, rowsP exprP], false)
  else if k = 28 then some ([pathP, rowsP typeP, rowsP exprP], false)
  else if k = 31 then some ([rowsP exprP], false)
  else if k = 33 then some ([exprP, typeP], false)
  else if k = 40 then some ([orP typeP (ofP [1]), exprP], false)
  else if k = 41 ∨ k = 45 then some ([rowsP (ofP [67]), rowsP plainP, orP typeP (ofP [1]), ofP [63]], false)
  else if k = 42 then some ([rowsP (ofP [67]), orP (ofP [43]) (ofP [1]), rowsP (ofP [80]), memP], false)
  else if k = 43 ∨ k = 80 then some ([rowsP typeP], false)
  else if k = 44 then some ([orP typeP (ofP [1]), orP exprP (ofP [1])], false)
  else if k = 46 then some ([rowsP (ofP [66]), ofP [63]], false)
  else if k = 47 then some ([ofP [48]], true)
  else if k = 48 ∨ k = 57 then some ([orP exprP (ofP [1])], false)
  else if k = 49 then some ([orP stmtP (ofP [50])], true)
  else if k = 50 then some ([expP], false)
  else if k = 51 then some ([rowsP (ofP [67]), rowsP (ofP [80]), ofP [84]], false)
  else if k = 52 then some ([rowsP (ofP [67]), typeP], false)
  else if k = 53 then some ([exprP, ofP [63], orP (ofP [63, 53]) (ofP [1])], false)
  else if k = 54 ∨ k = 56 then some ([exprP, ofP [63]], false)
  else if k = 55 then some ([orP letP (ofP [1]), orP exprP (ofP [1]), orP exprP (ofP [1]), ofP [63]], false)
  else if k = 61 then some ([ofP [63], orP (ofP [62]) (ofP [1]), orP (ofP [63]) (ofP [1])], false)
  else if k = 62 then some ([ofP [63]], false)
  else if k = 66 then some ([orP typeP (ofP [1])], false)
  else if k = 83 ∨ k = 85 then some ([typeP], false)
  else if k = 84 then some ([ofP [85]], true)
  else if k = 86 then some ([rowsP plainP, typeP], false)
  else none
/-- Every kid from the i-th on is of its place (the last one's, behind them). -/
def eachP (L : List Nd) (ps : List Plc) : Nat → List Int → Bool
  | _, [] => true
  | i, k :: ks => (ps.getD (min i (ps.length - 1)) anyP) L k && eachP L ps (i + 1) ks
/-- The parts of a template: a text, an expression, a text .. -/
def tmplP (L : List Nd) : Nat → List Int → Bool
  | _, [] => true
  | i, k :: ks => (if i % 2 = 0 then (nd L k).k == 11 else exprK (nd L k).k) && tmplP L (i + 1) ks
/-- The kids fit, as the program asks it. -/
def kidsP (L : List Nd) (y : Nd) : Bool :=
  y.ks.all (inL L) && (if y.k = 12 then tmplP L 0 y.ks && decide (y.ks.length % 2 = 1)
    else if y.k = 87 then decide (1 < y.ks.length) && y.ks.all (fun j => typeK (nd L j).k)
    else match tab y.k with
      | none => false
      | some (ps, many) => (many || decide (ps.length = y.ks.length)) && eachP L ps 0 y.ks && (!(y.k == 61) || !((nd L (y.ks.getD 1 0)).k == 1) || !((nd L (y.ks.getD 2 0)).k == 1)))
/-! ### texts and numbers -/
def isName (l : List UInt8) : Bool := !l.isEmpty && !digitB (l.headD 0).toNat && !reserved l && l.all (fun c => nameB c.toNat)
def inS (l : List UInt8) (ws : List (List UInt8)) : Bool := decide (l ∈ ws)
def unaries : List (List UInt8) := [[33], [45], [126], [116, 121, 112, 101, 111, 102]]
def binaries : List (List UInt8) := [[124, 124], [38, 38], [124], [94], [38], [61, 61, 61], [33, 61, 61], [60], [60, 61], [62], [62, 61], [105, 110], [60, 60], [62, 62], [62, 62, 62], [43], [45], [42], [37]]
def assigns : List (List UInt8) := [[61], [43, 61], [45, 61], [42, 61], [37, 61]]
def consts : List (List UInt8) := [[110, 117, 108, 108], [117, 110, 100, 101, 102, 105, 110, 101, 100], [116, 114, 117, 101], [102, 97, 108, 115, 101]]
/-- The parts between dots. -/
def dots : List UInt8 → List UInt8 → List (List UInt8)
  | acc, [] => [acc]
  | acc, c :: l => if c = 46 then acc :: dots [] l else dots (acc ++ [c]) l
def dottedB (l : List UInt8) : Bool := (dots [] l).all isName
def namesK (k : Int) : Bool := k == 17 || k == 21 || k == 29 || k == 32 || k == 40 || k == 41 || k == 42 || k == 43 || k == 44 || k == 45 || k == 47 || k == 48 || k == 49 || k == 51 || k == 52 || k == 56 || k == 62 || k == 66 || k == 67 || k == 85
def textK (k : Int) (x : ByteArray) : Bool :=
  if k = 11 ∨ k = 82 then good x
  else if namesK k = true then isName x.data.toList
  else if k = 23 then inS x.data.toList unaries
  else if k = 24 then inS x.data.toList binaries
  else if k = 26 then inS x.data.toList assigns
  else if k = 80 then dottedB x.data.toList || inS x.data.toList consts
  else x.data.toList.isEmpty
def numK (k : Int) (m : Int) : Bool :=
  if k = 10 then decide (0 ≤ m) && decide (m ≤ 9007199254740991)
  else if k = 81 then decide (-9007199254740991 ≤ m) && decide (m ≤ 9007199254740991)
  else if k = 40 ∨ k = 47 ∨ k = 56 ∨ k = 85 then m == 0 || m == 1
  else if k = 44 then m == 0 || m == 4
  else if k = 66 then decide (0 ≤ m) && decide (m ≤ 7)
  else m == 0
def saidB (y : Nd) : Bool := textK y.k y.x && numK y.k y.m
/-- A node is as the table says, but for where its kids are laid out. -/
def fitsB (L : List Nd) (i : Int) : Bool := saidB (nd L i) && kidsP L (nd L i)
end
end Go.Proofs.YtpkdhciokiomlaaDoor
