/- Some texts of this claim, put together. -/
import Derived.Test.YtjaijlkonkgnmaaDoorHBA
namespace Go.Proofs.YtjaijlkonkgnmaaDoor
section
set_option linter.unusedVariables false
set_option linter.unusedSimpArgs false
set_option linter.unnecessarySimpa false
open Go.RowKit
/-- A node. -/
structure Nd where
  k : Int
  x : ByteArray
  m : Int
  ks : List Int
  p : Int
def nd0 : Nd := ⟨0, ⟨#[]⟩, 0, [], 0⟩
instance : Inhabited Nd := ⟨nd0⟩
def inL (L : List Nd) (i : Int) : Bool := decide (0 ≤ i) && decide (i < (L.length : Int))
def nd (L : List Nd) (i : Int) : Nd := if 0 ≤ i then L.getD i.toNat nd0 else nd0
theorem inL_iff {L : List Nd} {i : Int} : inL L i = true ↔ 0 ≤ i ∧ i < L.length := by simp [inL]
theorem inL_nat {L : List Nd} {i : Int} (h : inL L i = true) : ∃ j : Nat, i = (j : Int) ∧ j < L.length := by
  rw [inL_iff] at h
  exact ⟨i.toNat, by omega, by omega⟩
theorem nd_out {L : List Nd} {i : Int} (h : inL L i = false) : nd L i = nd0 := by
  unfold nd
  split
  · have h2 : ¬ (0 ≤ i ∧ i < L.length) := by rw [← inL_iff, h]; simp
    rw [List.getD_eq_getElem?_getD, List.getElem?_eq_none (by omega)]; rfl
  · rfl
theorem nd_nat (L : List Nd) (j : Nat) : nd L (j : Int) = L.getD j nd0 := by simp [nd]
theorem in_of_kind {L : List Nd} {i : Int} (h : (nd L i).k ≠ 0) : inL L i = true := by
  rcases Bool.eq_false_or_eq_true (inL L i) with h1 | h1
  · exact h1
  · rw [nd_out h1] at h; exact absurd rfl h
/-! ### kinds -/
def exprK (k : Int) : Bool := decide (10 ≤ k) && decide (k ≤ 34) && !(k == 21)
def typeK (k : Int) : Bool := decide (80 ≤ k) && decide (k ≤ 87) && !(k == 85)
def stmtK (k : Int) : Bool := k == 40 || k == 41 || k == 42 || k == 47 || k == 49 || k == 51 || k == 52 || k == 53 || k == 54 || k == 55 || k == 56 || k == 57 || k == 58 || k == 59 || k == 60 || k == 61 || k == 63 || k == 64 || k == 65
def kindK (k : Int) : Bool := (decide (1 ≤ k) && decide (k ≤ 3)) || (decide (10 ≤ k) && decide (k ≤ 34)) || (decide (40 ≤ k) && decide (k ≤ 67)) || (decide (80 ≤ k) && decide (k ≤ 87))
/-! ### places, as the program has them -/
abbrev Plc := List Nd → Int → Bool
def ofP (l : List Int) : Plc := fun L i => l.contains (nd L i).k
def orP (p q : Plc) : Plc := fun L i => p L i || q L i
def rowsP (p : Plc) : Plc := fun L i => (nd L i).k == 2 && (nd L i).ks.all fun j => inL L j && p L j
def anyP : Plc := fun _ _ => true
def exprP : Plc := fun L i => exprK (nd L i).k
def typeP : Plc := fun L i => typeK (nd L i).k
def stmtP : Plc := fun L i => stmtK (nd L i).k
def plainP : Plc := fun L i => (nd L i).k == 66 && ((nd L i).m == 0 || (nd L i).m == 1)
def spotP : Plc := ofP [17, 29, 30]
/-- A Name, or Members over one, in so many steps. -/
def pathIn (L : List Nd) : Nat → Int → Bool
  | 0, _ => false
  | f + 1, i => if (nd L i).k = 29 then (match (nd L i).ks with
      | [j] => inL L j && pathIn L f j
      | _ => false) else (nd L i).k == 17
def pathP : Plc := fun L i => pathIn L L.length i
def ctorsB (L : List Nd) (ks : List Int) : Nat := (ks.filter fun j => (nd L j).k == 46).length
def memP : Plc := fun L i => rowsP (ofP [44, 45, 46]) L i && decide (ctorsB L (nd L i).ks < 2)
def expK (y : Nd) : Bool := if y.k = 40 then y.m == 1 else if y.k = 47 then !(y.m == 1) else y.k == 41 || y.k == 42 || y.k == 49 || y.k == 51 || y.k == 52
def expP : Plc := fun L i => expK (nd L i)
def letP : Plc := fun L i => (nd L i).k == 40 && (nd L i).m == 0
/-- The table: what the kids of a kind are of; true: any number of the last one. -/
def tab (k : Int) : Option (List Plc × Bool) :=
  if k = 1 ∨ k = 10 ∨ k = 11 ∨ k = 13 ∨ k = 14 ∨ k = 15 ∨ k = 16 ∨ k = 18 ∨ k = 17 ∨ k = 32 ∨ k = 58 ∨ k = 59 ∨ k = 65 ∨ k = 67 ∨ k = 81 ∨ k = 82 then some ([], false)
  else if k = 2 then some ([anyP], true)
  else if k = 3 ∨ k = 63 then some ([stmtP], true)
  else if k = 19 then some ([exprP], true)
  else if k = 20 then some ([ofP [21]], true)
  else if k = 21 ∨ k = 23 ∨ k = 29 ∨ k = 34 ∨ k = 60 ∨ k = 64 then some ([exprP], false)
  else if k = 22 then some ([rowsP (ofP [67]), rowsP plainP, orP (ofP [63]) exprP], false)
  else if k = 24 ∨ k = 30 then some ([exprP, exprP], false)
  else if k = 25 then some ([exprP, exprP, exprP], false)
  else if k = 26 then some ([spotP, exprP], false)
  else if k = 27 then some ([exprP, rowsP typeP, rowsP exprP], false)
  else if k = 28 then some ([pathP, rowsP typeP, rowsP exprP], false)
  else if k = 31 then some ([rowsP exprP], false)
  else if k = 33 then some ([exprP, typeP], false)
  else if k = 40 then some ([orP typeP (ofP [1]), exprP], false)
  else if k = 41 ∨ k = 45 then some ([rowsP (ofP [67]), rowsP plainP, orP typeP (ofP [1]), ofP [63]], false)
  else if k = 42 then some ([rowsP (ofP [67]), orP (ofP [43]) (ofP [1]), rowsP (ofP [80]), memP], false)
  else if k = 43 ∨ k = 80 then some ([rowsP typeP], false)
  else if k = 44 then some ([orP typeP (ofP [1]), orP exprP (ofP [1])], false)
  else if k = 46 then some ([rowsP (ofP [66]), ofP [63]], false)
  else if k = 47 then some ([ofP [48]], true)
  else if k = 48 ∨ k = 57 then some ([orP exprP (ofP [1])], false)
  else if k = 49 then some ([orP stmtP (ofP [50])], true)
  else if k = 50 then some ([expP], false)
  else if k = 51 then some ([rowsP (ofP [67]), rowsP (ofP [80]), ofP [84]], false)
  else if k = 52 then some ([rowsP (ofP [67]), typeP], false)
  else if k = 53 then some ([exprP, ofP [63], orP (ofP [63, 53]) (ofP [1])], false)
  else if k = 54 ∨ k = 56 then some ([exprP, ofP [63]], false)
  else if k = 55 then some ([orP letP (ofP [1]), orP exprP (ofP [1]), orP exprP (ofP [1]), ofP [63]], false)
  else if k = 61 then some ([ofP [63], orP (ofP [62]) (ofP [1]), orP (ofP [63]) (ofP [1])], false)
  else if k = 62 then some ([ofP [63]], false)
  else if k = 66 then some ([orP typeP (ofP [1])], false)
  else if k = 83 ∨ k = 85 then some ([typeP], false)
  else if k = 84 then some ([ofP [85]], true)
  else if k = 86 then some ([rowsP plainP, typeP], false)
  else none
/-- Every kid from the i-th on is of its place (the last one's, behind them). -/
def eachP (L : List Nd) (ps : List Plc) : Nat → List Int → Bool
  | _, [] => true
  | i, k :: ks => (ps.getD (min i (ps.length - 1)) anyP) L k && eachP L ps (i + 1) ks
/-- The parts of a template: a text, an expression, a text .. -/
def tmplP (L : List Nd) : Nat → List Int → Bool
  | _, [] => true
  | i, k :: ks => (if i % 2 = 0 then (nd L k).k == 11 else exprK (nd L k).k) && tmplP L (i + 1) ks
/-- The kids fit, as the program asks it. -/
def kidsP (L : List Nd) (y : Nd) : Bool :=
  y.ks.all (inL L) && (if y.k = 12 then tmplP L 0 y.ks && decide (y.ks.length % 2 = 1)
    else if y.k = 87 then decide (1 < y.ks.length) && y.ks.all (fun j => typeK (nd L j).k)
    else match tab y.k with
      | none => false
      | some (ps, many) => (many || decide (ps.length = y.ks.length)) && eachP L ps 0 y.ks && (!(y.k == 61) || !((nd L (y.ks.getD 1 0)).k == 1) || !((nd L (y.ks.getD 2 0)).k == 1)))
/-! ### texts and numbers -/
def isName (l : List UInt8) : Bool := !l.isEmpty && !digitB (l.headD 0).toNat && !reserved l && l.all (fun c => nameB c.toNat)
def inS (l : List UInt8) (ws : List (List UInt8)) : Bool := decide (l ∈ ws)
def unaries : List (List UInt8) := [[33], [45], [126], [116, 121, 112, 101, 111, 102]]
def binaries : List (List UInt8) := [[124, 124], [38, 38], [124], [94], [38], [61, 61, 61], [33, 61, 61], [60], [60, 61], [62], [62, 61], [105, 110], [60, 60], [62, 62], [62, 62, 62], [43], [45], [42], [37]]
def assigns : List (List UInt8) := [[61], [43, 61], [45, 61], [42, 61], [37, 61]]
def consts : List (List UInt8) := [[110, 117, 108, 108], [117, 110, 100, 101, 102, 105, 110, 101, 100], [116, 114, 117, 101], [102, 97, 108, 115, 101]]
/-- The parts between dots. -/
def dots : List UInt8 → List UInt8 → List (List UInt8)
  | acc, [] => [acc]
  | acc, c :: l => if c = 46 then acc :: dots [] l else dots (acc ++ [c]) l
def dottedB (l : List UInt8) : Bool := (dots [] l).all isName
def namesK (k : Int) : Bool := k == 17 || k == 21 || k == 29 || k == 32 || k == 40 || k == 41 || k == 42 || k == 43 || k == 44 || k == 45 || k == 47 || k == 48 || k == 49 || k == 51 || k == 52 || k == 56 || k == 62 || k == 66 || k == 67 || k == 85
def textK (k : Int) (x : ByteArray) : Bool :=
  if k = 11 ∨ k = 82 then good x
  else if namesK k = true then isName x.data.toList
  else if k = 23 then inS x.data.toList unaries
  else if k = 24 then inS x.data.toList binaries
  else if k = 26 then inS x.data.toList assigns
  else if k = 80 then dottedB x.data.toList || inS x.data.toList consts
  else x.data.toList.isEmpty
def numK (k : Int) (m : Int) : Bool :=
  if k = 10 then decide (0 ≤ m) && decide (m ≤ 9007199254740991)
  else if k = 81 then decide (-9007199254740991 ≤ m) && decide (m ≤ 9007199254740991)
  else if k = 40 ∨ k = 47 ∨ k = 56 ∨ k = 85 then m == 0 || m == 1
  else if k = 44 then m == 0 || m == 4
  else if k = 66 then decide (0 ≤ m) && decide (m ≤ 7)
  else m == 0
def saidB (y : Nd) : Bool := textK y.k y.x && numK y.k y.m
/-- A node is as the table says, but for where its kids are laid out. -/
def fitsB (L : List Nd) (i : Int) : Bool := saidB (nd L i) && kidsP L (nd L i)
end
section
set_option linter.unusedVariables false
set_option linter.unusedSimpArgs false
set_option linter.unnecessarySimpa false
open Go.RowKit
/-- The kids of node n from here on, laid out from next on: the node that offends (-1: none), the number behind them. -/
def lookK (g : Nat → Int × Nat) (n : Nat) : List Int → Nat → Int × Nat
  | [], next => (-1, next)
  | k :: ks, next => if k ≠ (next : Int) then ((n : Int), next) else if 0 ≤ (g next).1 then g next else lookK g n ks (g next).2
def look (L : List Nd) : Nat → Nat → Int × Nat
  | 0, n => (-1, n + 1)
  | f + 1, n => if fitsB L (n : Int) = false then ((n : Int), n + 1) else lookK (look L f) n (nd L n).ks (n + 1)
theorem fits_in {L : List Nd} {i : Int} (h : fitsB L i = true) : ∀ k ∈ (nd L i).ks, inL L k = true := by
  unfold fitsB kidsP at h
  rw [Bool.and_eq_true, Bool.and_eq_true] at h
  exact List.all_eq_true.1 h.2.1
theorem lookK_gt {g : Nat → Int × Nat} (hg : ∀ m, m < (g m).2) (n : Nat) : ∀ (ks : List Int) (next : Nat), next ≤ (lookK g n ks next).2
  | [], next => Nat.le_refl _
  | k :: ks, next => by
    unfold lookK
    split
    · exact Nat.le_refl _
    · split
      · exact Nat.le_of_lt (hg next)
      · exact Nat.le_trans (Nat.le_of_lt (hg next)) (lookK_gt hg n ks _)
theorem look_gt (L : List Nd) : ∀ f n, n < (look L f n).2
  | 0, n => Nat.lt_succ_self n
  | f + 1, n => by
    unfold look
    split
    · exact Nat.lt_succ_self n
    · exact lookK_gt (look_gt L f) n _ (n + 1)
theorem lookK_congr {g g' : Nat → Int × Nat} {N : Nat} (n : Nat) (hg : ∀ m, m < (g m).2) (h : ∀ m, n < m → m < N → g m = g' m) :
    ∀ (ks : List Int) (next : Nat), n < next → (∀ k ∈ ks, k < (N : Int)) → lookK g n ks next = lookK g' n ks next
  | [], _, _, _ => rfl
  | k :: ks, next, hn, hk => by
    unfold lookK
    by_cases hkn : k ≠ (next : Int)
    · rw [if_pos hkn, if_pos hkn]
    · have hlt : next < N := by have := hk k (by simp); omega
      rw [if_neg hkn, if_neg hkn, ← h next hn hlt]
      split
      · rfl
      · exact lookK_congr n hg h ks _ (by have := hg next; omega) (fun k' hk' => hk k' (by simp [hk']))
/-- So many steps are enough. -/
theorem look_fuel (L : List Nd) : ∀ f f' n, L.length - n ≤ f → L.length - n ≤ f' → n < L.length → look L f n = look L f' n
  | 0, _, n, h, _, hn => by omega
  | _ + 1, 0, n, _, h, hn => by omega
  | f + 1, f' + 1, n, h, h', hn => by
    unfold look
    by_cases hf : fitsB L (n : Int) = false
    · rw [if_pos hf, if_pos hf]
    · rw [if_neg hf, if_neg hf]
      have hf2 : fitsB L (n : Int) = true := by simpa using hf
      exact lookK_congr (N := L.length) n (look_gt L f) (fun m h1 h2 => look_fuel L f f' m (by omega) (by omega) h2) _ _ (Nat.lt_succ_self n) (fun k hk => (inL_iff.1 (fits_in hf2 k hk)).2)
/-- What Check answers: the node that offends, and why. -/
def chk (L : List Nd) : Int × Int :=
  if L.length = 0 then (0, 7) else if 0 ≤ (look L L.length 0).1 then ((look L L.length 0).1, 7) else if (look L L.length 0).2 < L.length then (((look L L.length 0).2 : Int), 7) else (-1, 0)
end
section
set_option linter.unusedVariables false
set_option linter.unusedSimpArgs false
set_option linter.unnecessarySimpa false
open Go.RowKit
/-- What a stack still asks: the node that offends (-1: none), the number behind all. -/
def finS (L : List Nd) : List (Nat × Nat) → Nat → Int × Nat
  | [], next => (-1, next)
  | (n, q) :: st, next => if 0 ≤ (lookK (look L L.length) n ((nd L n).ks.drop q) next).1 then lookK (look L L.length) n ((nd L n).ks.drop q) next else finS L st (lookK (look L L.length) n ((nd L n).ks.drop q) next).2
theorem finS_pop (L : List Nd) (n q : Nat) (st : List (Nat × Nat)) (next : Nat) (h : (nd L n).ks.length ≤ q) : finS L ((n, q) :: st) next = finS L st next := by
  show (if 0 ≤ (lookK (look L L.length) n ((nd L n).ks.drop q) next).1 then _ else _) = _
  rw [List.drop_of_length_le h]
  rfl
theorem drop_q {ks : List Int} {q : Nat} (h : q < ks.length) : ks.drop q = ks.getD q 0 :: ks.drop (q + 1) := by
  rw [List.drop_eq_getElem_cons h]
  congr 1
  simp [List.getD, h]
theorem finS_stray (L : List Nd) (n q : Nat) (st : List (Nat × Nat)) (next : Nat) (h : q < (nd L n).ks.length) (hk : (nd L n).ks.getD q 0 ≠ (next : Int)) : finS L ((n, q) :: st) next = ((n : Int), next) := by
  have e : lookK (look L L.length) n ((nd L n).ks.drop q) next = ((n : Int), next) := by
    rw [drop_q h]
    unfold lookK
    rw [if_pos hk]
  unfold finS
  rw [e, if_pos (by simp)]
theorem look_unfold (L : List Nd) (n : Nat) (hn : n < L.length) : look L L.length n = if fitsB L (n : Int) = false then ((n : Int), n + 1) else lookK (look L L.length) n (nd L n).ks (n + 1) := by
  obtain ⟨f, hf⟩ : ∃ f, L.length = f + 1 := ⟨L.length - 1, by omega⟩
  have h : look L (f + 1) n = if fitsB L (n : Int) = false then ((n : Int), n + 1) else lookK (look L f) n (nd L n).ks (n + 1) := rfl
  rw [← hf] at h
  rw [h]
  by_cases hb : fitsB L (n : Int) = false
  · rw [if_pos hb, if_pos hb]
  · rw [if_neg hb, if_neg hb]
    have hf2 : fitsB L (n : Int) = true := by simpa using hb
    exact lookK_congr (N := L.length) n (look_gt L f) (fun m h1 h2 => look_fuel L f L.length m (by omega) (by omega) h2) _ _ (Nat.lt_succ_self n) (fun k hk => (inL_iff.1 (fits_in hf2 k hk)).2)
theorem finS_bad (L : List Nd) (n q : Nat) (st : List (Nat × Nat)) (next : Nat) (h : q < (nd L n).ks.length) (hk : (nd L n).ks.getD q 0 = (next : Int)) (hl : next < L.length) (hf : fitsB L (next : Int) = false) : finS L ((n, q) :: st) next = ((next : Int), next + 1) := by
  have e : lookK (look L L.length) n ((nd L n).ks.drop q) next = ((next : Int), next + 1) := by
    rw [drop_q h]
    unfold lookK
    rw [if_neg (by simp only [ne_eq, Decidable.not_not]; exact hk), look_unfold L next hl, if_pos hf, if_pos (by simp)]
  unfold finS
  rw [e, if_pos (by simp)]
theorem finS_push (L : List Nd) (n q : Nat) (st : List (Nat × Nat)) (next : Nat) (h : q < (nd L n).ks.length) (hk : (nd L n).ks.getD q 0 = (next : Int)) (hl : next < L.length) (hf : fitsB L (next : Int) = true) :
    finS L ((n, q) :: st) next = finS L ((next, 0) :: (n, q + 1) :: st) (next + 1) := by
  have e2 : look L L.length next = lookK (look L L.length) next ((nd L next).ks.drop 0) (next + 1) := by
    rw [look_unfold L next hl, if_neg (by simp [hf]), List.drop_zero]
  have e : lookK (look L L.length) n ((nd L n).ks.drop q) next = if 0 ≤ (look L L.length next).1 then look L L.length next else lookK (look L L.length) n ((nd L n).ks.drop (q + 1)) (look L L.length next).2 := by
    rw [drop_q h]
    show (if (nd L n).ks.getD q 0 ≠ (next : Int) then _ else _) = _
    rw [if_neg (by simp only [ne_eq, Decidable.not_not]; exact hk)]
  show (if 0 ≤ (lookK (look L L.length) n ((nd L n).ks.drop q) next).1 then _ else _) = _
  rw [e]
  show _ = (if 0 ≤ (lookK (look L L.length) next ((nd L next).ks.drop 0) (next + 1)).1 then _ else _)
  rw [← e2]
  by_cases hb : 0 ≤ (look L L.length next).1
  · rw [if_pos hb, if_pos hb, if_pos hb]
  · rw [if_neg hb, if_neg hb]
    rfl
theorem chk_empty (L : List Nd) (h : L.length = 0) : chk L = (0, 7) := by unfold chk; rw [if_pos h]
theorem chk_root (L : List Nd) (h : L.length ≠ 0) (hf : fitsB L ((0 : Nat) : Int) = false) : chk L = (0, 7) := by
  unfold chk
  rw [if_neg h, look_unfold L 0 (by omega), if_pos hf, if_pos (by simp)]
  rfl
theorem finS_one (L : List Nd) (h : L.length ≠ 0) (hf : fitsB L ((0 : Nat) : Int) = true) : finS L [(0, 0)] 1 = look L L.length 0 ∨ (¬ 0 ≤ (look L L.length 0).1 ∧ finS L [(0, 0)] 1 = (-1, (look L L.length 0).2)) := by
  have e2 : look L L.length 0 = lookK (look L L.length) 0 ((nd L ((0 : Nat) : Int)).ks.drop 0) (0 + 1) := by
    rw [look_unfold L 0 (by omega), if_neg (by rw [hf]; decide), List.drop_zero]
  have e3 : finS L [(0, 0)] 1 = if 0 ≤ (look L L.length 0).1 then look L L.length 0 else (-1, (look L L.length 0).2) := by
    rw [e2]; rfl
  by_cases hb : 0 ≤ (look L L.length 0).1
  · left; rw [e3, if_pos hb]
  · right; exact ⟨hb, by rw [e3, if_neg hb]⟩
theorem chk_bad (L : List Nd) (h : L.length ≠ 0) (hf : fitsB L ((0 : Nat) : Int) = true) {b : Int} {e : Nat} (hs : finS L [(0, 0)] 1 = (b, e)) (hb : 0 ≤ b) : chk L = (b, 7) := by
  unfold chk
  rw [if_neg h]
  rcases finS_one L h hf with h1 | ⟨_, h1⟩
  · rw [h1] at hs; rw [hs, if_pos hb]
  · rw [h1] at hs; injection hs with h2 h3; omega
theorem chk_end (L : List Nd) (h : L.length ≠ 0) (hf : fitsB L ((0 : Nat) : Int) = true) {e : Nat} (hs : finS L [(0, 0)] 1 = (-1, e)) : chk L = if e < L.length then ((e : Int), 7) else (-1, 0) := by
  unfold chk
  rw [if_neg h]
  rcases finS_one L h hf with h1 | ⟨h0, h1⟩
  · rw [h1] at hs; rw [hs, if_neg (by simp)]
  · rw [h1] at hs; injection hs with h2 h3; rw [if_neg h0, h3]
end
section
set_option linter.unusedVariables false
set_option linter.unusedSimpArgs false
set_option linter.unnecessarySimpa false
open Go.RowKit
/-- These kids and all beneath them are laid out from here to there, and none offends. -/
inductive Ch (L : List Nd) : List Int → Nat → Nat → Prop
  | nil (a : Nat) : Ch L [] a a
  | cons {ks : List Int} {a m e : Nat} : a < L.length → fitsB L (a : Int) = true → Ch L (nd L a).ks (a + 1) m → Ch L ks m e → Ch L ((a : Int) :: ks) a e
/-- A node and all beneath it. -/
def Sp (L : List Nd) (n e : Nat) : Prop := n < L.length ∧ fitsB L (n : Int) = true ∧ Ch L (nd L n).ks (n + 1) e
section
variable {L : List Nd}
theorem Ch.le {ks : List Int} {a e : Nat} (h : Ch L ks a e) : a ≤ e := by
  induction h with
  | nil a => exact Nat.le_refl _
  | cons _ _ _ _ h1 h2 => omega
theorem Ch.len {ks : List Int} {a e : Nat} (h : Ch L ks a e) : a ≤ L.length → e ≤ L.length := by
  induction h with
  | nil a => exact id
  | cons h0 _ _ _ h1 h2 => intro _; exact h2 (h1 (by omega))
theorem Ch.det {ks : List Int} {a e e' : Nat} (h : Ch L ks a e) (h' : Ch L ks a e') : e = e' := by
  induction h generalizing e' with
  | nil a => cases h'; rfl
  | cons h0 hf h1 h2 ih1 ih2 =>
    generalize hk : (_ :: _ : List Int) = l at h'
    cases h' with
    | nil => cases hk
    | cons g0 gf g1 g2 =>
      injection hk with hk1 hk2
      subst hk2
      have := ih1 g1
      subst this
      exact ih2 g2
theorem Sp.lt {n e : Nat} (h : Sp L n e) : n < e := by have := h.2.2.le; omega
theorem Sp.len {n e : Nat} (h : Sp L n e) : e ≤ L.length := h.2.2.len (by have := h.1; omega)
theorem Sp.det {n e e' : Nat} (h : Sp L n e) (h' : Sp L n e') : e = e' := h.2.2.det h'.2.2
/-- What lies within. -/
theorem Ch.sub {ks : List Int} {a e : Nat} (h : Ch L ks a e) : ∀ x, a ≤ x → x < e → ∃ ex, Sp L x ex ∧ ex ≤ e := by
  induction h with
  | nil a => intro x h1 h2; omega
  | @cons ks a m e h0 hf h1 h2 ih1 ih2 =>
    intro x hx hx2
    have l1 := h1.le
    have l2 := h2.le
    rcases Nat.lt_or_ge x m with hm | hm
    · rcases Nat.eq_or_lt_of_le hx with rfl | hx3
      · exact ⟨m, ⟨h0, hf, h1⟩, l2⟩
      · obtain ⟨ex, h3, h4⟩ := ih1 x hx3 hm
        exact ⟨ex, h3, by omega⟩
    · exact ih2 x hm hx2
theorem Ch.kid {ks : List Int} {a e : Nat} (h : Ch L ks a e) : ∀ k ∈ ks, ∃ j : Nat, k = (j : Int) ∧ a ≤ j ∧ j < e := by
  induction h with
  | nil a => intro k hk; cases hk
  | @cons ks a m e h0 hf h1 h2 ih1 ih2 =>
    intro k hk
    have l1 := h1.le
    have l2 := h2.le
    rcases List.mem_cons.1 hk with rfl | hk
    · exact ⟨a, rfl, Nat.le_refl _, by omega⟩
    · obtain ⟨j, h3, h4, h5⟩ := ih2 k hk
      exact ⟨j, h3, by omega, h5⟩
theorem Ch.under {ks : List Int} {a e x : Nat} (h : Ch L ks a e) (h1 : a ≤ x) (h2 : x < e) : ∀ k ∈ (nd L x).ks, ∃ j : Nat, k = (j : Int) ∧ x < j ∧ j < e := fun k hk => by
  obtain ⟨ex, hs, hl⟩ := h.sub x h1 h2
  obtain ⟨j, e1, e2, e3⟩ := hs.2.2.kid k hk
  exact ⟨j, e1, by omega, by omega⟩
/-- A node is the kid of one node at most. -/
theorem Ch.one {ks : List Int} {a e : Nat} (h : Ch L ks a e) : (∀ x, a ≤ x → x < e → ∀ k ∈ (nd L x).ks, k ∉ ks) ∧ (∀ x y, a ≤ x → x < e → a ≤ y → y < e → ∀ k, k ∈ (nd L x).ks → k ∈ (nd L y).ks → x = y) := by
  induction h with
  | nil a => exact ⟨fun x h1 h2 => by omega, fun x y h1 h2 => by omega⟩
  | @cons ks a m e h0 hf h1 h2 ih1 ih2 =>
    have l1 := h1.le
    have l2 := h2.le
    have hA : ∀ k ∈ (nd L a).ks, ∃ j : Nat, k = (j : Int) ∧ a + 1 ≤ j ∧ j < m := h1.kid
    have hlow : ∀ x, a ≤ x → x < m → ∀ k ∈ (nd L x).ks, ∃ j : Nat, k = (j : Int) ∧ a + 1 ≤ j ∧ j < m := fun x hx hm k hk => by
      rcases Nat.eq_or_lt_of_le hx with rfl | hx3
      · exact hA k hk
      · obtain ⟨j, e1, e2, e3⟩ := h1.under hx3 hm k hk
        exact ⟨j, e1, by omega, e3⟩
    have hhi : ∀ x, m ≤ x → x < e → ∀ k ∈ (nd L x).ks, ∃ j : Nat, k = (j : Int) ∧ m < j := fun x hx hm k hk => by
      obtain ⟨j, e1, e2, e3⟩ := h2.under hx hm k hk
      exact ⟨j, e1, by omega⟩
    refine ⟨fun x hx hx2 k hk hm => ?_, fun x y hx hx2 hy hy2 k hkx hky => ?_⟩
    · rcases Nat.lt_or_ge x m with hxm | hxm
      · obtain ⟨j, rfl, j1, j2⟩ := hlow x hx hxm k hk
        rcases List.mem_cons.1 hm with hm | hm
        · omega
        · obtain ⟨j', e1, e2, _⟩ := h2.kid _ hm
          omega
      · obtain ⟨j, rfl, j1⟩ := hhi x hxm hx2 k hk
        rcases List.mem_cons.1 hm with hm | hm
        · omega
        · exact ih2.1 x hxm hx2 _ hk hm
    · rcases Nat.lt_or_ge x m with hxm | hxm
      · rcases Nat.lt_or_ge y m with hym | hym
        · rcases Nat.eq_or_lt_of_le hx with rfl | hx3
          · rcases Nat.eq_or_lt_of_le hy with rfl | hy3
            · rfl
            · exact absurd hkx (ih1.1 y hy3 hym k hky)
          · rcases Nat.eq_or_lt_of_le hy with rfl | hy3
            · exact absurd hky (ih1.1 x hx3 hxm k hkx)
            · exact ih1.2 x y hx3 hxm hy3 hym k hkx hky
        · obtain ⟨j, rfl, j1, j2⟩ := hlow x hx hxm k hkx
          obtain ⟨j', e1, e2⟩ := hhi y hym hy2 _ hky
          omega
      · rcases Nat.lt_or_ge y m with hym | hym
        · obtain ⟨j, rfl, j1, j2⟩ := hlow y hy hym k hky
          obtain ⟨j', e1, e2⟩ := hhi x hxm hx2 _ hkx
          omega
        · exact ih2.2 x y hxm hx2 hym hy2 k hkx hky
theorem look_ch {g : Nat → Int × Nat} {n : Nat} (hg : ∀ m, n < m → m < L.length → ¬ 0 ≤ (g m).1 → Sp L m (g m).2 ∧ (g m).1 = -1) : ∀ (ks : List Int) (next : Nat), (∀ k ∈ ks, k < (L.length : Int)) → n < next → ¬ 0 ≤ (lookK g n ks next).1 → Ch L ks next (lookK g n ks next).2 ∧ (lookK g n ks next).1 = -1
  | [], next, _, _, _ => ⟨Ch.nil next, rfl⟩
  | k :: ks, next, hk, hn, h => by
    unfold lookK at h ⊢
    by_cases hkn : k ≠ (next : Int)
    · rw [if_pos hkn] at h; exact absurd (by simp) h
    · rw [if_neg hkn] at h ⊢
      have hkn2 : k = (next : Int) := by simpa using hkn
      have hl : next < L.length := by have := hk k (by simp); omega
      by_cases hb : 0 ≤ (g next).1
      · rw [if_pos hb] at h; exact absurd hb h
      · rw [if_neg hb] at h ⊢
        obtain ⟨hs, _⟩ := hg next hn hl hb
        have hlt := hs.lt
        obtain ⟨h1, h2⟩ := look_ch hg ks _ (fun k' hk' => hk k' (by simp [hk'])) (by omega) h
        subst hkn2
        exact ⟨Ch.cons hs.1 hs.2.1 hs.2.2 h1, h2⟩
theorem look_sp : ∀ f n, L.length - n ≤ f → n < L.length → ¬ 0 ≤ (look L f n).1 → Sp L n (look L f n).2 ∧ (look L f n).1 = -1
  | 0, n, hf, hn, _ => by omega
  | f + 1, n, hf, hn, h => by
    unfold look at h ⊢
    by_cases hb : fitsB L (n : Int) = false
    · rw [if_pos hb] at h; exact absurd (by simp) h
    · rw [if_neg hb] at h ⊢
      have hb2 : fitsB L (n : Int) = true := by simpa using hb
      obtain ⟨h1, h2⟩ := look_ch (g := look L f) (n := n) (fun m h1 h2 h3 => look_sp f m (by omega) h2 h3) _ _ (fun k hk => (inL_iff.1 (fits_in hb2 k hk)).2) (Nat.lt_succ_self n) h
      exact ⟨⟨hn, hb2, h1⟩, h2⟩
theorem Ch.looks {ks : List Int} {a e : Nat} (h : Ch L ks a e) : ∀ f n, L.length - a ≤ f → lookK (look L f) n ks a = (-1, e) := by
  induction h with
  | nil a => intro f n _; rfl
  | @cons ks a m e h0 hf h1 h2 ih1 ih2 =>
    intro f n hl
    have l1 := h1.le
    obtain ⟨f', rfl⟩ : ∃ f', f = f' + 1 := ⟨f - 1, by omega⟩
    have e1 : look L (f' + 1) a = (-1, m) := by
      unfold look
      rw [if_neg (by simp [hf])]
      exact ih1 f' a (by omega)
    unfold lookK
    rw [if_neg (by simp), e1, if_neg (by simp)]
    exact ih2 (f' + 1) n (by omega)
/-- Check takes a tree just if it is one span. -/
theorem good_iff : (chk L).2 = 0 ↔ Sp L 0 L.length := by
  constructor
  · intro h
    unfold chk at h
    by_cases h0 : L.length = 0
    · rw [if_pos h0] at h; cases h
    · rw [if_neg h0] at h
      by_cases h1 : 0 ≤ (look L L.length 0).1
      · rw [if_pos h1] at h; cases h
      · rw [if_neg h1] at h
        by_cases h2 : (look L L.length 0).2 < L.length
        · rw [if_pos h2] at h; cases h
        · obtain ⟨hs, _⟩ := look_sp L.length 0 (by omega) (by omega) h1
          have := hs.len
          rwa [show (look L L.length 0).2 = L.length by omega] at hs
  · intro hs
    have h0 := hs.1
    have e : look L L.length 0 = (-1, L.length) := by
      rw [look_unfold L 0 h0, if_neg (by rw [hs.2.1]; simp)]
      exact hs.2.2.looks _ 0 (by omega)
    unfold chk
    rw [if_neg (by omega), e, if_neg (by simp), if_neg (by simp)]
theorem chk_good (h : Sp L 0 L.length) : chk L = (-1, 0) := by
  have h0 := h.1
  have e : look L L.length 0 = (-1, L.length) := by
    rw [look_unfold L 0 h0, if_neg (by rw [h.2.1]; simp)]
    exact h.2.2.looks _ 0 (by omega)
  unfold chk
  rw [if_neg (by omega), e, if_neg (by simp), if_neg (by simp)]
theorem chk_or : chk L = (-1, 0) ∨ ((chk L).2 = 7 ∧ 0 ≤ (chk L).1) := by
  unfold chk
  split
  · exact .inr ⟨rfl, by simp⟩
  · split
    · rename_i h; exact .inr ⟨rfl, h⟩
    · split
      · exact .inr ⟨rfl, by simp⟩
      · exact .inl rfl
theorem good_sub (h : Sp L 0 L.length) {n : Nat} (hn : n < L.length) : ∃ e, Sp L n e := by
  rcases Nat.eq_zero_or_pos n with rfl | h1
  · exact ⟨_, h⟩
  · obtain ⟨ex, hs, _⟩ := h.2.2.sub n h1 hn
    exact ⟨ex, hs⟩
theorem good_kid (h : Sp L 0 L.length) {n : Nat} (hn : n < L.length) : ∀ k ∈ (nd L n).ks, ∃ j : Nat, k = (j : Int) ∧ n < j ∧ j < L.length := fun k hk => by
  obtain ⟨e, hs⟩ := good_sub h hn
  obtain ⟨j, e1, e2, e3⟩ := hs.2.2.kid k hk
  have := hs.len
  exact ⟨j, e1, by omega, by omega⟩
theorem good_one (h : Sp L 0 L.length) {x y : Nat} (hx : x < L.length) (hy : y < L.length) {k : Int} (h1 : k ∈ (nd L x).ks) (h2 : k ∈ (nd L y).ks) : x = y := by
  rcases Nat.eq_zero_or_pos x with rfl | hx0
  · rcases Nat.eq_zero_or_pos y with rfl | hy0
    · rfl
    · exact absurd h1 (h.2.2.one.1 y hy0 hy k h2)
  · rcases Nat.eq_zero_or_pos y with rfl | hy0
    · exact absurd h2 (h.2.2.one.1 x hx0 hx k h1)
    · exact h.2.2.one.2 x y hx0 hx hy0 hy k h1 h2
end
end
section
set_option linter.unusedVariables false
set_option linter.unusedSimpArgs false
set_option linter.unnecessarySimpa false
open Go.RowKit
def setK (d : List Int) (ks : List Int) (v : Int) : List Int := ks.foldl (fun d k => d.set k.toNat v) d
/-- How deep the nodes stand, once the kids of the first i nodes are told. -/
def deepG (L : List Nd) : Nat → List Int
  | 0 => List.replicate L.length 0
  | i + 1 => setK (deepG L i) (nd L i).ks ((deepG L i).getD i 0 + 1)
def deepL (L : List Nd) : List Int := deepG L L.length
def dp (L : List Nd) (k : Nat) : Int := (deepL L).getD k 0
theorem setK_len (d : List Int) (ks : List Int) (v : Int) : (setK d ks v).length = d.length := by
  unfold setK
  induction ks generalizing d with
  | nil => rfl
  | cons k ks ih => rw [List.foldl_cons, ih, List.length_set]
theorem setK_snoc (d : List Int) (ks : List Int) (k v : Int) : setK d (ks ++ [k]) v = (setK d ks v).set k.toNat v := by
  unfold setK; rw [List.foldl_append]; rfl
theorem setK_out (d : List Int) (ks : List Int) (v : Int) (j : Nat) (h : ∀ k ∈ ks, k.toNat ≠ j) : (setK d ks v).getD j 0 = d.getD j 0 := by
  unfold setK
  induction ks generalizing d with
  | nil => rfl
  | cons k ks ih =>
    rw [List.foldl_cons, ih _ (fun k' hk => h k' (by simp [hk]))]
    have := h k (by simp)
    simp only [List.getD_eq_getElem?_getD, List.getElem?_set]
    rw [if_neg this]
theorem setK_in (d : List Int) (ks : List Int) (v : Int) (j : Nat) (hj : j < d.length) (h : (j : Int) ∈ ks) : (setK d ks v).getD j 0 = v := by
  unfold setK
  induction ks generalizing d with
  | nil => cases h
  | cons k ks ih =>
    rw [List.foldl_cons]
    by_cases hm : (j : Int) ∈ ks
    · exact ih _ (by rw [List.length_set]; exact hj) hm
    · have hk : k = (j : Int) := by
        rcases List.mem_cons.1 h with h | h
        · exact h.symm
        · exact absurd h hm
      have := setK_out (d.set k.toNat v) ks v j
      unfold setK at this
      by_cases hall : ∀ k' ∈ ks, k'.toNat ≠ j
      · rw [this hall]
        subst hk
        simp only [List.getD_eq_getElem?_getD, List.getElem?_set, Int.toNat_natCast]
        rw [if_pos trivial, if_pos hj]; rfl
      · -- a number below nothing stands for the place 0
        have hd : ∀ (l : List Int) (d : List Int), d.getD j 0 = v → j < d.length → (l.foldl (fun d k => d.set k.toNat v) d).getD j 0 = v := by
          intro l
          induction l with
          | nil => intro d hd _; exact hd
          | cons a l ihl =>
            intro d hd hl
            rw [List.foldl_cons]
            refine ihl _ ?_ (by rw [List.length_set]; exact hl)
            simp only [List.getD_eq_getElem?_getD, List.getElem?_set]
            by_cases ha : a.toNat = j
            · rw [if_pos ha, ha, if_pos hl]; rfl
            · rw [if_neg ha]; simpa [List.getD_eq_getElem?_getD] using hd
        refine hd ks _ ?_ (by rw [List.length_set]; exact hj)
        subst hk
        simp only [List.getD_eq_getElem?_getD, List.getElem?_set, Int.toNat_natCast]
        rw [if_pos trivial, if_pos hj]; rfl
theorem deepG_len (L : List Nd) : ∀ i, (deepG L i).length = L.length
  | 0 => by simp [deepG]
  | i + 1 => by unfold deepG; rw [setK_len, deepG_len L i]
theorem deepL_len (L : List Nd) : (deepL L).length = L.length := deepG_len L _
section
variable {L : List Nd}
/-- What node i has been told stands, behind i. -/
theorem deepG_low (h : Sp L 0 L.length) : ∀ d i j, j ≤ i → i + d ≤ L.length → (deepG L (i + d)).getD j 0 = (deepG L i).getD j 0
  | 0, i, j, _, _ => rfl
  | d + 1, i, j, hj, hl => by
    have e : deepG L (i + (d + 1)) = setK (deepG L (i + d)) (nd L (i + d : Nat)).ks ((deepG L (i + d)).getD (i + d) 0 + 1) := rfl
    rw [e, setK_out _ _ _ _ (fun k hk => by
      obtain ⟨j', e1, e2, e3⟩ := good_kid h (n := i + d) (by omega) k hk
      omega)]
    exact deepG_low h d i j hj (by omega)
theorem deepG_kid (h : Sp L 0 L.length) {n : Nat} (hn : n < L.length) {j : Nat} (hk : (j : Int) ∈ (nd L n).ks) : ∀ d, n + 1 + d ≤ L.length → (deepG L (n + 1 + d)).getD j 0 = (deepG L n).getD n 0 + 1
  | 0, _ => by
    obtain ⟨j', e1, e2, e3⟩ := good_kid h hn _ hk
    have : j' = j := by omega
    subst this
    exact setK_in _ _ _ _ (by rw [deepG_len]; exact e3) hk
  | d + 1, hl => by
    have e : deepG L (n + 1 + (d + 1)) = setK (deepG L (n + 1 + d)) (nd L (n + 1 + d : Nat)).ks ((deepG L (n + 1 + d)).getD (n + 1 + d) 0 + 1) := rfl
    rw [e, setK_out _ _ _ _ (fun k hk2 => by
      obtain ⟨j', e1, e2, e3⟩ := good_kid h (n := n + 1 + d) (by omega) k hk2
      intro e4
      have : k = (j : Int) := by omega
      subst this
      have := good_one h hn (y := n + 1 + d) (by omega) hk hk2
      omega)]
    exact deepG_kid h hn hk d (by omega)
theorem dp_at (h : Sp L 0 L.length) {n : Nat} (hn : n ≤ L.length) : dp L n = (deepG L n).getD n 0 := by
  have := deepG_low h (L.length - n) n n (Nat.le_refl _) (by omega)
  rwa [show n + (L.length - n) = L.length by omega] at this
theorem dp_kid (h : Sp L 0 L.length) {n : Nat} (hn : n < L.length) {j : Nat} (hk : (j : Int) ∈ (nd L n).ks) : dp L j = dp L n + 1 := by
  have := deepG_kid h hn hk (L.length - n - 1) (by omega)
  rw [show n + 1 + (L.length - n - 1) = L.length by omega] at this
  rw [dp_at h (by omega : n ≤ L.length)]
  exact this
theorem dp_zero (h : Sp L 0 L.length) : dp L 0 = 0 := by
  rw [dp_at h (by omega)]
  have := h.1
  simp only [deepG, List.getD_eq_getElem?_getD, List.getElem?_replicate]
  split <;> rfl
/-- Beneath kids that stand at d, all stands at d or deeper. -/
theorem Ch.deep (h : Sp L 0 L.length) {ks : List Int} {a e : Nat} (hc : Ch L ks a e) {d : Int} : (∀ j : Nat, (j : Int) ∈ ks → dp L j = d) → ∀ x, a ≤ x → x < e → d ≤ dp L x := by
  induction hc generalizing d with
  | nil a => intro _ x h1 h2; omega
  | @cons ks a m e h0 hf h1 h2 ih1 ih2 =>
    intro hd x hx hx2
    have ha := hd a (by simp)
    rcases Nat.lt_or_ge x m with hm | hm
    · rcases Nat.eq_or_lt_of_le hx with rfl | hx3
      · omega
      · have := ih1 (d := d + 1) (fun j hj => by rw [dp_kid h h0 hj, ha]) x hx3 hm
        omega
    · exact ih2 (fun j hj => hd j (by simp [hj])) x hm hx2
theorem sp_deep (h : Sp L 0 L.length) {n e : Nat} (hs : Sp L n e) {x : Nat} (h1 : n < x) (h2 : x < e) : dp L n < dp L x := by
  have := hs.2.2.deep h (d := dp L n + 1) (fun j hj => dp_kid h hs.1 hj) x h1 h2
  omega
theorem Ch.head {ks : List Int} {a e : Nat} (hc : Ch L ks a e) (h : a < e) : (a : Int) ∈ ks := by
  cases hc with
  | nil => omega
  | cons _ _ _ _ => simp
/-- What stands behind all beneath a node is not deeper than it. -/
theorem Ch.next (h : Sp L 0 L.length) {ks : List Int} {a e : Nat} (hc : Ch L ks a e) {d : Int} : (∀ j : Nat, (j : Int) ∈ ks → dp L j = d) → ∀ x ex, a ≤ x → x < e → Sp L x ex → ex < e → dp L ex ≤ dp L x := by
  induction hc generalizing d with
  | nil a => intro _ x ex h1 h2; omega
  | @cons ks a m e h0 hf h1 h2 ih1 ih2 =>
    intro hd x ex hx hx2 hs he
    have ha := hd a (by simp)
    have hd1 : ∀ j : Nat, (j : Int) ∈ (nd L a).ks → dp L j = d + 1 := fun j hj => by rw [dp_kid h h0 hj, ha]
    rcases Nat.lt_or_ge x m with hm | hm
    · rcases Nat.eq_or_lt_of_le hx with rfl | hx3
      · have : ex = m := hs.det ⟨h0, hf, h1⟩
        subst this
        have := hd ex (by simp [h2.head he])
        omega
      · obtain ⟨ex', hs', hl'⟩ := h1.sub x hx3 hm
        have : ex = ex' := hs.det hs'
        subst this
        rcases Nat.eq_or_lt_of_le hl' with rfl | hl2
        · have h3 := hd ex (by simp [h2.head he])
          have h4 := h1.deep h hd1 x hx3 hm
          omega
        · exact ih1 hd1 x ex hx3 hm hs hl2
    · exact ih2 (fun j hj => hd j (by simp [hj])) x ex hm hx2 hs he
theorem sp_next (h : Sp L 0 L.length) {x ex : Nat} (hs : Sp L x ex) (he : ex < L.length) : dp L ex ≤ dp L x := by
  rcases Nat.eq_zero_or_pos x with rfl | h0
  · have := hs.det h; omega
  · exact h.2.2.next h (d := 1) (fun j hj => by rw [dp_kid h h.1 hj, dp_zero h]; rfl) x ex h0 hs.1 hs he
theorem dp_pos (h : Sp L 0 L.length) {x : Nat} (hx : x < L.length) : 0 ≤ dp L x := by
  rcases Nat.eq_zero_or_pos x with rfl | h0
  · rw [dp_zero h]; exact Int.le_refl _
  · have := sp_deep h h h0 hx
    rw [dp_zero h] at this
    omega
theorem dp_le (h : Sp L 0 L.length) : ∀ n x : Nat, x ≤ n → x < L.length → dp L x ≤ x := by
  intro n
  induction n with
  | zero => intro x hx hl; obtain rfl : x = 0 := by omega
            rw [dp_zero h]; exact Int.le_refl _
  | succ n ih =>
    intro x hx hl
    rcases Nat.lt_or_ge n x with hnx | hnx
    · -- x has a parent
      have : ∃ y, y < x ∧ (x : Int) ∈ (nd L y).ks := by
        have hpar : ∀ {ks : List Int} {a e : Nat}, Ch L ks a e → ∀ x, a ≤ x → x < e → (x : Int) ∈ ks ∨ ∃ y, a ≤ y ∧ y < x ∧ (x : Int) ∈ (nd L y).ks := by
          intro ks a e hc
          induction hc with
          | nil a => intro x h1 h2; omega
          | @cons ks a m e h0 hf h1 h2 ih1 ih2 =>
            intro x hx hx2
            rcases Nat.lt_or_ge x m with hm | hm
            · rcases Nat.eq_or_lt_of_le hx with rfl | hx3
              · exact .inl (by simp)
              · rcases ih1 x hx3 hm with h5 | ⟨y, y1, y2, y3⟩
                · exact .inr ⟨a, Nat.le_refl _, hx3, h5⟩
                · exact .inr ⟨y, by omega, y2, y3⟩
            · rcases ih2 x hm hx2 with h5 | ⟨y, y1, y2, y3⟩
              · exact .inl (by simp [h5])
              · have := h1.le
                exact .inr ⟨y, by omega, y2, y3⟩
        rcases hpar h.2.2 x (by omega) hl with h5 | ⟨y, y1, y2, y3⟩
        · exact ⟨0, by omega, h5⟩
        · exact ⟨y, y2, y3⟩
      obtain ⟨y, y1, y2⟩ := this
      have := ih y (by omega) (by omega)
      rw [dp_kid h (by omega : y < L.length) y2]
      omega
    · exact ih x hnx hl
end
end
section
set_option linter.unusedVariables false
set_option linter.unusedSimpArgs false
set_option linter.unnecessarySimpa false
open Go.RowKit
def isW (w : Int) (y : Nd) : Bool :=
  if w = 1000 then exprK y.k else if w = 1001 then typeK y.k else if w = 1002 then stmtK y.k
  else if w = 1003 then y.k == 66 && (y.m == 0 || y.m == 1) else if w = 1004 then y.k == 66
  else if w = 1005 then y.k == 44 || y.k == 45 || y.k == 46 else y.k == w
def spot1 (w : Int) (y : Nd) : Bool := (decide (w < 0) && (y.k == 1 || isW (-w) y)) || (decide (0 < w) && isW w y)
def rowG (L : List Nd) : List Int → List Int → Bool
  | k :: ks, w :: l => spot1 w (nd L k) && rowG L ks l
  | _, _ => true
def rowB (L : List Nd) (ks l : List Int) : Bool := decide (ks.length = l.length) && rowG L ks l
def eachB (L : List Nd) (ks : List Int) (a b : Int) : Bool := ks.all fun k => isW a (nd L k) || isW b (nd L k)
def kidB (L : List Nd) (y : Nd) (i : Nat) : Nd := if i < y.ks.length then nd L (y.ks.getD i 0) else nd0
def listB (L : List Nd) (y : Nd) (i : Nat) (w : Int) : Bool := (kidB L y i).k == 2 && (kidB L y i).ks.all fun j => inL L j && isW w (nd L j)
def namedIn (L : List Nd) : Nat → Int → Bool
  | 0, _ => false
  | f + 1, i => inL L i && (if (nd L i).k = 17 then true else if (nd L i).k = 29 then (match (nd L i).ks with
      | [j] => namedIn L f j
      | _ => false) else false)
def namedB (L : List Nd) (i : Int) : Bool := namedIn L (L.length + 1) i
def functionB (L : List Nd) (y : Nd) : Bool := rowB L y.ks [2, 2, -1001, 63] && listB L y 0 67 && listB L y 1 1003
def tmplB (L : List Nd) (y : Nd) : Bool := tmplP L 0 y.ks && decide (y.ks.length % 2 = 1)
def exprsB (L : List Nd) (y : Nd) : Bool :=
  if y.k = 12 then tmplB L y
  else if y.k = 19 then eachB L y.ks 1000 1000
  else if y.k = 20 then eachB L y.ks 21 21
  else if y.k = 21 ∨ y.k = 23 ∨ y.k = 29 ∨ y.k = 34 then rowB L y.ks [1000]
  else if y.k = 22 then decide (y.ks.length = 3) && listB L y 0 67 && listB L y 1 1003 && ((kidB L y 2).k == 63 || exprK (kidB L y 2).k)
  else if y.k = 24 ∨ y.k = 30 then rowB L y.ks [1000, 1000]
  else if y.k = 25 then rowB L y.ks [1000, 1000, 1000]
  else if y.k = 26 then rowB L y.ks [1000, 1000] && ((kidB L y 0).k == 17 || (kidB L y 0).k == 29 || (kidB L y 0).k == 30)
  else if y.k = 27 then rowB L y.ks [1000, 2, 2] && listB L y 1 1001 && listB L y 2 1000
  else if y.k = 28 then rowB L y.ks [1000, 2, 2] && namedB L (y.ks.getD 0 0) && listB L y 1 1001 && listB L y 2 1000
  else if y.k = 31 then decide (y.ks.length = 1) && listB L y 0 1000
  else if y.k = 33 then rowB L y.ks [1000, 1001]
  else decide (y.ks.length = 0)
def typesB (L : List Nd) (y : Nd) : Bool :=
  if y.k = 80 then decide (y.ks.length = 1) && listB L y 0 1001
  else if y.k = 83 ∨ y.k = 85 then rowB L y.ks [1001]
  else if y.k = 84 then eachB L y.ks 85 85
  else if y.k = 86 then rowB L y.ks [2, 1001] && listB L y 0 1003
  else if y.k = 87 then decide (2 ≤ y.ks.length) && eachB L y.ks 1001 1001
  else decide (y.ks.length = 0)
def declsB (L : List Nd) (y : Nd) : Bool :=
  if y.k = 40 then rowB L y.ks [-1001, 1000]
  else if y.k = 41 ∨ y.k = 45 then functionB L y
  else if y.k = 42 then rowB L y.ks [2, -43, 2, 2] && listB L y 0 67 && listB L y 2 80 && listB L y 3 1005 && decide (ctorsB L (kidB L y 3).ks ≤ 1)
  else if y.k = 43 then decide (y.ks.length = 1) && listB L y 0 1001
  else if y.k = 44 then rowB L y.ks [-1001, -1000]
  else if y.k = 46 then rowB L y.ks [2, 63] && listB L y 0 1004
  else if y.k = 47 then eachB L y.ks 48 48
  else if y.k = 48 then rowB L y.ks [-1000]
  else if y.k = 49 then eachB L y.ks 1002 50
  else if y.k = 50 then decide (y.ks.length = 1) && expK (kidB L y 0)
  else if y.k = 51 then rowB L y.ks [2, 2, 84] && listB L y 0 67 && listB L y 1 80
  else if y.k = 52 then rowB L y.ks [2, 1001] && listB L y 0 67
  else if y.k = 66 then rowB L y.ks [-1001]
  else decide (y.ks.length = 0)
def stmtsB (L : List Nd) (y : Nd) : Bool :=
  if y.k = 3 ∨ y.k = 63 then eachB L y.ks 1002 1002
  else if y.k = 53 then decide (y.ks.length = 3) && exprK (kidB L y 0).k && (kidB L y 1).k == 63 && ((kidB L y 2).k == 63 || (kidB L y 2).k == 53 || (kidB L y 2).k == 1)
  else if y.k = 54 then rowB L y.ks [1000, 63]
  else if y.k = 55 then rowB L y.ks [-40, -1000, -1000, 63] && ((kidB L y 0).k == 1 || (kidB L y 0).m == 0)
  else if y.k = 56 then rowB L y.ks [1000, 63]
  else if y.k = 57 then rowB L y.ks [-1000]
  else if y.k = 60 ∨ y.k = 64 then rowB L y.ks [1000]
  else if y.k = 61 then rowB L y.ks [63, -62, -63] && ((kidB L y 1).k == 62 || (kidB L y 2).k == 63)
  else if y.k = 62 then rowB L y.ks [63]
  else decide (y.ks.length = 0)
def kidsB (L : List Nd) (y : Nd) : Bool :=
  if y.k = 2 then y.ks.all (inL L)
  else if 80 ≤ y.k then typesB L y
  else if 10 ≤ y.k ∧ y.k ≤ 34 then exprsB L y
  else if (40 ≤ y.k ∧ y.k ≤ 52) ∨ y.k = 66 ∨ y.k = 67 then declsB L y
  else stmtsB L y
/-! ### so many steps are enough -/
theorem pigeon : ∀ (n m : Nat) (f : Nat → Nat), (∀ i, i < m → f i < n) → (∀ i j, i < m → j < m → f i = f j → i = j) → m ≤ n
  | 0, m, f, hf, _ => by
    rcases Nat.eq_zero_or_pos m with h | h
    · omega
    · exact absurd (hf 0 h) (by omega)
  | n + 1, m, f, hf, hi => by
    by_cases hx : ∃ i, i < m ∧ f i = n
    · obtain ⟨i, him, hin⟩ := hx
      have := pigeon n (m - 1) (fun j => if j < i then f j else f (j + 1)) (fun j hj => by
        show (if j < i then f j else f (j + 1)) < n
        split
        · have h1 := hf j (by omega)
          have h2 : f j ≠ n := fun e => by have := hi j i (by omega) him (e.trans hin.symm); omega
          omega
        · have h1 := hf (j + 1) (by omega)
          have h2 : f (j + 1) ≠ n := fun e => by have := hi (j + 1) i (by omega) him (e.trans hin.symm); omega
          omega) (fun a b ha hb e => by
        replace e : (if a < i then f a else f (a + 1)) = (if b < i then f b else f (b + 1)) := e
        split at e <;> split at e
        · exact hi a b (by omega) (by omega) e
        · have := hi a (b + 1) (by omega) (by omega) e; omega
        · have := hi (a + 1) b (by omega) (by omega) e; omega
        · have := hi (a + 1) (b + 1) (by omega) (by omega) e; omega)
      omega
    · have := pigeon n m f (fun i hi' => by
        have h1 := hf i hi'
        have h2 : f i ≠ n := fun e => hx ⟨i, hi', e⟩
        omega) hi
      omega
/-- A Name, just so many Members further. -/
def reach (L : List Nd) : Nat → Int → Prop
  | 0, i => inL L i = true ∧ (nd L i).k = 17
  | d + 1, i => inL L i = true ∧ (nd L i).k = 29 ∧ ∃ j, (nd L i).ks = [j] ∧ reach L d j
theorem reach_in {L : List Nd} {d : Nat} {i : Int} (h : reach L d i) : inL L i = true := by cases d <;> exact h.1
theorem reach_one {L : List Nd} : ∀ {d e : Nat} {i : Int}, reach L d i → reach L e i → d = e
  | 0, 0, _, _, _ => rfl
  | 0, e + 1, _, h, g => by have := h.2.symm.trans g.2.1; omega
  | d + 1, 0, _, h, g => by have := g.2.symm.trans h.2.1; omega
  | d + 1, e + 1, i, ⟨_, _, j, h1, h2⟩, ⟨_, _, j', g1, g2⟩ => by
    rw [h1] at g1
    injection g1 with g1
    subst g1
    rw [reach_one h2 g2]
theorem reach_down {L : List Nd} : ∀ {d : Nat} {i : Int}, reach L d i → ∀ e, e ≤ d → ∃ j, reach L e j
  | 0, i, h, e, he => by
    obtain rfl : e = 0 := by omega
    exact ⟨i, h⟩
  | d + 1, i, h, e, he => by
    rcases Nat.lt_or_ge d e with h1 | h1
    · obtain rfl : e = d + 1 := by omega
      exact ⟨i, h⟩
    · obtain ⟨_, _, j, _, h2⟩ := h
      exact reach_down h2 e h1
theorem reach_le {L : List Nd} {d : Nat} {i : Int} (h : reach L d i) : d < L.length := by
  have hd := reach_down h
  have key : ∀ e, ∃ j : Nat, e ≤ d → j < L.length ∧ reach L e (j : Int) := fun e => by
    by_cases he : e ≤ d
    · obtain ⟨j, hj⟩ := hd e he
      obtain ⟨k, rfl, hk⟩ := inL_nat (reach_in hj)
      exact ⟨k, fun _ => ⟨hk, hj⟩⟩
    · exact ⟨0, fun h => absurd h he⟩
  obtain ⟨f, hf⟩ := Classical.axiomOfChoice key
  have := pigeon L.length (d + 1) f (fun e he => (hf e (by omega)).1) (fun a b ha hb e => by
    have h1 := (hf a (by omega)).2
    have h2 := (hf b (by omega)).2
    rw [e] at h1
    exact reach_one h1 h2)
  omega
theorem named_iff {L : List Nd} : ∀ {f : Nat} {i : Int}, namedIn L f i = true ↔ ∃ d, d < f ∧ reach L d i
  | 0, i => by simp [namedIn]
  | f + 1, i => by
    constructor
    · intro h
      unfold namedIn at h
      rw [Bool.and_eq_true] at h
      obtain ⟨h0, h⟩ := h
      split at h
      · exact ⟨0, by omega, h0, by assumption⟩
      · split at h
        · split at h
          · rename_i j hj
            obtain ⟨d, hd, hr⟩ := named_iff.1 h
            exact ⟨d + 1, by omega, h0, by assumption, j, hj, hr⟩
          · cases h
        · cases h
    · rintro ⟨d, hd, hr⟩
      unfold namedIn
      rw [reach_in hr, Bool.true_and]
      match d, hr with
      | 0, hr => rw [if_pos hr.2]
      | d + 1, ⟨_, h1, j, h2, h3⟩ =>
        rw [if_neg (by omega), if_pos h1, h2]
        exact named_iff.2 ⟨d, by omega, h3⟩
theorem path_iff {L : List Nd} : ∀ {f : Nat} {i : Int}, inL L i = true → (pathIn L f i = true ↔ ∃ d, d < f ∧ reach L d i)
  | 0, i, _ => by simp [pathIn]
  | f + 1, i, hi => by
    constructor
    · intro h
      unfold pathIn at h
      split at h
      · split at h
        · rename_i j hj
          rw [Bool.and_eq_true] at h
          obtain ⟨d, hd, hr⟩ := (path_iff h.1).1 h.2
          exact ⟨d + 1, by omega, hi, by assumption, j, hj, hr⟩
        · cases h
      · exact ⟨0, by omega, hi, by simpa using h⟩
    · rintro ⟨d, hd, hr⟩
      unfold pathIn
      match d, hr with
      | 0, hr => rw [if_neg (by have := hr.2; omega), hr.2]; rfl
      | d + 1, ⟨_, h1, j, h2, h3⟩ =>
        rw [if_pos h1, h2]
        show (inL L j && pathIn L f j) = true
        rw [reach_in h3, Bool.true_and]
        exact (path_iff (reach_in h3)).2 ⟨d, by omega, h3⟩
theorem named_path (L : List Nd) (i : Int) (hi : inL L i = true) : namedB L i = pathP L i := by
  rw [Bool.eq_iff_iff]
  unfold namedB pathP
  rw [named_iff, path_iff hi]
  exact ⟨fun ⟨d, _, h⟩ => ⟨d, reach_le h, h⟩, fun ⟨d, h1, h⟩ => ⟨d, by omega, h⟩⟩
end
end Go.Proofs.YtjaijlkonkgnmaaDoor
