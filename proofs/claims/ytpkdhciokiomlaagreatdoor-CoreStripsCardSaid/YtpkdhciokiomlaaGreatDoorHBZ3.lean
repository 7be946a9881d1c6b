/- Some texts of this claim, put together. -/
import Derived.Test.YtpkdhciokiomlaaGreatDoorHBZ2
import Derived.Test.YtpkdhciokiomlaaGreatDoorHBZ18
namespace Go.Proofs.YtpkdhciokiomlaaGreatDoor
section
set_option linter.unusedVariables false
set_option linter.unusedSimpArgs false
set_option linter.unnecessarySimpa false
open Go.RowKit
/-- A node. -/
structure Nd where
  k : Int
  x : ByteArray
  m : Int
  ks : List Int
  p : Int
def nd0 : Nd := ⟨0, ⟨#[]⟩, 0, [], 0⟩
instance : Inhabited Nd := ⟨nd0⟩
def inL (L : List Nd) (i : Int) : Bool := decide (0 ≤ i) && decide (i < (L.length : Int))
def nd (L : List Nd) (i : Int) : Nd := if 0 ≤ i then L.getD i.toNat nd0 else nd0
theorem inL_iff {L : List Nd} {i : Int} : inL L i = true ↔ 0 ≤ i ∧ i < L.length := by simp [inL]
theorem inL_nat {L : List Nd} {i : Int} (h : inL L i = true) : ∃ j : Nat, i = (j : Int) ∧ j < L.length := by
  rw [inL_iff] at h
  exact ⟨i.toNat, by omega, by omega⟩
theorem nd_out {L : List Nd} {i : Int} (h : inL L i = false) : nd L i = nd0 := by
  unfold nd
  split
  · have h2 : ¬ (0 ≤ i ∧ i < L.length) := by rw [← inL_iff, h]; simp
    rw [List.getD_eq_getElem?_getD, List.getElem?_eq_none (by omega)]; rfl
  · rfl
theorem nd_nat (L : List Nd) (j : Nat) : nd L (j : Int) = L.getD j nd0 := by simp [nd]
theorem in_of_kind {L : List Nd} {i : Int} (h : (nd L i).k ≠ 0) : inL L i = true := by
  rcases Bool.eq_false_or_eq_true (inL L i) with h1 | h1
  · exact h1
  · rw [nd_out h1] at h; exact absurd rfl h
/-! ### kinds -/
def exprK (k : Int) : Bool := decide (10 ≤ k) && decide (k ≤ 34) && !(k == 21)
def typeK (k : Int) : Bool := decide (80 ≤ k) && decide (k ≤ 87) && !(k == 85)
def stmtK (k : Int) : Bool := k == 40 || k == 41 || k == 42 || k == 47 || k == 49 || k == 51 || k == 52 || k == 53 || k == 54 || k == 55 || k == 56 || k == 57 || k == 58 || k == 59 || k == 60 || k == 61 || k == 63 || k == 64 || k == 65
def kindK (k : Int) : Bool := (decide (1 ≤ k) && decide (k ≤ 3)) || (decide (10 ≤ k) && decide (k ≤ 34)) || (decide (40 ≤ k) && decide (k ≤ 67)) || (decide (80 ≤ k) && decide (k ≤ 87))
/-! ### places, as the program has them -/
abbrev Plc := List Nd → Int → Bool
def ofP (l : List Int) : Plc := fun L i => l.contains (nd L i).k
def orP (p q : Plc) : Plc := fun L i => p L i || q L i
def rowsP (p : Plc) : Plc := fun L i => (nd L i).k == 2 && (nd L i).ks.all fun j => inL L j && p L j
def anyP : Plc := fun _ _ => true
def exprP : Plc := fun L i => exprK (nd L i).k
def typeP : Plc := fun L i => typeK (nd L i).k
def stmtP : Plc := fun L i => stmtK (nd L i).k
def plainP : Plc := fun L i => (nd L i).k == 66 && ((nd L i).m == 0 || (nd L i).m == 1)
def spotP : Plc := ofP [17, 29, 30]
/-- A Name, or Members over one, in so many steps. -/
def pathIn (L : List Nd) : Nat → Int → Bool
  | 0, _ => false
  | f + 1, i => if (nd L i).k = 29 then (match (nd L i).ks with
      | [j] => inL L j && pathIn L f j
      | _ => false) else (nd L i).k == 17
def pathP : Plc := fun L i => pathIn L L.length i
def ctorsB (L : List Nd) (ks : List Int) : Nat := (ks.filter fun j => (nd L j).k == 46).length
def memP : Plc := fun L i => rowsP (ofP [44, 45, 46]) L i && decide (ctorsB L (nd L i).ks < 2)
def expK (y : Nd) : Bool := if y.k = 40 then y.m == 1 else if y.k = 47 then !(y.m == 1) else y.k == 41 || y.k == 42 || y.k == 49 || y.k == 51 || y.k == 52
def expP : Plc := fun L i => expK (nd L i)
def letP : Plc := fun L i => (nd L i).k == 40 && (nd L i).m == 0
/-- The table: what the kids of a kind are of; true: any number of the last one. -/
def tab (k : Int) : Option (List Plc × Bool) :=
  if k = 1 ∨ k = 10 ∨ k = 11 ∨ k = 13 ∨ k = 14 ∨ k = 15 ∨ k = 16 ∨ k = 18 ∨ k = 17 ∨ k = 32 ∨ k = 58 ∨ k = 59 ∨ k = 65 ∨ k = 67 ∨ k = 81 ∨ k = 82 then some ([], false)
  else if k = 2 then some ([anyP], true)
  else if k = 3 ∨ k = 63 then some ([stmtP], true)
  else if k = 19 then some ([exprP], true)
  else if k = 20 then some ([ofP [21]], true)
  else if k = 21 ∨ k = 23 ∨ k = 29 ∨ k = 34 ∨ k = 60 ∨ k = 64 then some ([exprP], false)
  else if k = 22 then some ([rowsP (ofP [67]), rowsP plainP, orP (ofP [63]) exprP], false)
  else if k = 24 ∨ k = 30 then some ([exprP, exprP], false)
  else if k = 25 then some ([exprP, exprP, exprP], false)
  else if k = 26 then some ([spotP, exprP], false)
  else if k = 27 then some ([exprP, rowsP typeP, rowsP exprP], false)
  else if k = 28 then some ([pathP, rowsP typeP, rowsP exprP], false)
  else if k = 31 then some ([rowsP exprP], false)
  else if k = 33 then some ([exprP, typeP], false)
  else if k = 40 then some ([orP typeP (ofP [1]), exprP], false)
  else if k = 41 ∨ k = 45 then some ([rowsP (ofP [67]), rowsP plainP, orP typeP (ofP [1]), ofP [63]], false)
  else if k = 42 then some ([rowsP (ofP [67]), orP (ofP [43]) (ofP [1]), rowsP (ofP [80]), memP], false)
  else if k = 43 ∨ k = 80 then some ([rowsP typeP], false)
  else if k = 44 then some ([orP typeP (ofP [1]), orP exprP (ofP [1])], false)
  else if k = 46 then some ([rowsP (ofP [66]), ofP [63]], false)
  else if k = 47 then some ([ofP [48]], true)
  else if k = 48 ∨ k = 57 then some ([orP exprP (ofP [1])], false)
  else if k = 49 then some ([orP stmtP (ofP [50])], true)
  else if k = 50 then some ([expP], false)
  else if k = 51 then some ([rowsP (ofP [67]), rowsP (ofP [80]), ofP [84]], false)
  else if k = 52 then some ([rowsP (ofP [67]), typeP], false)
  else if k = 53 then some ([exprP, ofP [63], orP (ofP [63, 53]) (ofP [1])], false)
  else if k = 54 ∨ k = 56 then some ([exprP, ofP [63]], false)
  else if k = 55 then some ([orP letP (ofP [1]), orP exprP (ofP [1]), orP exprP (ofP [1]), ofP [63]], false)
  else if k = 61 then some ([ofP [63], orP (ofP [62]) (ofP [1]), orP (ofP [63]) (ofP [1])], false)
  else if k = 62 then some ([ofP [63]], false)
  else if k = 66 then some ([orP typeP (ofP [1])], false)
  else if k = 83 ∨ k = 85 then some ([typeP], false)
  else if k = 84 then some ([ofP [85]], true)
  else if k = 86 then some ([rowsP plainP, typeP], false)
  else none
/-- Every kid from the i-th on is of its place (the last one's, behind them). -/
def eachP (L : List Nd) (ps : List Plc) : Nat → List Int → Bool
  | _, [] => true
  | i, k :: ks => (ps.getD (min i (ps.length - 1)) anyP) L k && eachP L ps (i + 1) ks
/-- The parts of a template: a text, an expression, a text .. -/
def tmplP (L : List Nd) : Nat → List Int → Bool
  | _, [] => true
  | i, k :: ks => (if i % 2 = 0 then (nd L k).k == 11 else exprK (nd L k).k) && tmplP L (i + 1) ks
/-- The kids fit, as the program asks it. -/
def kidsP (L : List Nd) (y : Nd) : Bool :=
  y.ks.all (inL L) && (if y.k = 12 then tmplP L 0 y.ks && decide (y.ks.length % 2 = 1)
    else if y.k = 87 then decide (1 < y.ks.length) && y.ks.all (fun j => typeK (nd L j).k)
    else match tab y.k with
      | none => false
      | some (ps, many) => (many || decide (ps.length = y.ks.length)) && eachP L ps 0 y.ks && (!(y.k == 61) || !((nd L (y.ks.getD 1 0)).k == 1) || !((nd L (y.ks.getD 2 0)).k == 1)))
/-! ### texts and numbers -/
def isName (l : List UInt8) : Bool := !l.isEmpty && !digitB (l.headD 0).toNat && !reserved l && l.all (fun c => nameB c.toNat)
def inS (l : List UInt8) (ws : List (List UInt8)) : Bool := decide (l ∈ ws)
def unaries : List (List UInt8) := [[33], [45], [126], [116, 121, 112, 101, 111, 102]]
def binaries : List (List UInt8) := [[124, 124], [38, 38], [124], [94], [38], [61, 61, 61], [33, 61, 61], [60], [60, 61], [62], [62, 61], [105, 110], [60, 60], [62, 62], [62, 62, 62], [43], [45], [42], [37]]
def assigns : List (List UInt8) := [[61], [43, 61], [45, 61], [42, 61], [37, 61]]
def consts : List (List UInt8) := [[110, 117, 108, 108], [117, 110, 100, 101, 102, 105, 110, 101, 100], [116, 114, 117, 101], [102, 97, 108, 115, 101]]
/-- The parts between dots. -/
def dots : List UInt8 → List UInt8 → List (List UInt8)
  | acc, [] => [acc]
  | acc, c :: l => if c = 46 then acc :: dots [] l else dots (acc ++ [c]) l
def dottedB (l : List UInt8) : Bool := (dots [] l).all isName
def namesK (k : Int) : Bool := k == 17 || k == 21 || k == 29 || k == 32 || k == 40 || k == 41 || k == 42 || k == 43 || k == 44 || k == 45 || k == 47 || k == 48 || k == 49 || k == 51 || k == 52 || k == 56 || k == 62 || k == 66 || k == 67 || k == 85
def textK (k : Int) (x : ByteArray) : Bool :=
  if k = 11 ∨ k = 82 then good x
  else if namesK k = true then isName x.data.toList
  else if k = 23 then inS x.data.toList unaries
  else if k = 24 then inS x.data.toList binaries
  else if k = 26 then inS x.data.toList assigns
  else if k = 80 then dottedB x.data.toList || inS x.data.toList consts
  else x.data.toList.isEmpty
def numK (k : Int) (m : Int) : Bool :=
  if k = 10 then decide (0 ≤ m) && decide (m ≤ 9007199254740991)
  else if k = 81 then decide (-9007199254740991 ≤ m) && decide (m ≤ 9007199254740991)
  else if k = 40 ∨ k = 47 ∨ k = 56 ∨ k = 85 then m == 0 || m == 1
  else if k = 44 then m == 0 || m == 4
  else if k = 66 then decide (0 ≤ m) && decide (m ≤ 7)
  else m == 0
def saidB (y : Nd) : Bool := textK y.k y.x && numK y.k y.m
/-- A node is as the table says, but for where its kids are laid out. -/
def fitsB (L : List Nd) (i : Int) : Bool := saidB (nd L i) && kidsP L (nd L i)
end
section
set_option linter.unusedVariables false
set_option linter.unusedSimpArgs false
set_option linter.unnecessarySimpa false
open Go.RowKit
/-- The kids of node n from here on, laid out from next on: the node that offends (-1: none), the number behind them. -/
def lookK (g : Nat → Int × Nat) (n : Nat) : List Int → Nat → Int × Nat
  | [], next => (-1, next)
  | k :: ks, next => if k ≠ (next : Int) then ((n : Int), next) else if 0 ≤ (g next).1 then g next else lookK g n ks (g next).2
def look (L : List Nd) : Nat → Nat → Int × Nat
  | 0, n => (-1, n + 1)
  | f + 1, n => if fitsB L (n : Int) = false then ((n : Int), n + 1) else lookK (look L f) n (nd L n).ks (n + 1)
theorem fits_in {L : List Nd} {i : Int} (h : fitsB L i = true) : ∀ k ∈ (nd L i).ks, inL L k = true := by
  unfold fitsB kidsP at h
  rw [Bool.and_eq_true, Bool.and_eq_true] at h
  exact List.all_eq_true.1 h.2.1
theorem lookK_gt {g : Nat → Int × Nat} (hg : ∀ m, m < (g m).2) (n : Nat) : ∀ (ks : List Int) (next : Nat), next ≤ (lookK g n ks next).2
  | [], next => Nat.le_refl _
  | k :: ks, next => by
    unfold lookK
    split
    · exact Nat.le_refl _
    · split
      · exact Nat.le_of_lt (hg next)
      · exact Nat.le_trans (Nat.le_of_lt (hg next)) (lookK_gt hg n ks _)
theorem look_gt (L : List Nd) : ∀ f n, n < (look L f n).2
  | 0, n => Nat.lt_succ_self n
  | f + 1, n => by
    unfold look
    split
    · exact Nat.lt_succ_self n
    · exact lookK_gt (look_gt L f) n _ (n + 1)
theorem lookK_congr {g g' : Nat → Int × Nat} {N : Nat} (n : Nat) (hg : ∀ m, m < (g m).2) (h : ∀ m, n < m → m < N → g m = g' m) :
    ∀ (ks : List Int) (next : Nat), n < next → (∀ k ∈ ks, k < (N : Int)) → lookK g n ks next = lookK g' n ks next
  | [], _, _, _ => rfl
  | k :: ks, next, hn, hk => by
    unfold lookK
    by_cases hkn : k ≠ (next : Int)
    · rw [if_pos hkn, if_pos hkn]
    · have hlt : next < N := by have := hk k (by simp); omega
      rw [if_neg hkn, if_neg hkn, ← h next hn hlt]
      split
      · rfl
      · exact lookK_congr n hg h ks _ (by have := hg next; omega) (fun k' hk' => hk k' (by simp [hk']))
/-- So many steps are enough. -/
theorem look_fuel (L : List Nd) : ∀ f f' n, L.length - n ≤ f → L.length - n ≤ f' → n < L.length → look L f n = look L f' n
  | 0, _, n, h, _, hn => by omega
  | _ + 1, 0, n, _, h, hn => by omega
  | f + 1, f' + 1, n, h, h', hn => by
    unfold look
    by_cases hf : fitsB L (n : Int) = false
    · rw [if_pos hf, if_pos hf]
    · rw [if_neg hf, if_neg hf]
      have hf2 : fitsB L (n : Int) = true := by simpa using hf
      exact lookK_congr (N := L.length) n (look_gt L f) (fun m h1 h2 => look_fuel L f f' m (by omega) (by omega) h2) _ _ (Nat.lt_succ_self n) (fun k hk => (inL_iff.1 (fits_in hf2 k hk)).2)
/-- What Check answers: the node that offends, and why. -/
def chk (L : List Nd) : Int × Int :=
  if L.length = 0 then (0, 7) else if 0 ≤ (look L L.length 0).1 then ((look L L.length 0).1, 7) else if (look L L.length 0).2 < L.length then (((look L L.length 0).2 : Int), 7) else (-1, 0)
end
section
set_option linter.unusedVariables false
set_option linter.unusedSimpArgs false
set_option linter.unnecessarySimpa false
open Go.RowKit
/-- What a stack still asks: the node that offends (-1: none), the number behind all. -/
def finS (L : List Nd) : List (Nat × Nat) → Nat → Int × Nat
  | [], next => (-1, next)
  | (n, q) :: st, next => if 0 ≤ (lookK (look L L.length) n ((nd L n).ks.drop q) next).1 then lookK (look L L.length) n ((nd L n).ks.drop q) next else finS L st (lookK (look L L.length) n ((nd L n).ks.drop q) next).2
theorem finS_pop (L : List Nd) (n q : Nat) (st : List (Nat × Nat)) (next : Nat) (h : (nd L n).ks.length ≤ q) : finS L ((n, q) :: st) next = finS L st next := by
  show (if 0 ≤ (lookK (look L L.length) n ((nd L n).ks.drop q) next).1 then _ else _) = _
  rw [List.drop_of_length_le h]
  rfl
theorem drop_q {ks : List Int} {q : Nat} (h : q < ks.length) : ks.drop q = ks.getD q 0 :: ks.drop (q + 1) := by
  rw [List.drop_eq_getElem_cons h]
  congr 1
  simp [List.getD, h]
theorem finS_stray (L : List Nd) (n q : Nat) (st : List (Nat × Nat)) (next : Nat) (h : q < (nd L n).ks.length) (hk : (nd L n).ks.getD q 0 ≠ (next : Int)) : finS L ((n, q) :: st) next = ((n : Int), next) := by
  have e : lookK (look L L.length) n ((nd L n).ks.drop q) next = ((n : Int), next) := by
    rw [drop_q h]
    unfold lookK
    rw [if_pos hk]
  unfold finS
  rw [e, if_pos (by simp)]
theorem look_unfold (L : List Nd) (n : Nat) (hn : n < L.length) : look L L.length n = if fitsB L (n : Int) = false then ((n : Int), n + 1) else lookK (look L L.length) n (nd L n).ks (n + 1) := by
  obtain ⟨f, hf⟩ : ∃ f, L.length = f + 1 := ⟨L.length - 1, by omega⟩
  have h : look L (f + 1) n = if fitsB L (n : Int) = false then ((n : Int), n + 1) else lookK (look L f) n (nd L n).ks (n + 1) := rfl
  rw [← hf] at h
  rw [h]
  by_cases hb : fitsB L (n : Int) = false
  · rw [if_pos hb, if_pos hb]
  · rw [if_neg hb, if_neg hb]
    have hf2 : fitsB L (n : Int) = true := by simpa using hb
    exact lookK_congr (N := L.length) n (look_gt L f) (fun m h1 h2 => look_fuel L f L.length m (by omega) (by omega) h2) _ _ (Nat.lt_succ_self n) (fun k hk => (inL_iff.1 (fits_in hf2 k hk)).2)
theorem finS_bad (L : List Nd) (n q : Nat) (st : List (Nat × Nat)) (next : Nat) (h : q < (nd L n).ks.length) (hk : (nd L n).ks.getD q 0 = (next : Int)) (hl : next < L.length) (hf : fitsB L (next : Int) = false) : finS L ((n, q) :: st) next = ((next : Int), next + 1) := by
  have e : lookK (look L L.length) n ((nd L n).ks.drop q) next = ((next : Int), next + 1) := by
    rw [drop_q h]
    unfold lookK
    rw [if_neg (by simp only [ne_eq, Decidable.not_not]; exact hk), look_unfold L next hl, if_pos hf, if_pos (by simp)]
  unfold finS
  rw [e, if_pos (by simp)]
theorem finS_push (L : List Nd) (n q : Nat) (st : List (Nat × Nat)) (next : Nat) (h : q < (nd L n).ks.length) (hk : (nd L n).ks.getD q 0 = (next : Int)) (hl : next < L.length) (hf : fitsB L (next : Int) = true) :
    finS L ((n, q) :: st) next = finS L ((next, 0) :: (n, q + 1) :: st) (next + 1) := by
  have e2 : look L L.length next = lookK (look L L.length) next ((nd L next).ks.drop 0) (next + 1) := by
    rw [look_unfold L next hl, if_neg (by simp [hf]), List.drop_zero]
  have e : lookK (look L L.length) n ((nd L n).ks.drop q) next = if 0 ≤ (look L L.length next).1 then look L L.length next else lookK (look L L.length) n ((nd L n).ks.drop (q + 1)) (look L L.length next).2 := by
    rw [drop_q h]
    show (if (nd L n).ks.getD q 0 ≠ (next : Int) then _ else _) = _
    rw [if_neg (by simp only [ne_eq, Decidable.not_not]; exact hk)]
  show (if 0 ≤ (lookK (look L L.length) n ((nd L n).ks.drop q) next).1 then _ else _) = _
  rw [e]
  show _ = (if 0 ≤ (lookK (look L L.length) next ((nd L next).ks.drop 0) (next + 1)).1 then _ else _)
  rw [← e2]
  by_cases hb : 0 ≤ (look L L.length next).1
  · rw [if_pos hb, if_pos hb, if_pos hb]
  · rw [if_neg hb, if_neg hb]
    rfl
theorem chk_empty (L : List Nd) (h : L.length = 0) : chk L = (0, 7) := by unfold chk; rw [if_pos h]
theorem chk_root (L : List Nd) (h : L.length ≠ 0) (hf : fitsB L ((0 : Nat) : Int) = false) : chk L = (0, 7) := by
  unfold chk
  rw [if_neg h, look_unfold L 0 (by omega), if_pos hf, if_pos (by simp)]
  rfl
theorem finS_one (L : List Nd) (h : L.length ≠ 0) (hf : fitsB L ((0 : Nat) : Int) = true) : finS L [(0, 0)] 1 = look L L.length 0 ∨ (¬ 0 ≤ (look L L.length 0).1 ∧ finS L [(0, 0)] 1 = (-1, (look L L.length 0).2)) := by
  have e2 : look L L.length 0 = lookK (look L L.length) 0 ((nd L ((0 : Nat) : Int)).ks.drop 0) (0 + 1) := by
    rw [look_unfold L 0 (by omega), if_neg (by rw [hf]; decide), List.drop_zero]
  have e3 : finS L [(0, 0)] 1 = if 0 ≤ (look L L.length 0).1 then look L L.length 0 else (-1, (look L L.length 0).2) := by
    rw [e2]; rfl
  by_cases hb : 0 ≤ (look L L.length 0).1
  · left; rw [e3, if_pos hb]
  · right; exact ⟨hb, by rw [e3, if_neg hb]⟩
theorem chk_bad (L : List Nd) (h : L.length ≠ 0) (hf : fitsB L ((0 : Nat) : Int) = true) {b : Int} {e : Nat} (hs : finS L [(0, 0)] 1 = (b, e)) (hb : 0 ≤ b) : chk L = (b, 7) := by
  unfold chk
  rw [if_neg h]
  rcases finS_one L h hf with h1 | ⟨_, h1⟩
  · rw [h1] at hs; rw [hs, if_pos hb]
  · rw [h1] at hs; injection hs with h2 h3; omega
theorem chk_end (L : List Nd) (h : L.length ≠ 0) (hf : fitsB L ((0 : Nat) : Int) = true) {e : Nat} (hs : finS L [(0, 0)] 1 = (-1, e)) : chk L = if e < L.length then ((e : Int), 7) else (-1, 0) := by
  unfold chk
  rw [if_neg h]
  rcases finS_one L h hf with h1 | ⟨h0, h1⟩
  · rw [h1] at hs; rw [hs, if_neg (by simp)]
  · rw [h1] at hs; injection hs with h2 h3; rw [if_neg h0, h3]
end
end Go.Proofs.YtpkdhciokiomlaaGreatDoor
