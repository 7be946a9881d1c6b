/- Plain: what the scanner's Next answers. -/
import Derived.Test.YtdlppdoankeilaaDoorScan9
namespace Go.Proofs.YtdlppdoankeilaaDoor
set_option linter.unusedVariables false
set_option linter.unusedSimpArgs false
set_option linter.unnecessarySimpa false
open Go.RowKit
/-- The next token (or one of kind 0 at the byte where there is none), whether there is one, the byte behind it, the brackets open behind it. -/
def nextR (s : ByteArray) (i : Nat) (holes : List Bool) : Tok × Bool × Nat × List Bool :=
  if (skip s i).2 = false then (⟨0, ⟨#[]⟩, (skip s i).1, 0⟩, false, (skip s i).1, holes)
  else if (skip s i).1 = s.size then (⟨10, ⟨#[]⟩, s.size, s.size⟩, true, s.size, holes)
  else match tokAt s (skip s i).1 holes with
    | none => (⟨0, ⟨#[]⟩, (skip s i).1, 0⟩, false, (skip s i).1, holes)
    | some (t, h) => (t, true, t.hi, h)
/-- What the scanner has found at a byte: a token and the brackets open behind it; kind 0: none. -/
def TSpec (s : ByteArray) (i : Nat) (holes : List Bool) (tk : Tok) (holes' : List Bool) : Prop := match tokAt s i holes with
  | some (t, h) => tk = t ∧ holes' = h
  | none => tk.kind = 0 ∧ holes' = holes
theorem TSpec.yes {s : ByteArray} {i : Nat} {holes : List Bool} {tk : Tok} {h : List Bool} (e : tokAt s i holes = some (tk, h)) : TSpec s i holes tk h := by unfold TSpec; rw [e]; exact ⟨rfl, rfl⟩
theorem TSpec.no {s : ByteArray} {i : Nat} {holes : List Bool} {tk : Tok} (e : tokAt s i holes = none) (h : tk.kind = 0) : TSpec s i holes tk holes := by unfold TSpec; rw [e]; exact ⟨h, rfl⟩
theorem tk_word {s : ByteArray} {i : Nat} {holes : List Bool} (h : letterB (bt s i) = true) : TSpec s i holes (tokW s i) holes := TSpec.yes (tok_word h)
theorem tk_num {s : ByteArray} {i : Nat} {holes : List Bool} (h1 : letterB (bt s i) = false) (h2 : digitB (bt s i) = true) : TSpec s i holes (tokN s i) holes := by
  have e : tokAt s i holes = if numOk s i = true then some (⟨3, s.extract i (digEnd s i), i, digEnd s i⟩, holes) else none := by unfold tokAt; rw [if_neg (by rw [h1]; decide), if_pos h2]
  cases hk : numOk s i
  · rw [hk] at e; exact TSpec.no e (by rw [tokN_no hk]; rfl)
  · rw [hk] at e; rw [show tokN s i = ⟨3, s.extract i (digEnd s i), i, digEnd s i⟩ by unfold tokN; rw [if_pos hk]]; exact TSpec.yes e
theorem tk_quoted {s : ByteArray} {i : Nat} {holes : List Bool} (h1 : letterB (bt s i) = false) (h2 : digitB (bt s i) = false) (h3 : bt s i = 34 ∨ bt s i = 39) : TSpec s i holes (tokQ s i) holes := by
  have e : tokAt s i holes = (quotedOf s i).map fun p => (⟨4, p.1, i, p.2⟩, holes) := by unfold tokAt; rw [if_neg (by rw [h1]; decide), if_neg (by rw [h2]; decide), if_pos h3]
  cases hq : quotedOf s i with
  | none => rw [hq] at e; exact TSpec.no e (by rw [tokQ_no hq]; rfl)
  | some p =>
    rw [hq] at e
    rw [show tokQ s i = ⟨4, p.1, i, p.2⟩ by unfold tokQ; rw [hq]]
    exact TSpec.yes e
theorem at_tick {s : ByteArray} {i : Nat} {holes : List Bool} (h : bt s i = 96) : tokAt s i holes = (pieceOf s i).map fun p => (⟨if p.2.2 = true then 6 else 5, p.1, i, p.2.1⟩, if p.2.2 = true then holes ++ [true] else holes) := by
  unfold tokAt
  rw [if_neg (by rw [h]; decide), if_neg (by rw [h]; decide), if_neg (by omega), if_pos h]
theorem at_hole {s : ByteArray} {i : Nat} {holes : List Bool} (h : bt s i = 125) (hl : holes.getLast? = some true) : tokAt s i holes = (pieceOf s i).map fun p => (⟨if p.2.2 = true then 7 else 8, p.1, i, p.2.1⟩, if p.2.2 = true then holes else holes.dropLast) := by
  unfold tokAt
  rw [if_neg (by rw [h]; decide), if_neg (by rw [h]; decide), if_neg (by omega), if_neg (by omega), if_pos ⟨h, hl⟩]
theorem tk_sign {s : ByteArray} {i : Nat} {holes : List Bool} (h1 : letterB (bt s i) = false) (h2 : digitB (bt s i) = false) (h3 : ¬ (bt s i = 34 ∨ bt s i = 39)) (h4 : bt s i ≠ 96) (h5 : ¬ (bt s i = 125 ∧ holes.getLast? = some true)) : TSpec s i holes (tokS s i) (holesS s i holes) := by
  have e : tokAt s i holes = if signAt s i = 0 then none else some (⟨9, s.extract i (i + signAt s i), i, i + signAt s i⟩, if signAt s i = 1 ∧ bt s i = 123 then holes ++ [false] else if signAt s i = 1 ∧ bt s i = 125 then holes.dropLast else holes) := by
    unfold tokAt
    rw [if_neg (by rw [h1]; decide), if_neg (by rw [h2]; decide), if_neg h3, if_neg h4, if_neg h5]
  by_cases hz : signAt s i = 0
  · rw [if_pos hz] at e
    rw [show holesS s i holes = holes by unfold holesS; rw [if_neg (by omega), if_neg (by omega)], show tokS s i = tokZ by unfold tokS; rw [if_pos hz]]
    exact TSpec.no e rfl
  · rw [if_neg hz] at e
    rw [show tokS s i = ⟨9, s.extract i (i + signAt s i), i, i + signAt s i⟩ by unfold tokS; rw [if_neg hz]]
    exact TSpec.yes e
theorem tokAt_kind0 {s : ByteArray} {i : Nat} {holes hs : List Bool} {t : Tok} (h : tokAt s i holes = some (t, hs)) : t.kind ≠ 0 := by
  unfold tokAt at h
  repeat' split at h
  all_goals first
    | (injection h with h; injection h with h1 h2; subst h1; subst h2; (try dsimp only) <;> (repeat' split) <;> first | decide | (simp; done) | (simp; omega) | omega)
    | (rw [Option.map_eq_some_iff] at h; obtain ⟨p, _, h⟩ := h; injection h with h1 h2; subst h1; subst h2; (try dsimp only) <;> (repeat' split) <;> first | decide | (simp; done) | (simp; omega) | omega)
    | (cases h)
theorem Row.put4 {w : World} {g : Nat} {t : TypeId} {a b c d x y z u : Value} (h : Row w g t #[a, b, c, d]) : Row ((((w.setCell ⟨g, 0, none⟩ x).setCell ⟨g, 1, none⟩ y).setCell ⟨g, 2, none⟩ z).setCell ⟨g, 3, none⟩ u) g t #[x, y, z, u] := by
  have := (((h.put 0 x).put 1 y).put 2 z).put 3 u
  simpa using this
theorem Kept.alloc {g : Nat} {r : Option Nat} {w w' : World} (h : Kept g r w w') (o : Obj) : Kept g r w (w'.alloc o) := h.below_next ((Below.refl _ _).alloc (Nat.le_refl _) _)
theorem last_own {holes : List Bool} {m : Nat} {b : Bool} (h : holes.getLast? = some b) (hm : holes.length = m + 1) : (holes.map Value.bool)[m]? = some (.bool b) := by
  rw [List.getLast?_eq_getElem?, hm, Nat.add_sub_cancel] at h
  rw [List.getElem?_map, h]; rfl
end Go.Proofs.YtdlppdoankeilaaDoor
