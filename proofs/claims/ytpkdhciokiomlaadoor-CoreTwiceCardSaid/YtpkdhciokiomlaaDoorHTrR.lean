/- Plain: what stands in a kid's place, as the reference asks it; it is what the program asks. No program in sight. -/
import Derived.Test.YtpkdhciokiomlaaDoorHBZ3
namespace Go.Proofs.YtpkdhciokiomlaaDoor
set_option linter.unusedVariables false
set_option linter.unusedSimpArgs false
set_option linter.unnecessarySimpa false
open Go.RowKit
def isW (w : Int) (y : Nd) : Bool :=
  if w = 1000 then exprK y.k else if w = 1001 then typeK y.k else if w = 1002 then stmtK y.k
  else if w = 1003 then y.k == 66 && (y.m == 0 || y.m == 1) else if w = 1004 then y.k == 66
  else if w = 1005 then y.k == 44 || y.k == 45 || y.k == 46 else y.k == w
def spot1 (w : Int) (y : Nd) : Bool := (decide (w < 0) && (y.k == 1 || isW (-w) y)) || (decide (0 < w) && isW w y)
def rowG (L : List Nd) : List Int → List Int → Bool
  | k :: ks, w :: l => spot1 w (nd L k) && rowG L ks l
  | _, _ => true
def rowB (L : List Nd) (ks l : List Int) : Bool := decide (ks.length = l.length) && rowG L ks l
def eachB (L : List Nd) (ks : List Int) (a b : Int) : Bool := ks.all fun k => isW a (nd L k) || isW b (nd L k)
def kidB (L : List Nd) (y : Nd) (i : Nat) : Nd := if i < y.ks.length then nd L (y.ks.getD i 0) else nd0
def listB (L : List Nd) (y : Nd) (i : Nat) (w : Int) : Bool := (kidB L y i).k == 2 && (kidB L y i).ks.all fun j => inL L j && isW w (nd L j)
def namedIn (L : List Nd) : Nat → Int → Bool
  | 0, _ => false
  | f + 1, i => inL L i && (if (nd L i).k = 17 then true else if (nd L i).k = 29 then (match (nd L i).ks with
      | [j] => namedIn L f j
      | _ => false) else false)
def namedB (L : List Nd) (i : Int) : Bool := namedIn L (L.length + 1) i
def functionB (L : List Nd) (y : Nd) : Bool := rowB L y.ks [2, 2, -1001, 63] && listB L y 0 67 && listB L y 1 1003
def tmplB (L : List Nd) (y : Nd) : Bool := tmplP L 0 y.ks && decide (y.ks.length % 2 = 1)
def exprsB (L : List Nd) (y : Nd) : Bool :=
  if y.k = 12 then tmplB L y
  else if y.k = 19 then eachB L y.ks 1000 1000
  else if y.k = 20 then eachB L y.ks 21 21
  else if y.k = 21 ∨ y.k = 23 ∨ y.k = 29 ∨ y.k = 34 then rowB L y.ks [1000]
  else if y.k = 22 then decide (y.ks.length = 3) && listB L y 0 67 && listB L y 1 1003 && ((kidB L y 2).k == 63 || exprK (kidB L y 2).k)
  else if y.k = 24 ∨ y.k = 30 then rowB L y.ks [1000, 1000]
  else if y.k = 25 then rowB L y.ks [1000, 1000, 1000]
  else if y.k = 26 then rowB L y.ks [1000, 1000] && ((kidB L y 0).k == 17 || (kidB L y 0).k == 29 || (kidB L y 0).k == 30)
  else if y.k = 27 then rowB L y.ks [1000, 2, 2] && listB L y 1 1001 && listB L y 2 1000
  else if y.k = 28 then rowB L y.ks [1000, 2, 2] && namedB L (y.ks.getD 0 0) && listB L y 1 1001 && listB L y 2 1000
  else if y.k = 31 then decide (y.ks.length = 1) && listB L y 0 1000
  else if y.k = 33 then rowB L y.ks [1000, 1001]
  else decide (y.ks.length = 0)
def typesB (L : List Nd) (y : Nd) : Bool :=
  if y.k = 80 then decide (y.ks.length = 1) && listB L y 0 1001
  else if y.k = 83 ∨ y.k = 85 then rowB L y.ks [1001]
  else if y.k = 84 then eachB L y.ks 85 85
  else if y.k = 86 then rowB L y.ks [2, 1001] && listB L y 0 1003
  else if y.k = 87 then decide (2 ≤ y.ks.length) && eachB L y.ks 1001 1001
  else decide (y.ks.length = 0)
def declsB (L : List Nd) (y : Nd) : Bool :=
  if y.k = 40 then rowB L y.ks [-1001, 1000]
  else if y.k = 41 ∨ y.k = 45 then functionB L y
  else if y.k = 42 then rowB L y.ks [2, -43, 2, 2] && listB L y 0 67 && listB L y 2 80 && listB L y 3 1005 && decide (ctorsB L (kidB L y 3).ks ≤ 1)
  else if y.k = 43 then decide (y.ks.length = 1) && listB L y 0 1001
  else if y.k = 44 then rowB L y.ks [-1001, -1000]
  else if y.k = 46 then rowB L y.ks [2, 63] && listB L y 0 1004
  else if y.k = 47 then eachB L y.ks 48 48
  else if y.k = 48 then rowB L y.ks [-1000]
  else if y.k = 49 then eachB L y.ks 1002 50
  else if y.k = 50 then decide (y.ks.length = 1) && expK (kidB L y 0)
  else if y.k = 51 then rowB L y.ks [2, 2, 84] && listB L y 0 67 && listB L y 1 80
  else if y.k = 52 then rowB L y.ks [2, 1001] && listB L y 0 67
  else if y.k = 66 then rowB L y.ks [-1001]
  else decide (y.ks.length = 0)
def stmtsB (L : List Nd) (y : Nd) : Bool :=
  if y.k = 3 ∨ y.k = 63 then eachB L y.ks 1002 1002
  else if y.k = 53 then decide (y.ks.length = 3) && exprK (kidB L y 0).k && (kidB L y 1).k == 63 && ((kidB L y 2).k == 63 || (kidB L y 2).k == 53 || (kidB L y 2).k == 1)
  else if y.k = 54 then rowB L y.ks [1000, 63]
  else if y.k = 55 then rowB L y.ks [-40, -1000, -1000, 63] && ((kidB L y 0).k == 1 || (kidB L y 0).m == 0)
  else if y.k = 56 then rowB L y.ks [1000, 63]
  else if y.k = 57 then rowB L y.ks [-1000]
  else if y.k = 60 ∨ y.k = 64 then rowB L y.ks [1000]
  else if y.k = 61 then rowB L y.ks [63, -62, -63] && ((kidB L y 1).k == 62 || (kidB L y 2).k == 63)
  else if y.k = 62 then rowB L y.ks [63]
  else decide (y.ks.length = 0)
def kidsB (L : List Nd) (y : Nd) : Bool :=
  if y.k = 2 then y.ks.all (inL L)
  else if 80 ≤ y.k then typesB L y
  else if 10 ≤ y.k ∧ y.k ≤ 34 then exprsB L y
  else if (40 ≤ y.k ∧ y.k ≤ 52) ∨ y.k = 66 ∨ y.k = 67 then declsB L y
  else stmtsB L y
/-! ### so many steps are enough -/
theorem pigeon : ∀ (n m : Nat) (f : Nat → Nat), (∀ i, i < m → f i < n) → (∀ i j, i < m → j < m → f i = f j → i = j) → m ≤ n
  | 0, m, f, hf, _ => by
    rcases Nat.eq_zero_or_pos m with h | h
    · omega
    · exact absurd (hf 0 h) (by omega)
  | n + 1, m, f, hf, hi => by
    by_cases hx : ∃ i, i < m ∧ f i = n
    · obtain ⟨i, him, hin⟩ := hx
      have := pigeon n (m - 1) (fun j => if j < i then f j else f (j + 1)) (fun j hj => by
        show (if j < i then f j else f (j + 1)) < n
        split
        · have h1 := hf j (by omega)
          have h2 : f j ≠ n := fun e => by have := hi j i (by omega) him (e.trans hin.symm); omega
          omega
        · have h1 := hf (j + 1) (by omega)
          have h2 : f (j + 1) ≠ n := fun e => by have := hi (j + 1) i (by omega) him (e.trans hin.symm); omega
          omega) (fun a b ha hb e => by
        replace e : (if a < i then f a else f (a + 1)) = (if b < i then f b else f (b + 1)) := e
        split at e <;> split at e
        · exact hi a b (by omega) (by omega) e
        · have := hi a (b + 1) (by omega) (by omega) e; omega
        · have := hi (a + 1) b (by omega) (by omega) e; omega
        · have := hi (a + 1) (b + 1) (by omega) (by omega) e; omega)
      omega
    · have := pigeon n m f (fun i hi' => by
        have h1 := hf i hi'
        have h2 : f i ≠ n := fun e => hx ⟨i, hi', e⟩
        omega) hi
      omega
/-- A Name, just so many Members further. -/
def reach (L : List Nd) : Nat → Int → Prop
  | 0, i => inL L i = true ∧ (nd L i).k = 17
  | d + 1, i => inL L i = true ∧ (nd L i).k = 29 ∧ ∃ j, (nd L i).ks = [j] ∧ reach L d j
theorem reach_in {L : List Nd} {d : Nat} {i : Int} (h : reach L d i) : inL L i = true := by cases d <;> exact h.1
theorem reach_one {L : List Nd} : ∀ {d e : Nat} {i : Int}, reach L d i → reach L e i → d = e
  | 0, 0, _, _, _ => rfl
  | 0, e + 1, _, h, g => by have := h.2.symm.trans g.2.1; omega
  | d + 1, 0, _, h, g => by have := g.2.symm.trans h.2.1; omega
  | d + 1, e + 1, i, ⟨_, _, j, h1, h2⟩, ⟨_, _, j', g1, g2⟩ => by
    rw [h1] at g1
    injection g1 with g1
    subst g1
    rw [reach_one h2 g2]
theorem reach_down {L : List Nd} : ∀ {d : Nat} {i : Int}, reach L d i → ∀ e, e ≤ d → ∃ j, reach L e j
  | 0, i, h, e, he => by
    obtain rfl : e = 0 := by omega
    exact ⟨i, h⟩
  | d + 1, i, h, e, he => by
    rcases Nat.lt_or_ge d e with h1 | h1
    · obtain rfl : e = d + 1 := by omega
      exact ⟨i, h⟩
    · obtain ⟨_, _, j, _, h2⟩ := h
      exact reach_down h2 e h1
theorem reach_le {L : List Nd} {d : Nat} {i : Int} (h : reach L d i) : d < L.length := by
  have hd := reach_down h
  have key : ∀ e, ∃ j : Nat, e ≤ d → j < L.length ∧ reach L e (j : Int) := fun e => by
    by_cases he : e ≤ d
    · obtain ⟨j, hj⟩ := hd e he
      obtain ⟨k, rfl, hk⟩ := inL_nat (reach_in hj)
      exact ⟨k, fun _ => ⟨hk, hj⟩⟩
    · exact ⟨0, fun h => absurd h he⟩
  obtain ⟨f, hf⟩ := Classical.axiomOfChoice key
  have := pigeon L.length (d + 1) f (fun e he => (hf e (by omega)).1) (fun a b ha hb e => by
    have h1 := (hf a (by omega)).2
    have h2 := (hf b (by omega)).2
    rw [e] at h1
    exact reach_one h1 h2)
  omega
theorem named_iff {L : List Nd} : ∀ {f : Nat} {i : Int}, namedIn L f i = true ↔ ∃ d, d < f ∧ reach L d i
  | 0, i => by simp [namedIn]
  | f + 1, i => by
    constructor
    · intro h
      unfold namedIn at h
      rw [Bool.and_eq_true] at h
      obtain ⟨h0, h⟩ := h
      split at h
      · exact ⟨0, by omega, h0, by assumption⟩
      · split at h
        · split at h
          · rename_i j hj
            obtain ⟨d, hd, hr⟩ := named_iff.1 h
            exact ⟨d + 1, by omega, h0, by assumption, j, hj, hr⟩
          · cases h
        · cases h
    · rintro ⟨d, hd, hr⟩
      unfold namedIn
      rw [reach_in hr, Bool.true_and]
      match d, hr with
      | 0, hr => rw [if_pos hr.2]
      | d + 1, ⟨_, h1, j, h2, h3⟩ =>
        rw [if_neg (by omega), if_pos h1, h2]
        exact named_iff.2 ⟨d, by omega, h3⟩
theorem path_iff {L : List Nd} : ∀ {f : Nat} {i : Int}, inL L i = true → (pathIn L f i = true ↔ ∃ d, d < f ∧ reach L d i)
  | 0, i, _ => by simp [pathIn]
  | f + 1, i, hi => by
    constructor
    · intro h
      unfold pathIn at h
      split at h
      · split at h
        · rename_i j hj
          rw [Bool.and_eq_true] at h
          obtain ⟨d, hd, hr⟩ := (path_iff h.1).1 h.2
          exact ⟨d + 1, by omega, hi, by assumption, j, hj, hr⟩
        · cases h
      · exact ⟨0, by omega, hi, by simpa using h⟩
    · rintro ⟨d, hd, hr⟩
      unfold pathIn
      match d, hr with
      | 0, hr => rw [if_neg (by have := hr.2; omega), hr.2]; rfl
      | d + 1, ⟨_, h1, j, h2, h3⟩ =>
        rw [if_pos h1, h2]
        show (inL L j && pathIn L f j) = true
        rw [reach_in h3, Bool.true_and]
        exact (path_iff (reach_in h3)).2 ⟨d, by omega, h3⟩
theorem named_path (L : List Nd) (i : Int) (hi : inL L i = true) : namedB L i = pathP L i := by
  rw [Bool.eq_iff_iff]
  unfold namedB pathP
  rw [named_iff, path_iff hi]
  exact ⟨fun ⟨d, _, h⟩ => ⟨d, reach_le h, h⟩, fun ⟨d, h1, h⟩ => ⟨d, by omega, h⟩⟩
end Go.Proofs.YtpkdhciokiomlaaDoor
