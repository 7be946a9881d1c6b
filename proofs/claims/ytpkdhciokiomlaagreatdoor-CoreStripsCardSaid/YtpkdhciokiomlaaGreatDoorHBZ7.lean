/- Some texts of this claim, put together. -/
import Derived.Test.YtpkdhciokiomlaaGreatDoorHBZ3
import Derived.Test.YtpkdhciokiomlaaGreatDoorHBZ5
import Derived.Test.YtpkdhciokiomlaaGreatDoorProg
import Derived.Deep.DeepCutAuto
import Derived.Deep.RegionHeld3
import Derived.Test.YtpkdhciokiomlaaGreatDoorHBZ12
import Derived.Test.YtpkdhciokiomlaaGreatDoorHBZ18
namespace Go.Proofs.YtpkdhciokiomlaaGreatDoor
section
set_option linter.unusedVariables false
set_option linter.unusedSimpArgs false
set_option linter.unnecessarySimpa false
open Go.RowKit
def isW (w : Int) (y : Nd) : Bool :=
  if w = 1000 then exprK y.k else if w = 1001 then typeK y.k else if w = 1002 then stmtK y.k
  else if w = 1003 then y.k == 66 && (y.m == 0 || y.m == 1) else if w = 1004 then y.k == 66
  else if w = 1005 then y.k == 44 || y.k == 45 || y.k == 46 else y.k == w
def spot1 (w : Int) (y : Nd) : Bool := (decide (w < 0) && (y.k == 1 || isW (-w) y)) || (decide (0 < w) && isW w y)
def rowG (L : List Nd) : List Int → List Int → Bool
  | k :: ks, w :: l => spot1 w (nd L k) && rowG L ks l
  | _, _ => true
def rowB (L : List Nd) (ks l : List Int) : Bool := decide (ks.length = l.length) && rowG L ks l
def eachB (L : List Nd) (ks : List Int) (a b : Int) : Bool := ks.all fun k => isW a (nd L k) || isW b (nd L k)
def kidB (L : List Nd) (y : Nd) (i : Nat) : Nd := if i < y.ks.length then nd L (y.ks.getD i 0) else nd0
def listB (L : List Nd) (y : Nd) (i : Nat) (w : Int) : Bool := (kidB L y i).k == 2 && (kidB L y i).ks.all fun j => inL L j && isW w (nd L j)
def namedIn (L : List Nd) : Nat → Int → Bool
  | 0, _ => false
  | f + 1, i => inL L i && (if (nd L i).k = 17 then true else if (nd L i).k = 29 then (match (nd L i).ks with
      | [j] => namedIn L f j
      | _ => false) else false)
def namedB (L : List Nd) (i : Int) : Bool := namedIn L (L.length + 1) i
def functionB (L : List Nd) (y : Nd) : Bool := rowB L y.ks [2, 2, -1001, 63] && listB L y 0 67 && listB L y 1 1003
def tmplB (L : List Nd) (y : Nd) : Bool := tmplP L 0 y.ks && decide (y.ks.length % 2 = 1)
def exprsB (L : List Nd) (y : Nd) : Bool :=
  if y.k = 12 then tmplB L y
  else if y.k = 19 then eachB L y.ks 1000 1000
  else if y.k = 20 then eachB L y.ks 21 21
  else if y.k = 21 ∨ y.k = 23 ∨ y.k = 29 ∨ y.k = 34 then rowB L y.ks [1000]
  else if y.k = 22 then decide (y.ks.length = 3) && listB L y 0 67 && listB L y 1 1003 && ((kidB L y 2).k == 63 || exprK (kidB L y 2).k)
  else if y.k = 24 ∨ y.k = 30 then rowB L y.ks [1000, 1000]
  else if y.k = 25 then rowB L y.ks [1000, 1000, 1000]
  else if y.k = 26 then rowB L y.ks [1000, 1000] && ((kidB L y 0).k == 17 || (kidB L y 0).k == 29 || (kidB L y 0).k == 30)
  else if y.k = 27 then rowB L y.ks [1000, 2, 2] && listB L y 1 1001 && listB L y 2 1000
  else if y.k = 28 then rowB L y.ks [1000, 2, 2] && namedB L (y.ks.getD 0 0) && listB L y 1 1001 && listB L y 2 1000
  else if y.k = 31 then decide (y.ks.length = 1) && listB L y 0 1000
  else if y.k = 33 then rowB L y.ks [1000, 1001]
  else decide (y.ks.length = 0)
def typesB (L : List Nd) (y : Nd) : Bool :=
  if y.k = 80 then decide (y.ks.length = 1) && listB L y 0 1001
  else if y.k = 83 ∨ y.k = 85 then rowB L y.ks [1001]
  else if y.k = 84 then eachB L y.ks 85 85
  else if y.k = 86 then rowB L y.ks [2, 1001] && listB L y 0 1003
  else if y.k = 87 then decide (2 ≤ y.ks.length) && eachB L y.ks 1001 1001
  else decide (y.ks.length = 0)
def declsB (L : List Nd) (y : Nd) : Bool :=
  if y.k = 40 then rowB L y.ks [-1001, 1000]
  else if y.k = 41 ∨ y.k = 45 then functionB L y
  else if y.k = 42 then rowB L y.ks [2, -43, 2, 2] && listB L y 0 67 && listB L y 2 80 && listB L y 3 1005 && decide (ctorsB L (kidB L y 3).ks ≤ 1)
  else if y.k = 43 then decide (y.ks.length = 1) && listB L y 0 1001
  else if y.k = 44 then rowB L y.ks [-1001, -1000]
  else if y.k = 46 then rowB L y.ks [2, 63] && listB L y 0 1004
  else if y.k = 47 then eachB L y.ks 48 48
  else if y.k = 48 then rowB L y.ks [-1000]
  else if y.k = 49 then eachB L y.ks 1002 50
  else if y.k = 50 then decide (y.ks.length = 1) && expK (kidB L y 0)
  else if y.k = 51 then rowB L y.ks [2, 2, 84] && listB L y 0 67 && listB L y 1 80
  else if y.k = 52 then rowB L y.ks [2, 1001] && listB L y 0 67
  else if y.k = 66 then rowB L y.ks [-1001]
  else decide (y.ks.length = 0)
def stmtsB (L : List Nd) (y : Nd) : Bool :=
  if y.k = 3 ∨ y.k = 63 then eachB L y.ks 1002 1002
  else if y.k = 53 then decide (y.ks.length = 3) && exprK (kidB L y 0).k && (kidB L y 1).k == 63 && ((kidB L y 2).k == 63 || (kidB L y 2).k == 53 || (kidB L y 2).k == 1)
  else if y.k = 54 then rowB L y.ks [1000, 63]
  else if y.k = 55 then rowB L y.ks [-40, -1000, -1000, 63] && ((kidB L y 0).k == 1 || (kidB L y 0).m == 0)
  else if y.k = 56 then rowB L y.ks [1000, 63]
  else if y.k = 57 then rowB L y.ks [-1000]
  else if y.k = 60 ∨ y.k = 64 then rowB L y.ks [1000]
  else if y.k = 61 then rowB L y.ks [63, -62, -63] && ((kidB L y 1).k == 62 || (kidB L y 2).k == 63)
  else if y.k = 62 then rowB L y.ks [63]
  else decide (y.ks.length = 0)
def kidsB (L : List Nd) (y : Nd) : Bool :=
  if y.k = 2 then y.ks.all (inL L)
  else if 80 ≤ y.k then typesB L y
  else if 10 ≤ y.k ∧ y.k ≤ 34 then exprsB L y
  else if (40 ≤ y.k ∧ y.k ≤ 52) ∨ y.k = 66 ∨ y.k = 67 then declsB L y
  else stmtsB L y
/-! ### so many steps are enough -/
theorem pigeon : ∀ (n m : Nat) (f : Nat → Nat), (∀ i, i < m → f i < n) → (∀ i j, i < m → j < m → f i = f j → i = j) → m ≤ n
  | 0, m, f, hf, _ => by
    rcases Nat.eq_zero_or_pos m with h | h
    · omega
    · exact absurd (hf 0 h) (by omega)
  | n + 1, m, f, hf, hi => by
    by_cases hx : ∃ i, i < m ∧ f i = n
    · obtain ⟨i, him, hin⟩ := hx
      have := pigeon n (m - 1) (fun j => if j < i then f j else f (j + 1)) (fun j hj => by
        show (if j < i then f j else f (j + 1)) < n
        split
        · have h1 := hf j (by omega)
          have h2 : f j ≠ n := fun e => by have := hi j i (by omega) him (e.trans hin.symm); omega
          omega
        · have h1 := hf (j + 1) (by omega)
          have h2 : f (j + 1) ≠ n := fun e => by have := hi (j + 1) i (by omega) him (e.trans hin.symm); omega
          omega) (fun a b ha hb e => by
        replace e : (if a < i then f a else f (a + 1)) = (if b < i then f b else f (b + 1)) := e
        split at e <;> split at e
        · exact hi a b (by omega) (by omega) e
        · have := hi a (b + 1) (by omega) (by omega) e; omega
        · have := hi (a + 1) b (by omega) (by omega) e; omega
        · have := hi (a + 1) (b + 1) (by omega) (by omega) e; omega)
      omega
    · have := pigeon n m f (fun i hi' => by
        have h1 := hf i hi'
        have h2 : f i ≠ n := fun e => hx ⟨i, hi', e⟩
        omega) hi
      omega
/-- A Name, just so many Members further. -/
def reach (L : List Nd) : Nat → Int → Prop
  | 0, i => inL L i = true ∧ (nd L i).k = 17
  | d + 1, i => inL L i = true ∧ (nd L i).k = 29 ∧ ∃ j, (nd L i).ks = [j] ∧ reach L d j
theorem reach_in {L : List Nd} {d : Nat} {i : Int} (h : reach L d i) : inL L i = true := by cases d <;> exact h.1
theorem reach_one {L : List Nd} : ∀ {d e : Nat} {i : Int}, reach L d i → reach L e i → d = e
  | 0, 0, _, _, _ => rfl
  | 0, e + 1, _, h, g => by have := h.2.symm.trans g.2.1; omega
  | d + 1, 0, _, h, g => by have := g.2.symm.trans h.2.1; omega
  | d + 1, e + 1, i, ⟨_, _, j, h1, h2⟩, ⟨_, _, j', g1, g2⟩ => by
    rw [h1] at g1
    injection g1 with g1
    subst g1
    rw [reach_one h2 g2]
theorem reach_down {L : List Nd} : ∀ {d : Nat} {i : Int}, reach L d i → ∀ e, e ≤ d → ∃ j, reach L e j
  | 0, i, h, e, he => by
    obtain rfl : e = 0 := by omega
    exact ⟨i, h⟩
  | d + 1, i, h, e, he => by
    rcases Nat.lt_or_ge d e with h1 | h1
    · obtain rfl : e = d + 1 := by omega
      exact ⟨i, h⟩
    · obtain ⟨_, _, j, _, h2⟩ := h
      exact reach_down h2 e h1
theorem reach_le {L : List Nd} {d : Nat} {i : Int} (h : reach L d i) : d < L.length := by
  have hd := reach_down h
  have key : ∀ e, ∃ j : Nat, e ≤ d → j < L.length ∧ reach L e (j : Int) := fun e => by
    by_cases he : e ≤ d
    · obtain ⟨j, hj⟩ := hd e he
      obtain ⟨k, rfl, hk⟩ := inL_nat (reach_in hj)
      exact ⟨k, fun _ => ⟨hk, hj⟩⟩
    · exact ⟨0, fun h => absurd h he⟩
  obtain ⟨f, hf⟩ := Classical.axiomOfChoice key
  have := pigeon L.length (d + 1) f (fun e he => (hf e (by omega)).1) (fun a b ha hb e => by
    have h1 := (hf a (by omega)).2
    have h2 := (hf b (by omega)).2
    rw [e] at h1
    exact reach_one h1 h2)
  omega
theorem named_iff {L : List Nd} : ∀ {f : Nat} {i : Int}, namedIn L f i = true ↔ ∃ d, d < f ∧ reach L d i
  | 0, i => by simp [namedIn]
  | f + 1, i => by
    constructor
    · intro h
      unfold namedIn at h
      rw [Bool.and_eq_true] at h
      obtain ⟨h0, h⟩ := h
      split at h
      · exact ⟨0, by omega, h0, by assumption⟩
      · split at h
        · split at h
          · rename_i j hj
            obtain ⟨d, hd, hr⟩ := named_iff.1 h
            exact ⟨d + 1, by omega, h0, by assumption, j, hj, hr⟩
          · cases h
        · cases h
    · rintro ⟨d, hd, hr⟩
      unfold namedIn
      rw [reach_in hr, Bool.true_and]
      match d, hr with
      | 0, hr => rw [if_pos hr.2]
      | d + 1, ⟨_, h1, j, h2, h3⟩ =>
        rw [if_neg (by omega), if_pos h1, h2]
        exact named_iff.2 ⟨d, by omega, h3⟩
theorem path_iff {L : List Nd} : ∀ {f : Nat} {i : Int}, inL L i = true → (pathIn L f i = true ↔ ∃ d, d < f ∧ reach L d i)
  | 0, i, _ => by simp [pathIn]
  | f + 1, i, hi => by
    constructor
    · intro h
      unfold pathIn at h
      split at h
      · split at h
        · rename_i j hj
          rw [Bool.and_eq_true] at h
          obtain ⟨d, hd, hr⟩ := (path_iff h.1).1 h.2
          exact ⟨d + 1, by omega, hi, by assumption, j, hj, hr⟩
        · cases h
      · exact ⟨0, by omega, hi, by simpa using h⟩
    · rintro ⟨d, hd, hr⟩
      unfold pathIn
      match d, hr with
      | 0, hr => rw [if_neg (by have := hr.2; omega), hr.2]; rfl
      | d + 1, ⟨_, h1, j, h2, h3⟩ =>
        rw [if_pos h1, h2]
        show (inL L j && pathIn L f j) = true
        rw [reach_in h3, Bool.true_and]
        exact (path_iff (reach_in h3)).2 ⟨d, by omega, h3⟩
theorem named_path (L : List Nd) (i : Int) (hi : inL L i = true) : namedB L i = pathP L i := by
  rw [Bool.eq_iff_iff]
  unfold namedB pathP
  rw [named_iff, path_iff hi]
  exact ⟨fun ⟨d, _, h⟩ => ⟨d, reach_le h, h⟩, fun ⟨d, h1, h⟩ => ⟨d, by omega, h⟩⟩
end
section
set_option linter.unusedVariables false
set_option linter.unusedSimpArgs false
set_option linter.unnecessarySimpa false
open Go.RowKit
attribute [local go_sem] cell_alloc_add cell_set_add lt_more
set_option maxHeartbeats 4000000 in
theorem rIsExpr_any (k : Int) (w : World) : Calls Tryz.prog 15 #[.int .i64 k] w fun e w' => e = .returned (.bool (exprK k)) ∧ Below w.heap.size w w' := by
  go_enter Tryz.func15, Tryz.ntmps15
  go_wp2
  all_goals go_ret
  all_goals (refine ⟨ret_bool ?_, Below.refl _ _⟩; rw [Bool.eq_iff_iff]; simp [exprK] <;> omega)
set_option maxHeartbeats 4000000 in
theorem rIsType_any (k : Int) (w : World) : Calls Tryz.prog 115 #[.int .i64 k] w fun e w' => e = .returned (.bool (typeK k)) ∧ Below w.heap.size w w' := by
  go_enter Tryz.func115, Tryz.ntmps115
  go_wp2
  all_goals go_ret
  all_goals (refine ⟨ret_bool ?_, Below.refl _ _⟩; rw [Bool.eq_iff_iff]; simp [typeK] <;> omega)
set_option maxHeartbeats 4000000 in
theorem rKind_any (k : Int) (w : World) : Calls Tryz.prog 75 #[.int .i64 k] w fun e w' => e = .returned (.bool (kindK k)) ∧ Below w.heap.size w w' := by
  go_enter Tryz.func75, Tryz.ntmps75
  go_wp2
  all_goals go_ret
  all_goals (refine ⟨ret_bool ?_, Below.refl _ _⟩; rw [Bool.eq_iff_iff]; simp [kindK] <;> omega)
set_option maxHeartbeats 4000000 in
theorem rIsStmt_any (k : Int) (w : World) : Calls Tryz.prog 116 #[.int .i64 k] w fun e w' => e = .returned (.bool (stmtK k)) ∧ Below w.heap.size w w' := by
  go_enter Tryz.func116, Tryz.ntmps116
  go_wp2
  all_goals go_ret
  all_goals (refine ⟨ret_bool ?_, Below.refl _ _⟩; (try simp only [beq_iff_eq, beq_eq_false_iff_ne, bne_iff_ne, bne_eq_false_iff_eq, ne_eq, decide_eq_true_eq, decide_eq_false_iff_not, Bool.and_eq_true, Bool.or_eq_true, Bool.not_eq_true, Bool.not_eq_false, Bool.false_eq_true, Decidable.not_not, Bool.not_eq_eq_eq_not, Bool.not_true, Bool.not_false] at *); simp [stmtK, *])
/-- A node as a value. -/
def nodeV (y : Nd) (K : Option Addr) (kc : Nat) : Value := .agg #[.int .i64 y.k, .string y.x, .int .i64 y.m, .slice K y.ks.length kc, .int .i64 y.p]
set_option maxHeartbeats 4000000 in
theorem is_any (k m p : Int) (x : ByteArray) (ks : List Int) (K : Option Addr) (n kc : Nat) (which : Int) (w : World) :
    Calls Tryz.prog 105 #[.agg #[.int .i64 k, .string x, .int .i64 m, .slice K n kc, .int .i64 p], .int .i64 which] w fun e w' => e = .returned (.bool (isW which ⟨k, x, m, ks, p⟩)) ∧ Below w.heap.size w w' := by
  have bx : Below w.heap.size w (w.alloc (.cells #[.int .i64 k, .string x, .int .i64 m, .slice K n kc, .int .i64 p] 37)) := (by (exact bl))
  by_cases h1000 : which = 1000
  · subst h1000
    rw [show isW 1000 ⟨k, x, m, ks, p⟩ = exprK k from rfl]
    go_enter Tryz.func105, Tryz.ntmps105
    go_wp2_with (first
    | (go_at_call 15; (with_reducible refine (rIsExpr_any _ _).mono ?_); rintro e w1 ⟨rfl, b1⟩; have z1 := Below.size b1; have bw1 := bx.trans (b1.mono bx.size))
    | (go_at_call 115; (with_reducible refine (rIsType_any _ _).mono ?_); rintro e w1 ⟨rfl, b1⟩; have z1 := Below.size b1; have bw1 := bx.trans (b1.mono bx.size))
    | (go_at_call 116; (with_reducible refine (rIsStmt_any _ _).mono ?_); rintro e w1 ⟨rfl, b1⟩; have z1 := Below.size b1; have bw1 := bx.trans (b1.mono bx.size))
    | fail)
    all_goals go_ret
    exact ⟨rfl, bw1⟩
  · have h1000' : (which == 1000) = false := by simpa using h1000
    by_cases h1001 : which = 1001
    · subst h1001
      rw [show isW 1001 ⟨k, x, m, ks, p⟩ = typeK k from rfl]
      go_enter Tryz.func105, Tryz.ntmps105
      go_wp2_with (first
    | (go_at_call 15; (with_reducible refine (rIsExpr_any _ _).mono ?_); rintro e w1 ⟨rfl, b1⟩; have z1 := Below.size b1; have bw1 := bx.trans (b1.mono bx.size))
    | (go_at_call 115; (with_reducible refine (rIsType_any _ _).mono ?_); rintro e w1 ⟨rfl, b1⟩; have z1 := Below.size b1; have bw1 := bx.trans (b1.mono bx.size))
    | (go_at_call 116; (with_reducible refine (rIsStmt_any _ _).mono ?_); rintro e w1 ⟨rfl, b1⟩; have z1 := Below.size b1; have bw1 := bx.trans (b1.mono bx.size))
    | fail)
      all_goals go_ret
      exact ⟨rfl, bw1⟩
    · have h1001' : (which == 1001) = false := by simpa using h1001
      by_cases h1002 : which = 1002
      · subst h1002
        rw [show isW 1002 ⟨k, x, m, ks, p⟩ = stmtK k from rfl]
        go_enter Tryz.func105, Tryz.ntmps105
        go_wp2_with (first
    | (go_at_call 15; (with_reducible refine (rIsExpr_any _ _).mono ?_); rintro e w1 ⟨rfl, b1⟩; have z1 := Below.size b1; have bw1 := bx.trans (b1.mono bx.size))
    | (go_at_call 115; (with_reducible refine (rIsType_any _ _).mono ?_); rintro e w1 ⟨rfl, b1⟩; have z1 := Below.size b1; have bw1 := bx.trans (b1.mono bx.size))
    | (go_at_call 116; (with_reducible refine (rIsStmt_any _ _).mono ?_); rintro e w1 ⟨rfl, b1⟩; have z1 := Below.size b1; have bw1 := bx.trans (b1.mono bx.size))
    | fail)
        all_goals go_ret
        exact ⟨rfl, bw1⟩
      · have h1002' : (which == 1002) = false := by simpa using h1002
        by_cases h1003 : which = 1003
        · subst h1003
          rw [show isW 1003 ⟨k, x, m, ks, p⟩ = (k == 66 && (m == 0 || m == 1)) from rfl]
          go_enter Tryz.func105, Tryz.ntmps105
          go_wp2_with (first
    | (go_at_call 15; (with_reducible refine (rIsExpr_any _ _).mono ?_); rintro e w1 ⟨rfl, b1⟩; have z1 := Below.size b1; have bw1 := bx.trans (b1.mono bx.size))
    | (go_at_call 115; (with_reducible refine (rIsType_any _ _).mono ?_); rintro e w1 ⟨rfl, b1⟩; have z1 := Below.size b1; have bw1 := bx.trans (b1.mono bx.size))
    | (go_at_call 116; (with_reducible refine (rIsStmt_any _ _).mono ?_); rintro e w1 ⟨rfl, b1⟩; have z1 := Below.size b1; have bw1 := bx.trans (b1.mono bx.size))
    | fail)
          all_goals go_ret
          all_goals exact ⟨ret_bool (by simp [*]), (by (exact bl))⟩
        · have h1003' : (which == 1003) = false := by simpa using h1003
          by_cases h1004 : which = 1004
          · subst h1004
            rw [show isW 1004 ⟨k, x, m, ks, p⟩ = (k == 66) from rfl]
            go_enter Tryz.func105, Tryz.ntmps105
            go_wp2_with (first
    | (go_at_call 15; (with_reducible refine (rIsExpr_any _ _).mono ?_); rintro e w1 ⟨rfl, b1⟩; have z1 := Below.size b1; have bw1 := bx.trans (b1.mono bx.size))
    | (go_at_call 115; (with_reducible refine (rIsType_any _ _).mono ?_); rintro e w1 ⟨rfl, b1⟩; have z1 := Below.size b1; have bw1 := bx.trans (b1.mono bx.size))
    | (go_at_call 116; (with_reducible refine (rIsStmt_any _ _).mono ?_); rintro e w1 ⟨rfl, b1⟩; have z1 := Below.size b1; have bw1 := bx.trans (b1.mono bx.size))
    | fail)
            all_goals go_ret
            all_goals exact ⟨ret_bool (by simp [*]), (by (exact bl))⟩
          · have h1004' : (which == 1004) = false := by simpa using h1004
            by_cases h1005 : which = 1005
            · subst h1005
              rw [show isW 1005 ⟨k, x, m, ks, p⟩ = (k == 44 || k == 45 || k == 46) from rfl]
              go_enter Tryz.func105, Tryz.ntmps105
              go_wp2_with (first
    | (go_at_call 15; (with_reducible refine (rIsExpr_any _ _).mono ?_); rintro e w1 ⟨rfl, b1⟩; have z1 := Below.size b1; have bw1 := bx.trans (b1.mono bx.size))
    | (go_at_call 115; (with_reducible refine (rIsType_any _ _).mono ?_); rintro e w1 ⟨rfl, b1⟩; have z1 := Below.size b1; have bw1 := bx.trans (b1.mono bx.size))
    | (go_at_call 116; (with_reducible refine (rIsStmt_any _ _).mono ?_); rintro e w1 ⟨rfl, b1⟩; have z1 := Below.size b1; have bw1 := bx.trans (b1.mono bx.size))
    | fail)
              all_goals go_ret
              all_goals exact ⟨ret_bool (by simp [*]), (by (exact bl))⟩
            · have h1005' : (which == 1005) = false := by simpa using h1005
              rw [show isW which ⟨k, x, m, ks, p⟩ = (k == which) by simp [isW, h1000, h1001, h1002, h1003, h1004, h1005]]
              go_enter Tryz.func105, Tryz.ntmps105
              go_wp2
              all_goals go_ret
              all_goals exact ⟨rfl, bx⟩
end
section
set_option linter.unusedVariables false
set_option linter.unusedSimpArgs false
set_option linter.unnecessarySimpa false
open Go.RowKit
attribute [local go_sem] cell_alloc_add cell_set_add lt_more get_btT
def unB : List ByteArray := [⟨#[33]⟩, ⟨#[45]⟩, ⟨#[126]⟩, ⟨#[116, 121, 112, 101, 111, 102]⟩]
theorem unB_in (l : List UInt8) : amongB l unB = inS l unaries := rfl
def biB : List ByteArray := [⟨#[124, 124]⟩, ⟨#[38, 38]⟩, ⟨#[124]⟩, ⟨#[94]⟩, ⟨#[38]⟩, ⟨#[61, 61, 61]⟩, ⟨#[33, 61, 61]⟩, ⟨#[60]⟩, ⟨#[60, 61]⟩, ⟨#[62]⟩, ⟨#[62, 61]⟩, ⟨#[105, 110]⟩, ⟨#[60, 60]⟩, ⟨#[62, 62]⟩, ⟨#[62, 62, 62]⟩, ⟨#[43]⟩, ⟨#[45]⟩, ⟨#[42]⟩, ⟨#[37]⟩]
theorem biB_in (l : List UInt8) : amongB l biB = inS l binaries := rfl
def asB : List ByteArray := [⟨#[61]⟩, ⟨#[43, 61]⟩, ⟨#[45, 61]⟩, ⟨#[42, 61]⟩, ⟨#[37, 61]⟩]
theorem asB_in (l : List UInt8) : amongB l asB = inS l assigns := rfl
def coB : List ByteArray := [⟨#[110, 117, 108, 108]⟩, ⟨#[117, 110, 100, 101, 102, 105, 110, 101, 100]⟩, ⟨#[116, 114, 117, 101]⟩, ⟨#[102, 97, 108, 115, 101]⟩]
theorem coB_in (l : List UInt8) : amongB l coB = inS l consts := rfl
theorem rAmong_lit (s : ByteArray) (ws : List ByteArray) (n : Nat) (cs : Array Value) (t : TypeId) (hn : ws.length = n) (hn2 : n ≤ 1000) (hcs : cs = (ws.map Value.string).toArray) (w : World) :
    Calls Tryz.prog 88 #[.string s, .slice (some ⟨w.heap.size, 0, none⟩) n n] (w.alloc (.cells cs t)) fun e w' => e = .returned (.bool (amongB s.data.toList ws)) ∧ Below w.heap.size w w' :=
  (rAmong_any s ws n hn hn2 w.heap.size (w.alloc (.cells cs t)) (fun k hk => by rw [World.cell?_alloc_mark, hcs]; have : k < ws.length := by omega
                                                                                simp [this])).mono fun _ _ ⟨h1, h2⟩ => ⟨h1, h2 ▸ (by (exact bl))⟩
theorem emp_eq (s : ByteArray) : s.toList.isEmpty = s.data.toList.isEmpty := by
  rw [ByteArray.toList_eq]
set_option maxRecDepth 100000 in
set_option maxHeartbeats 8000000 in
theorem numbered_any (k m p : Int) (x : ByteArray) (K : Option Addr) (n kc : Nat) (w : World) :
    Calls Tryz.prog 77 #[.agg #[.int .i64 k, .string x, .int .i64 m, .slice K n kc, .int .i64 p]] w fun e w' => e = .returned (.bool (numK k m)) ∧ Below w.heap.size w w' := by
  have H := Lib.hid (show numK k m = if k = 10 then decide (0 ≤ m) && decide (m ≤ 9007199254740991) else if k = 81 then decide (-9007199254740991 ≤ m) && decide (m ≤ 9007199254740991) else if k = 40 ∨ k = 47 ∨ k = 56 ∨ k = 85 then m == 0 || m == 1 else if k = 44 then m == 0 || m == 4 else if k = 66 then decide (0 ≤ m) && decide (m ≤ 7) else m == 0 from rfl)
  generalize numK k m = R at *
  go_enter Tryz.func77, Tryz.ntmps77
  go_wp2
  all_goals go_ret
  all_goals (refine ⟨ret_bool ?_, (by (exact bl))⟩; (try simp only [beq_iff_eq, beq_eq_false_iff_ne, bne_iff_ne, bne_eq_false_iff_eq, ne_eq, decide_eq_true_eq, decide_eq_false_iff_not, Bool.and_eq_true, Bool.or_eq_true, Bool.not_eq_true, Bool.not_eq_false, Bool.false_eq_true, Decidable.not_not, Bool.not_eq_eq_eq_not, Bool.not_true, Bool.not_false] at *); rw [H.out]; first | (simp_all; done) | (simp_all; omega))
set_option maxRecDepth 100000 in
set_option maxHeartbeats 16000000 in
theorem texted_any (k m p : Int) (x : ByteArray) (hx : x.size ≤ 4000000000) (K : Option Addr) (n kc : Nat) (w : World) :
    Calls Tryz.prog 76 #[.agg #[.int .i64 k, .string x, .int .i64 m, .slice K n kc, .int .i64 p]] w fun e w' => e = .returned (.bool (textK k x)) ∧ Below w.heap.size w w' := by
  have H := Lib.hid (show textK k x = if k = 11 ∨ k = 82 then good x else if namesK k = true then isName x.data.toList else if k = 23 then inS x.data.toList unaries else if k = 24 then inS x.data.toList binaries else if k = 26 then inS x.data.toList assigns else if k = 80 then dottedB x.data.toList || inS x.data.toList consts else x.data.toList.isEmpty from rfl)
  generalize textK k x = R at *
  have HG := Lib.hid (fun W => rGood_any x (by omega) W)
  have HI := Lib.hid (fun W => IsName_any x (by omega) W)
  have HD := Lib.hid (fun W => dotted_any x hx W)
  have HU := Lib.hid (fun W => rAmong_lit x unB 4 #[.string ⟨#[33]⟩, .string ⟨#[45]⟩, .string ⟨#[126]⟩, .string ⟨#[116, 121, 112, 101, 111, 102]⟩] 9 rfl (by decide) rfl W)
  have HB := Lib.hid (fun W => rAmong_lit x biB 19 #[.string ⟨#[124, 124]⟩, .string ⟨#[38, 38]⟩, .string ⟨#[124]⟩, .string ⟨#[94]⟩, .string ⟨#[38]⟩, .string ⟨#[61, 61, 61]⟩, .string ⟨#[33, 61, 61]⟩, .string ⟨#[60]⟩, .string ⟨#[60, 61]⟩, .string ⟨#[62]⟩, .string ⟨#[62, 61]⟩, .string ⟨#[105, 110]⟩, .string ⟨#[60, 60]⟩, .string ⟨#[62, 62]⟩, .string ⟨#[62, 62, 62]⟩, .string ⟨#[43]⟩, .string ⟨#[45]⟩, .string ⟨#[42]⟩, .string ⟨#[37]⟩] 9 rfl (by decide) rfl W)
  have HA := Lib.hid (fun W => rAmong_lit x asB 5 #[.string ⟨#[61]⟩, .string ⟨#[43, 61]⟩, .string ⟨#[45, 61]⟩, .string ⟨#[42, 61]⟩, .string ⟨#[37, 61]⟩] 9 rfl (by decide) rfl W)
  have HC := Lib.hid (fun W => rAmong_lit x coB 4 #[.string ⟨#[110, 117, 108, 108]⟩, .string ⟨#[117, 110, 100, 101, 102, 105, 110, 101, 100]⟩, .string ⟨#[116, 114, 117, 101]⟩, .string ⟨#[102, 97, 108, 115, 101]⟩] 9 rfl (by decide) rfl W)
  go_enter Tryz.func76, Tryz.ntmps76
  go_upto_region 1 with fail
  obtain ⟨wa, hwa⟩ : ∃ wa : World, wa = w.alloc (.cells #[.int .i64 k, .string x, .int .i64 m, .slice K n kc, .int .i64 p] 37) := ⟨_, rfl⟩
  have a0 : wa.cell? ⟨w.heap.size, 0, none⟩ = some (.int .i64 k) := by rw [hwa]; simp [World.cell?_alloc_mark]
  have a1 : wa.cell? ⟨w.heap.size, 1, none⟩ = some (.string x) := by rw [hwa]; simp [World.cell?_alloc_mark]
  have bx : Below w.heap.size w wa := by rw [hwa]; (exact bl)
  have zx := Below.size bx
  rw [← hwa]
  clear hwa
  have l0 := World.block_lt_of_cell? wa _ a0
  simp only at l0
  go_wp2_with (first
    | (go_at_call 86; (with_reducible refine (HG.out _).mono ?_); rintro e w1 ⟨rfl, b1⟩; have z1 := Below.size b1)
    | (go_at_call 87; (with_reducible refine (HI.out _).mono ?_); rintro e w1 ⟨rfl, b1⟩; have z1 := Below.size b1)
    | (go_at_call 89; (with_reducible refine (HD.out _).mono ?_); rintro e w1 ⟨rfl, b1⟩; have z1 := Below.size b1; have d1 := (b1.cell (p := ⟨w.heap.size, 1, none⟩) l0).trans a1)
    | (go_at_call 88; (with_reducible refine (HU.out _).mono ?_); rintro e w1 ⟨rfl, b1⟩; have z1 := Below.size b1)
    | (go_at_call 88; (with_reducible refine (HB.out _).mono ?_); rintro e w1 ⟨rfl, b1⟩; have z1 := Below.size b1)
    | (go_at_call 88; (with_reducible refine (HA.out _).mono ?_); rintro e w1 ⟨rfl, b1⟩; have z1 := Below.size b1)
    | (go_at_call 88; (with_reducible refine (HC.out _).mono ?_); rintro e w2 ⟨rfl, b2⟩; have z2 := Below.size b2)
    | fail)
  all_goals go_ret
  all_goals (refine ⟨ret_bool ?_, (by (exact bl))⟩; (try simp only [beq_iff_eq, beq_eq_false_iff_ne, bne_iff_ne, bne_eq_false_iff_eq, ne_eq, decide_eq_true_eq, decide_eq_false_iff_not, Bool.and_eq_true, Bool.or_eq_true, Bool.not_eq_true, Bool.not_eq_false, Bool.false_eq_true, Decidable.not_not, Bool.not_eq_eq_eq_not, Bool.not_true, Bool.not_false] at *); rw [H.out]; first | (simp_all [namesK, unB_in, biB_in, asB_in, coB_in]; done) | (rw [emp_eq]; simp_all [namesK]; done))
end
end Go.Proofs.YtpkdhciokiomlaaGreatDoor
