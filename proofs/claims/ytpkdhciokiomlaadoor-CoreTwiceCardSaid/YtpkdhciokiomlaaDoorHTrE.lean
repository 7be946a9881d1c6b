/- Plain: what the reference asks of a node's kids is what the program asks, kind for kind. No program in sight. -/
import Derived.Test.YtpkdhciokiomlaaDoorHTrR
namespace Go.Proofs.YtpkdhciokiomlaaDoor
set_option linter.unusedVariables false
set_option linter.unusedSimpArgs false
set_option linter.unnecessarySimpa false
open Go.RowKit
theorem eachP_one (L : List Nd) (p : Plc) : ∀ (i : Nat) (ks : List Int), eachP L [p] i ks = ks.all (p L)
  | _, [] => rfl
  | i, k :: ks => by
    show (([p] : List Plc).getD (min i 0) anyP L k && eachP L [p] (i + 1) ks) = _
    rw [eachP_one L p (i + 1) ks, Nat.min_zero, List.all_cons]; rfl
theorem all_of {α : Type} {p q : α → Bool} (h : ∀ a, p a = true → q a = true) : ∀ l : List α, (l.all q && l.all p) = l.all p
  | [] => rfl
  | a :: l => by
    have := all_of h l
    have ha := h a
    simp only [List.all_cons]
    cases hp : p a
    · cases q a <;> simp
    · rw [ha hp, Bool.true_and, Bool.true_and]; exact this
theorem all_eq {α : Type} {p q : α → Bool} (h : ∀ a, p a = q a) (l : List α) : l.all p = l.all q := by rw [show p = q from funext h]
theorem in_ {L : List Nd} {P : Nd → Bool} (h0 : P nd0 = false) (j : Int) (h : P (nd L j) = true) : inL L j = true := by
  rcases Bool.eq_false_or_eq_true (inL L j) with h1 | h1
  · exact h1
  · rw [nd_out h1, h0] at h; cases h
theorem each_of (L : List Nd) (P : Nd → Bool) (h0 : P nd0 = false) (ks : List Int) : (ks.all (inL L) && ks.all fun k => P (nd L k)) = ks.all fun k => P (nd L k) :=
  all_of (fun a h => in_ h0 a h) ks
theorem each_eq (L : List Nd) (ks : List Int) (P : Nd → Bool) (h0 : P nd0 = false) (f g : Int → Bool) (hf : ∀ j, f j = P (nd L j)) (hg : ∀ j, g j = P (nd L j)) : ks.all f = (ks.all (inL L) && ks.all g) := by
  rw [all_eq hf, all_eq hg, each_of L P h0]
theorem tmpl_in (L : List Nd) : ∀ (ks : List Int) (i : Nat), tmplP L i ks = true → ks.all (inL L) = true
  | [], _, _ => rfl
  | k :: ks, i, h => by
    unfold tmplP at h
    rw [Bool.and_eq_true] at h
    rw [List.all_cons, tmpl_in L ks (i + 1) h.2, Bool.and_true]
    refine in_of_kind ?_
    intro e
    have h1 := h.1
    rw [e] at h1
    split at h1 <;> simp [exprK] at h1
theorem ks0 {ks : List Int} (h : ks.length ≠ 0) : ∃ a l, ks = a :: l := by cases ks with | nil => simp at h | cons a l => exact ⟨a, l, rfl⟩
theorem ks_1 {ks : List Int} (h : ks.length = 1) : ∃ a, ks = [a] := by match ks, h with | [a], _ => exact ⟨a, rfl⟩
theorem ks_2 {ks : List Int} (h : ks.length = 2) : ∃ a b, ks = [a, b] := by match ks, h with | [a, b], _ => exact ⟨a, b, rfl⟩
theorem ks_3 {ks : List Int} (h : ks.length = 3) : ∃ a b c, ks = [a, b, c] := by match ks, h with | [a, b, c], _ => exact ⟨a, b, c, rfl⟩
theorem ks_4 {ks : List Int} (h : ks.length = 4) : ∃ a b c d, ks = [a, b, c, d] := by match ks, h with | [a, b, c, d], _ => exact ⟨a, b, c, d, rfl⟩
theorem path_expr {L : List Nd} {i : Int} (hi : inL L i = true) (h : pathP L i = true) : exprK (nd L i).k = true := by
  obtain ⟨d, _, hr⟩ := (path_iff hi).1 h
  cases d with
  | zero => rw [hr.2]; rfl
  | succ d => rw [hr.2.1]; rfl
/-- A kid is in its tree, or it is a node of no kind. -/
theorem in_or (L : List Nd) (j : Int) : inL L j = true ∨ (inL L j = false ∧ nd L j = nd0) := by
  rcases Bool.eq_false_or_eq_true (inL L j) with h | h
  · exact .inl h
  · exact .inr ⟨h, nd_out h⟩
theorem rows_list (L : List Nd) (w : Int) (p : Plc) (hp : ∀ j, p L j = isW w (nd L j)) (i : Int) : rowsP p L i = ((nd L i).k == 2 && (nd L i).ks.all fun j => inL L j && isW w (nd L j)) := by
  unfold rowsP
  congr 2
  funext j
  rw [hp]
theorem beq_dec (a b : Int) : (a == b) = decide (a = b) := by rw [Bool.eq_iff_iff]; simp
theorem of1 (a : Int) (L : List Nd) (j : Int) : ofP [a] L j = ((nd L j).k == a) := by simp [ofP, beq_dec]
theorem rows_of (L : List Nd) (a : Int) (ha : a < 1000) (i : Int) : rowsP (ofP [a]) L i = ((nd L i).k == 2 && (nd L i).ks.all fun j => inL L j && isW a (nd L j)) :=
  rows_list L a _ (fun j => by rw [of1]; simp only [isW]; rw [if_neg (by omega), if_neg (by omega), if_neg (by omega), if_neg (by omega), if_neg (by omega), if_neg (by omega)]) i
theorem rows_plain (L : List Nd) (i : Int) : rowsP plainP L i = ((nd L i).k == 2 && (nd L i).ks.all fun j => inL L j && isW 1003 (nd L j)) := rows_list L 1003 _ (fun _ => rfl) i
theorem rows_type (L : List Nd) (i : Int) : rowsP typeP L i = ((nd L i).k == 2 && (nd L i).ks.all fun j => inL L j && isW 1001 (nd L j)) := rows_list L 1001 _ (fun _ => rfl) i
theorem rows_expr (L : List Nd) (i : Int) : rowsP exprP L i = ((nd L i).k == 2 && (nd L i).ks.all fun j => inL L j && isW 1000 (nd L j)) := rows_list L 1000 _ (fun _ => rfl) i
theorem rows_mem (L : List Nd) (i : Int) : memP L i = (((nd L i).k == 2 && (nd L i).ks.all fun j => inL L j && isW 1005 (nd L j)) && decide (ctorsB L (nd L i).ks ≤ 1)) := by
  unfold memP
  rw [rows_list L 1005 _ (fun j => by simp [ofP, isW, Bool.or_assoc, beq_dec])]
  congr 1
  rw [decide_eq_decide]; omega
theorem isW_lt {w : Int} (h : w < 1000) (y : Nd) : isW w y = (y.k == w) := by
  simp only [isW]; rw [if_neg (by omega), if_neg (by omega), if_neg (by omega), if_neg (by omega), if_neg (by omega), if_neg (by omega)]
theorem isW_1004 (y : Nd) : isW 1004 y = (y.k == 66) := by simp [isW]
theorem rows_param (L : List Nd) (i : Int) : rowsP (ofP [66]) L i = ((nd L i).k == 2 && (nd L i).ks.all fun j => inL L j && isW 1004 (nd L j)) :=
  rows_list L 1004 _ (fun j => by rw [of1, isW_1004]) i

theorem kids_1 (L : List Nd) (y : Nd) (h : y.k = 1) : kidsB L y = kidsP L y := by
  obtain ⟨k, x, m, ks, p⟩ := y
  simp only at h
  subst h
  cases ks <;> simp [kidsB, kidsP, exprsB, typesB, declsB, stmtsB, tab, eachP]

theorem kids_10 (L : List Nd) (y : Nd) (h : y.k = 10) : kidsB L y = kidsP L y := by
  obtain ⟨k, x, m, ks, p⟩ := y
  simp only at h
  subst h
  cases ks <;> simp [kidsB, kidsP, exprsB, typesB, declsB, stmtsB, tab, eachP]

theorem kids_11 (L : List Nd) (y : Nd) (h : y.k = 11) : kidsB L y = kidsP L y := by
  obtain ⟨k, x, m, ks, p⟩ := y
  simp only at h
  subst h
  cases ks <;> simp [kidsB, kidsP, exprsB, typesB, declsB, stmtsB, tab, eachP]

theorem kids_13 (L : List Nd) (y : Nd) (h : y.k = 13) : kidsB L y = kidsP L y := by
  obtain ⟨k, x, m, ks, p⟩ := y
  simp only at h
  subst h
  cases ks <;> simp [kidsB, kidsP, exprsB, typesB, declsB, stmtsB, tab, eachP]

theorem kids_14 (L : List Nd) (y : Nd) (h : y.k = 14) : kidsB L y = kidsP L y := by
  obtain ⟨k, x, m, ks, p⟩ := y
  simp only at h
  subst h
  cases ks <;> simp [kidsB, kidsP, exprsB, typesB, declsB, stmtsB, tab, eachP]

theorem kids_15 (L : List Nd) (y : Nd) (h : y.k = 15) : kidsB L y = kidsP L y := by
  obtain ⟨k, x, m, ks, p⟩ := y
  simp only at h
  subst h
  cases ks <;> simp [kidsB, kidsP, exprsB, typesB, declsB, stmtsB, tab, eachP]

theorem kids_16 (L : List Nd) (y : Nd) (h : y.k = 16) : kidsB L y = kidsP L y := by
  obtain ⟨k, x, m, ks, p⟩ := y
  simp only at h
  subst h
  cases ks <;> simp [kidsB, kidsP, exprsB, typesB, declsB, stmtsB, tab, eachP]

theorem kids_18 (L : List Nd) (y : Nd) (h : y.k = 18) : kidsB L y = kidsP L y := by
  obtain ⟨k, x, m, ks, p⟩ := y
  simp only at h
  subst h
  cases ks <;> simp [kidsB, kidsP, exprsB, typesB, declsB, stmtsB, tab, eachP]

theorem kids_17 (L : List Nd) (y : Nd) (h : y.k = 17) : kidsB L y = kidsP L y := by
  obtain ⟨k, x, m, ks, p⟩ := y
  simp only at h
  subst h
  cases ks <;> simp [kidsB, kidsP, exprsB, typesB, declsB, stmtsB, tab, eachP]

theorem kids_32 (L : List Nd) (y : Nd) (h : y.k = 32) : kidsB L y = kidsP L y := by
  obtain ⟨k, x, m, ks, p⟩ := y
  simp only at h
  subst h
  cases ks <;> simp [kidsB, kidsP, exprsB, typesB, declsB, stmtsB, tab, eachP]

theorem kids_58 (L : List Nd) (y : Nd) (h : y.k = 58) : kidsB L y = kidsP L y := by
  obtain ⟨k, x, m, ks, p⟩ := y
  simp only at h
  subst h
  cases ks <;> simp [kidsB, kidsP, exprsB, typesB, declsB, stmtsB, tab, eachP]

theorem kids_59 (L : List Nd) (y : Nd) (h : y.k = 59) : kidsB L y = kidsP L y := by
  obtain ⟨k, x, m, ks, p⟩ := y
  simp only at h
  subst h
  cases ks <;> simp [kidsB, kidsP, exprsB, typesB, declsB, stmtsB, tab, eachP]

theorem kids_65 (L : List Nd) (y : Nd) (h : y.k = 65) : kidsB L y = kidsP L y := by
  obtain ⟨k, x, m, ks, p⟩ := y
  simp only at h
  subst h
  cases ks <;> simp [kidsB, kidsP, exprsB, typesB, declsB, stmtsB, tab, eachP]

theorem kids_67 (L : List Nd) (y : Nd) (h : y.k = 67) : kidsB L y = kidsP L y := by
  obtain ⟨k, x, m, ks, p⟩ := y
  simp only at h
  subst h
  cases ks <;> simp [kidsB, kidsP, exprsB, typesB, declsB, stmtsB, tab, eachP]

theorem kids_81 (L : List Nd) (y : Nd) (h : y.k = 81) : kidsB L y = kidsP L y := by
  obtain ⟨k, x, m, ks, p⟩ := y
  simp only at h
  subst h
  cases ks <;> simp [kidsB, kidsP, exprsB, typesB, declsB, stmtsB, tab, eachP]

theorem kids_82 (L : List Nd) (y : Nd) (h : y.k = 82) : kidsB L y = kidsP L y := by
  obtain ⟨k, x, m, ks, p⟩ := y
  simp only at h
  subst h
  cases ks <;> simp [kidsB, kidsP, exprsB, typesB, declsB, stmtsB, tab, eachP]

theorem kids_3 (L : List Nd) (y : Nd) (h : y.k = 3) : kidsB L y = kidsP L y := by
  obtain ⟨k, x, m, ks, p⟩ := y
  simp only at h
  subst h
  simp [kidsB, kidsP, exprsB, typesB, declsB, stmtsB, tab, eachP_one, eachB]
  refine each_eq L ks (fun y => isW 1002 y || isW 1002 y) (by decide) _ _ (fun j => ?_) (fun j => ?_) <;> simp [isW, ofP, orP, exprP, typeP, stmtP, beq_dec]

theorem kids_63 (L : List Nd) (y : Nd) (h : y.k = 63) : kidsB L y = kidsP L y := by
  obtain ⟨k, x, m, ks, p⟩ := y
  simp only at h
  subst h
  simp [kidsB, kidsP, exprsB, typesB, declsB, stmtsB, tab, eachP_one, eachB]
  refine each_eq L ks (fun y => isW 1002 y || isW 1002 y) (by decide) _ _ (fun j => ?_) (fun j => ?_) <;> simp [isW, ofP, orP, exprP, typeP, stmtP, beq_dec]

theorem kids_19 (L : List Nd) (y : Nd) (h : y.k = 19) : kidsB L y = kidsP L y := by
  obtain ⟨k, x, m, ks, p⟩ := y
  simp only at h
  subst h
  simp [kidsB, kidsP, exprsB, typesB, declsB, stmtsB, tab, eachP_one, eachB]
  refine each_eq L ks (fun y => isW 1000 y || isW 1000 y) (by decide) _ _ (fun j => ?_) (fun j => ?_) <;> simp [isW, ofP, orP, exprP, typeP, stmtP, beq_dec]

theorem kids_20 (L : List Nd) (y : Nd) (h : y.k = 20) : kidsB L y = kidsP L y := by
  obtain ⟨k, x, m, ks, p⟩ := y
  simp only at h
  subst h
  simp [kidsB, kidsP, exprsB, typesB, declsB, stmtsB, tab, eachP_one, eachB]
  refine each_eq L ks (fun y => isW 21 y || isW 21 y) (by decide) _ _ (fun j => ?_) (fun j => ?_) <;> simp [isW, ofP, orP, exprP, typeP, stmtP, beq_dec]

theorem kids_47 (L : List Nd) (y : Nd) (h : y.k = 47) : kidsB L y = kidsP L y := by
  obtain ⟨k, x, m, ks, p⟩ := y
  simp only at h
  subst h
  simp [kidsB, kidsP, exprsB, typesB, declsB, stmtsB, tab, eachP_one, eachB]
  refine each_eq L ks (fun y => isW 48 y || isW 48 y) (by decide) _ _ (fun j => ?_) (fun j => ?_) <;> simp [isW, ofP, orP, exprP, typeP, stmtP, beq_dec]

theorem kids_49 (L : List Nd) (y : Nd) (h : y.k = 49) : kidsB L y = kidsP L y := by
  obtain ⟨k, x, m, ks, p⟩ := y
  simp only at h
  subst h
  simp [kidsB, kidsP, exprsB, typesB, declsB, stmtsB, tab, eachP_one, eachB]
  refine each_eq L ks (fun y => isW 1002 y || isW 50 y) (by decide) _ _ (fun j => ?_) (fun j => ?_) <;> simp [isW, ofP, orP, exprP, typeP, stmtP, beq_dec]

theorem kids_84 (L : List Nd) (y : Nd) (h : y.k = 84) : kidsB L y = kidsP L y := by
  obtain ⟨k, x, m, ks, p⟩ := y
  simp only at h
  subst h
  simp [kidsB, kidsP, exprsB, typesB, declsB, stmtsB, tab, eachP_one, eachB]
  refine each_eq L ks (fun y => isW 85 y || isW 85 y) (by decide) _ _ (fun j => ?_) (fun j => ?_) <;> simp [isW, ofP, orP, exprP, typeP, stmtP, beq_dec]

set_option maxHeartbeats 1000000 in
theorem kids_21 (L : List Nd) (y : Nd) (h : y.k = 21) : kidsB L y = kidsP L y := by
  obtain ⟨k, x, m, ks, p⟩ := y
  simp only at h
  subst h
  by_cases hl : ks.length = 1
  · obtain ⟨a, rfl⟩ := ks_1 hl
    clear hl
    simp [kidsB, kidsP, exprsB, typesB, declsB, stmtsB, functionB, tab, eachP, rowB, rowG, listB, kidB, spot1, rows_plain, rows_type, rows_expr, rows_mem, rows_of]
    rcases in_or L a with ia | ⟨ia, oa⟩
    rotate_left
    · first | (simp [oa, ia, nd0, isW, exprK, typeK, stmtK, namedB, namedIn, expK, ofP]; done) | (rw [oa, ia]; simp [nd0, isW, exprK, typeK, stmtK, namedB, namedIn, expK, ofP]; done)
    simp [ia, isW, ofP, orP, exprP, typeP, stmtP, plainP, spotP, letP, expP, named_path] at *
    (first | done | (rw [Bool.eq_iff_iff]; simp only [beq_dec, Bool.and_eq_true, Bool.or_eq_true, decide_eq_true_eq, Bool.not_eq_true', decide_eq_false_iff_not]; (try grind)))
  · have hl2 : ¬ (1 = ks.length) := fun e => hl e.symm
    simp [kidsB, kidsP, exprsB, typesB, declsB, stmtsB, functionB, tab, rowB, hl, hl2]

set_option maxHeartbeats 1000000 in
theorem kids_23 (L : List Nd) (y : Nd) (h : y.k = 23) : kidsB L y = kidsP L y := by
  obtain ⟨k, x, m, ks, p⟩ := y
  simp only at h
  subst h
  by_cases hl : ks.length = 1
  · obtain ⟨a, rfl⟩ := ks_1 hl
    clear hl
    simp [kidsB, kidsP, exprsB, typesB, declsB, stmtsB, functionB, tab, eachP, rowB, rowG, listB, kidB, spot1, rows_plain, rows_type, rows_expr, rows_mem, rows_of]
    rcases in_or L a with ia | ⟨ia, oa⟩
    rotate_left
    · first | (simp [oa, ia, nd0, isW, exprK, typeK, stmtK, namedB, namedIn, expK, ofP]; done) | (rw [oa, ia]; simp [nd0, isW, exprK, typeK, stmtK, namedB, namedIn, expK, ofP]; done)
    simp [ia, isW, ofP, orP, exprP, typeP, stmtP, plainP, spotP, letP, expP, named_path] at *
    (first | done | (rw [Bool.eq_iff_iff]; simp only [beq_dec, Bool.and_eq_true, Bool.or_eq_true, decide_eq_true_eq, Bool.not_eq_true', decide_eq_false_iff_not]; (try grind)))
  · have hl2 : ¬ (1 = ks.length) := fun e => hl e.symm
    simp [kidsB, kidsP, exprsB, typesB, declsB, stmtsB, functionB, tab, rowB, hl, hl2]

set_option maxHeartbeats 1000000 in
theorem kids_29 (L : List Nd) (y : Nd) (h : y.k = 29) : kidsB L y = kidsP L y := by
  obtain ⟨k, x, m, ks, p⟩ := y
  simp only at h
  subst h
  by_cases hl : ks.length = 1
  · obtain ⟨a, rfl⟩ := ks_1 hl
    clear hl
    simp [kidsB, kidsP, exprsB, typesB, declsB, stmtsB, functionB, tab, eachP, rowB, rowG, listB, kidB, spot1, rows_plain, rows_type, rows_expr, rows_mem, rows_of]
    rcases in_or L a with ia | ⟨ia, oa⟩
    rotate_left
    · first | (simp [oa, ia, nd0, isW, exprK, typeK, stmtK, namedB, namedIn, expK, ofP]; done) | (rw [oa, ia]; simp [nd0, isW, exprK, typeK, stmtK, namedB, namedIn, expK, ofP]; done)
    simp [ia, isW, ofP, orP, exprP, typeP, stmtP, plainP, spotP, letP, expP, named_path] at *
    (first | done | (rw [Bool.eq_iff_iff]; simp only [beq_dec, Bool.and_eq_true, Bool.or_eq_true, decide_eq_true_eq, Bool.not_eq_true', decide_eq_false_iff_not]; (try grind)))
  · have hl2 : ¬ (1 = ks.length) := fun e => hl e.symm
    simp [kidsB, kidsP, exprsB, typesB, declsB, stmtsB, functionB, tab, rowB, hl, hl2]

set_option maxHeartbeats 1000000 in
theorem kids_34 (L : List Nd) (y : Nd) (h : y.k = 34) : kidsB L y = kidsP L y := by
  obtain ⟨k, x, m, ks, p⟩ := y
  simp only at h
  subst h
  by_cases hl : ks.length = 1
  · obtain ⟨a, rfl⟩ := ks_1 hl
    clear hl
    simp [kidsB, kidsP, exprsB, typesB, declsB, stmtsB, functionB, tab, eachP, rowB, rowG, listB, kidB, spot1, rows_plain, rows_type, rows_expr, rows_mem, rows_of]
    rcases in_or L a with ia | ⟨ia, oa⟩
    rotate_left
    · first | (simp [oa, ia, nd0, isW, exprK, typeK, stmtK, namedB, namedIn, expK, ofP]; done) | (rw [oa, ia]; simp [nd0, isW, exprK, typeK, stmtK, namedB, namedIn, expK, ofP]; done)
    simp [ia, isW, ofP, orP, exprP, typeP, stmtP, plainP, spotP, letP, expP, named_path] at *
    (first | done | (rw [Bool.eq_iff_iff]; simp only [beq_dec, Bool.and_eq_true, Bool.or_eq_true, decide_eq_true_eq, Bool.not_eq_true', decide_eq_false_iff_not]; (try grind)))
  · have hl2 : ¬ (1 = ks.length) := fun e => hl e.symm
    simp [kidsB, kidsP, exprsB, typesB, declsB, stmtsB, functionB, tab, rowB, hl, hl2]

set_option maxHeartbeats 1000000 in
theorem kids_60 (L : List Nd) (y : Nd) (h : y.k = 60) : kidsB L y = kidsP L y := by
  obtain ⟨k, x, m, ks, p⟩ := y
  simp only at h
  subst h
  by_cases hl : ks.length = 1
  · obtain ⟨a, rfl⟩ := ks_1 hl
    clear hl
    simp [kidsB, kidsP, exprsB, typesB, declsB, stmtsB, functionB, tab, eachP, rowB, rowG, listB, kidB, spot1, rows_plain, rows_type, rows_expr, rows_mem, rows_of]
    rcases in_or L a with ia | ⟨ia, oa⟩
    rotate_left
    · first | (simp [oa, ia, nd0, isW, exprK, typeK, stmtK, namedB, namedIn, expK, ofP]; done) | (rw [oa, ia]; simp [nd0, isW, exprK, typeK, stmtK, namedB, namedIn, expK, ofP]; done)
    simp [ia, isW, ofP, orP, exprP, typeP, stmtP, plainP, spotP, letP, expP, named_path] at *
    (first | done | (rw [Bool.eq_iff_iff]; simp only [beq_dec, Bool.and_eq_true, Bool.or_eq_true, decide_eq_true_eq, Bool.not_eq_true', decide_eq_false_iff_not]; (try grind)))
  · have hl2 : ¬ (1 = ks.length) := fun e => hl e.symm
    simp [kidsB, kidsP, exprsB, typesB, declsB, stmtsB, functionB, tab, rowB, hl, hl2]

set_option maxHeartbeats 1000000 in
theorem kids_64 (L : List Nd) (y : Nd) (h : y.k = 64) : kidsB L y = kidsP L y := by
  obtain ⟨k, x, m, ks, p⟩ := y
  simp only at h
  subst h
  by_cases hl : ks.length = 1
  · obtain ⟨a, rfl⟩ := ks_1 hl
    clear hl
    simp [kidsB, kidsP, exprsB, typesB, declsB, stmtsB, functionB, tab, eachP, rowB, rowG, listB, kidB, spot1, rows_plain, rows_type, rows_expr, rows_mem, rows_of]
    rcases in_or L a with ia | ⟨ia, oa⟩
    rotate_left
    · first | (simp [oa, ia, nd0, isW, exprK, typeK, stmtK, namedB, namedIn, expK, ofP]; done) | (rw [oa, ia]; simp [nd0, isW, exprK, typeK, stmtK, namedB, namedIn, expK, ofP]; done)
    simp [ia, isW, ofP, orP, exprP, typeP, stmtP, plainP, spotP, letP, expP, named_path] at *
    (first | done | (rw [Bool.eq_iff_iff]; simp only [beq_dec, Bool.and_eq_true, Bool.or_eq_true, decide_eq_true_eq, Bool.not_eq_true', decide_eq_false_iff_not]; (try grind)))
  · have hl2 : ¬ (1 = ks.length) := fun e => hl e.symm
    simp [kidsB, kidsP, exprsB, typesB, declsB, stmtsB, functionB, tab, rowB, hl, hl2]

set_option maxHeartbeats 1000000 in
theorem kids_22 (L : List Nd) (y : Nd) (h : y.k = 22) : kidsB L y = kidsP L y := by
  obtain ⟨k, x, m, ks, p⟩ := y
  simp only at h
  subst h
  by_cases hl : ks.length = 3
  · obtain ⟨a, b, c, rfl⟩ := ks_3 hl
    clear hl
    simp [kidsB, kidsP, exprsB, typesB, declsB, stmtsB, functionB, tab, eachP, rowB, rowG, listB, kidB, spot1, rows_plain, rows_type, rows_expr, rows_mem, rows_of]
    rcases in_or L a with ia | ⟨ia, oa⟩
    rotate_left
    · first | (simp [oa, ia, nd0, isW, exprK, typeK, stmtK, namedB, namedIn, expK, ofP]; done) | (rw [oa, ia]; simp [nd0, isW, exprK, typeK, stmtK, namedB, namedIn, expK, ofP]; done)
    rcases in_or L b with ib | ⟨ib, ob⟩
    rotate_left
    · first | (simp [ob, ib, nd0, isW, exprK, typeK, stmtK, namedB, namedIn, expK, ofP]; done) | (rw [ob, ib]; simp [nd0, isW, exprK, typeK, stmtK, namedB, namedIn, expK, ofP]; done)
    rcases in_or L c with ic | ⟨ic, oc⟩
    rotate_left
    · first | (simp [oc, ic, nd0, isW, exprK, typeK, stmtK, namedB, namedIn, expK, ofP]; done) | (rw [oc, ic]; simp [nd0, isW, exprK, typeK, stmtK, namedB, namedIn, expK, ofP]; done)
    simp [ia, ib, ic, isW, ofP, orP, exprP, typeP, stmtP, plainP, spotP, letP, expP, named_path] at *
    (first | done | (rw [Bool.eq_iff_iff]; simp only [beq_dec, Bool.and_eq_true, Bool.or_eq_true, decide_eq_true_eq, Bool.not_eq_true', decide_eq_false_iff_not]; (try grind)))
  · have hl2 : ¬ (3 = ks.length) := fun e => hl e.symm
    simp [kidsB, kidsP, exprsB, typesB, declsB, stmtsB, functionB, tab, rowB, hl, hl2]

set_option maxHeartbeats 1000000 in
theorem kids_24 (L : List Nd) (y : Nd) (h : y.k = 24) : kidsB L y = kidsP L y := by
  obtain ⟨k, x, m, ks, p⟩ := y
  simp only at h
  subst h
  by_cases hl : ks.length = 2
  · obtain ⟨a, b, rfl⟩ := ks_2 hl
    clear hl
    simp [kidsB, kidsP, exprsB, typesB, declsB, stmtsB, functionB, tab, eachP, rowB, rowG, listB, kidB, spot1, rows_plain, rows_type, rows_expr, rows_mem, rows_of]
    rcases in_or L a with ia | ⟨ia, oa⟩
    rotate_left
    · first | (simp [oa, ia, nd0, isW, exprK, typeK, stmtK, namedB, namedIn, expK, ofP]; done) | (rw [oa, ia]; simp [nd0, isW, exprK, typeK, stmtK, namedB, namedIn, expK, ofP]; done)
    rcases in_or L b with ib | ⟨ib, ob⟩
    rotate_left
    · first | (simp [ob, ib, nd0, isW, exprK, typeK, stmtK, namedB, namedIn, expK, ofP]; done) | (rw [ob, ib]; simp [nd0, isW, exprK, typeK, stmtK, namedB, namedIn, expK, ofP]; done)
    simp [ia, ib, isW, ofP, orP, exprP, typeP, stmtP, plainP, spotP, letP, expP, named_path] at *
    (first | done | (rw [Bool.eq_iff_iff]; simp only [beq_dec, Bool.and_eq_true, Bool.or_eq_true, decide_eq_true_eq, Bool.not_eq_true', decide_eq_false_iff_not]; (try grind)))
  · have hl2 : ¬ (2 = ks.length) := fun e => hl e.symm
    simp [kidsB, kidsP, exprsB, typesB, declsB, stmtsB, functionB, tab, rowB, hl, hl2]

set_option maxHeartbeats 1000000 in
theorem kids_30 (L : List Nd) (y : Nd) (h : y.k = 30) : kidsB L y = kidsP L y := by
  obtain ⟨k, x, m, ks, p⟩ := y
  simp only at h
  subst h
  by_cases hl : ks.length = 2
  · obtain ⟨a, b, rfl⟩ := ks_2 hl
    clear hl
    simp [kidsB, kidsP, exprsB, typesB, declsB, stmtsB, functionB, tab, eachP, rowB, rowG, listB, kidB, spot1, rows_plain, rows_type, rows_expr, rows_mem, rows_of]
    rcases in_or L a with ia | ⟨ia, oa⟩
    rotate_left
    · first | (simp [oa, ia, nd0, isW, exprK, typeK, stmtK, namedB, namedIn, expK, ofP]; done) | (rw [oa, ia]; simp [nd0, isW, exprK, typeK, stmtK, namedB, namedIn, expK, ofP]; done)
    rcases in_or L b with ib | ⟨ib, ob⟩
    rotate_left
    · first | (simp [ob, ib, nd0, isW, exprK, typeK, stmtK, namedB, namedIn, expK, ofP]; done) | (rw [ob, ib]; simp [nd0, isW, exprK, typeK, stmtK, namedB, namedIn, expK, ofP]; done)
    simp [ia, ib, isW, ofP, orP, exprP, typeP, stmtP, plainP, spotP, letP, expP, named_path] at *
    (first | done | (rw [Bool.eq_iff_iff]; simp only [beq_dec, Bool.and_eq_true, Bool.or_eq_true, decide_eq_true_eq, Bool.not_eq_true', decide_eq_false_iff_not]; (try grind)))
  · have hl2 : ¬ (2 = ks.length) := fun e => hl e.symm
    simp [kidsB, kidsP, exprsB, typesB, declsB, stmtsB, functionB, tab, rowB, hl, hl2]

set_option maxHeartbeats 1000000 in
theorem kids_25 (L : List Nd) (y : Nd) (h : y.k = 25) : kidsB L y = kidsP L y := by
  obtain ⟨k, x, m, ks, p⟩ := y
  simp only at h
  subst h
  by_cases hl : ks.length = 3
  · obtain ⟨a, b, c, rfl⟩ := ks_3 hl
    clear hl
    simp [kidsB, kidsP, exprsB, typesB, declsB, stmtsB, functionB, tab, eachP, rowB, rowG, listB, kidB, spot1, rows_plain, rows_type, rows_expr, rows_mem, rows_of]
    rcases in_or L a with ia | ⟨ia, oa⟩
    rotate_left
    · first | (simp [oa, ia, nd0, isW, exprK, typeK, stmtK, namedB, namedIn, expK, ofP]; done) | (rw [oa, ia]; simp [nd0, isW, exprK, typeK, stmtK, namedB, namedIn, expK, ofP]; done)
    rcases in_or L b with ib | ⟨ib, ob⟩
    rotate_left
    · first | (simp [ob, ib, nd0, isW, exprK, typeK, stmtK, namedB, namedIn, expK, ofP]; done) | (rw [ob, ib]; simp [nd0, isW, exprK, typeK, stmtK, namedB, namedIn, expK, ofP]; done)
    rcases in_or L c with ic | ⟨ic, oc⟩
    rotate_left
    · first | (simp [oc, ic, nd0, isW, exprK, typeK, stmtK, namedB, namedIn, expK, ofP]; done) | (rw [oc, ic]; simp [nd0, isW, exprK, typeK, stmtK, namedB, namedIn, expK, ofP]; done)
    simp [ia, ib, ic, isW, ofP, orP, exprP, typeP, stmtP, plainP, spotP, letP, expP, named_path] at *
    (first | done | (rw [Bool.eq_iff_iff]; simp only [beq_dec, Bool.and_eq_true, Bool.or_eq_true, decide_eq_true_eq, Bool.not_eq_true', decide_eq_false_iff_not]; (try grind)))
  · have hl2 : ¬ (3 = ks.length) := fun e => hl e.symm
    simp [kidsB, kidsP, exprsB, typesB, declsB, stmtsB, functionB, tab, rowB, hl, hl2]

set_option maxHeartbeats 1000000 in
theorem kids_26 (L : List Nd) (y : Nd) (h : y.k = 26) : kidsB L y = kidsP L y := by
  obtain ⟨k, x, m, ks, p⟩ := y
  simp only at h
  subst h
  by_cases hl : ks.length = 2
  · obtain ⟨a, b, rfl⟩ := ks_2 hl
    clear hl
    simp [kidsB, kidsP, exprsB, typesB, declsB, stmtsB, functionB, tab, eachP, rowB, rowG, listB, kidB, spot1, rows_plain, rows_type, rows_expr, rows_mem, rows_of]
    rcases in_or L a with ia | ⟨ia, oa⟩
    rotate_left
    · first | (simp [oa, ia, nd0, isW, exprK, typeK, stmtK, namedB, namedIn, expK, ofP]; done) | (rw [oa, ia]; simp [nd0, isW, exprK, typeK, stmtK, namedB, namedIn, expK, ofP]; done)
    rcases in_or L b with ib | ⟨ib, ob⟩
    rotate_left
    · first | (simp [ob, ib, nd0, isW, exprK, typeK, stmtK, namedB, namedIn, expK, ofP]; done) | (rw [ob, ib]; simp [nd0, isW, exprK, typeK, stmtK, namedB, namedIn, expK, ofP]; done)
    simp [ia, ib, isW, ofP, orP, exprP, typeP, stmtP, plainP, spotP, letP, expP, named_path] at *
    (rw [Bool.eq_iff_iff]; simp only [exprK, beq_dec, Bool.and_eq_true, Bool.or_eq_true, decide_eq_true_eq, Bool.not_eq_true', decide_eq_false_iff_not]; omega)
  · have hl2 : ¬ (2 = ks.length) := fun e => hl e.symm
    simp [kidsB, kidsP, exprsB, typesB, declsB, stmtsB, functionB, tab, rowB, hl, hl2]

set_option maxHeartbeats 1000000 in
theorem kids_27 (L : List Nd) (y : Nd) (h : y.k = 27) : kidsB L y = kidsP L y := by
  obtain ⟨k, x, m, ks, p⟩ := y
  simp only at h
  subst h
  by_cases hl : ks.length = 3
  · obtain ⟨a, b, c, rfl⟩ := ks_3 hl
    clear hl
    simp [kidsB, kidsP, exprsB, typesB, declsB, stmtsB, functionB, tab, eachP, rowB, rowG, listB, kidB, spot1, rows_plain, rows_type, rows_expr, rows_mem, rows_of]
    rcases in_or L a with ia | ⟨ia, oa⟩
    rotate_left
    · first | (simp [oa, ia, nd0, isW, exprK, typeK, stmtK, namedB, namedIn, expK, ofP]; done) | (rw [oa, ia]; simp [nd0, isW, exprK, typeK, stmtK, namedB, namedIn, expK, ofP]; done)
    rcases in_or L b with ib | ⟨ib, ob⟩
    rotate_left
    · first | (simp [ob, ib, nd0, isW, exprK, typeK, stmtK, namedB, namedIn, expK, ofP]; done) | (rw [ob, ib]; simp [nd0, isW, exprK, typeK, stmtK, namedB, namedIn, expK, ofP]; done)
    rcases in_or L c with ic | ⟨ic, oc⟩
    rotate_left
    · first | (simp [oc, ic, nd0, isW, exprK, typeK, stmtK, namedB, namedIn, expK, ofP]; done) | (rw [oc, ic]; simp [nd0, isW, exprK, typeK, stmtK, namedB, namedIn, expK, ofP]; done)
    simp [ia, ib, ic, isW, ofP, orP, exprP, typeP, stmtP, plainP, spotP, letP, expP, named_path] at *
    (first | done | (rw [Bool.eq_iff_iff]; simp only [beq_dec, Bool.and_eq_true, Bool.or_eq_true, decide_eq_true_eq, Bool.not_eq_true', decide_eq_false_iff_not]; (try grind)))
  · have hl2 : ¬ (3 = ks.length) := fun e => hl e.symm
    simp [kidsB, kidsP, exprsB, typesB, declsB, stmtsB, functionB, tab, rowB, hl, hl2]

set_option maxHeartbeats 1000000 in
theorem kids_28 (L : List Nd) (y : Nd) (h : y.k = 28) : kidsB L y = kidsP L y := by
  obtain ⟨k, x, m, ks, p⟩ := y
  simp only at h
  subst h
  by_cases hl : ks.length = 3
  · obtain ⟨a, b, c, rfl⟩ := ks_3 hl
    clear hl
    simp [kidsB, kidsP, exprsB, typesB, declsB, stmtsB, functionB, tab, eachP, rowB, rowG, listB, kidB, spot1, rows_plain, rows_type, rows_expr, rows_mem, rows_of]
    rcases in_or L a with ia | ⟨ia, oa⟩
    rotate_left
    · first | (simp [oa, ia, nd0, isW, exprK, typeK, stmtK, namedB, namedIn, expK, ofP]; done) | (rw [oa, ia]; simp [nd0, isW, exprK, typeK, stmtK, namedB, namedIn, expK, ofP]; done)
    rcases in_or L b with ib | ⟨ib, ob⟩
    rotate_left
    · first | (simp [ob, ib, nd0, isW, exprK, typeK, stmtK, namedB, namedIn, expK, ofP]; done) | (rw [ob, ib]; simp [nd0, isW, exprK, typeK, stmtK, namedB, namedIn, expK, ofP]; done)
    rcases in_or L c with ic | ⟨ic, oc⟩
    rotate_left
    · first | (simp [oc, ic, nd0, isW, exprK, typeK, stmtK, namedB, namedIn, expK, ofP]; done) | (rw [oc, ic]; simp [nd0, isW, exprK, typeK, stmtK, namedB, namedIn, expK, ofP]; done)
    have hpe := path_expr ia
    simp [ia, ib, ic, isW, ofP, orP, exprP, typeP, stmtP, plainP, spotP, letP, expP, named_path] at *
    (rw [Bool.eq_iff_iff]; simp only [beq_dec, Bool.and_eq_true, Bool.or_eq_true, decide_eq_true_eq]; grind)
  · have hl2 : ¬ (3 = ks.length) := fun e => hl e.symm
    simp [kidsB, kidsP, exprsB, typesB, declsB, stmtsB, functionB, tab, rowB, hl, hl2]

set_option maxHeartbeats 1000000 in
theorem kids_31 (L : List Nd) (y : Nd) (h : y.k = 31) : kidsB L y = kidsP L y := by
  obtain ⟨k, x, m, ks, p⟩ := y
  simp only at h
  subst h
  by_cases hl : ks.length = 1
  · obtain ⟨a, rfl⟩ := ks_1 hl
    clear hl
    simp [kidsB, kidsP, exprsB, typesB, declsB, stmtsB, functionB, tab, eachP, rowB, rowG, listB, kidB, spot1, rows_plain, rows_type, rows_expr, rows_mem, rows_of]
    rcases in_or L a with ia | ⟨ia, oa⟩
    rotate_left
    · first | (simp [oa, ia, nd0, isW, exprK, typeK, stmtK, namedB, namedIn, expK, ofP]; done) | (rw [oa, ia]; simp [nd0, isW, exprK, typeK, stmtK, namedB, namedIn, expK, ofP]; done)
    simp [ia, isW, ofP, orP, exprP, typeP, stmtP, plainP, spotP, letP, expP, named_path] at *
    (first | done | (rw [Bool.eq_iff_iff]; simp only [beq_dec, Bool.and_eq_true, Bool.or_eq_true, decide_eq_true_eq, Bool.not_eq_true', decide_eq_false_iff_not]; (try grind)))
  · have hl2 : ¬ (1 = ks.length) := fun e => hl e.symm
    simp [kidsB, kidsP, exprsB, typesB, declsB, stmtsB, functionB, tab, rowB, hl, hl2]

set_option maxHeartbeats 1000000 in
theorem kids_33 (L : List Nd) (y : Nd) (h : y.k = 33) : kidsB L y = kidsP L y := by
  obtain ⟨k, x, m, ks, p⟩ := y
  simp only at h
  subst h
  by_cases hl : ks.length = 2
  · obtain ⟨a, b, rfl⟩ := ks_2 hl
    clear hl
    simp [kidsB, kidsP, exprsB, typesB, declsB, stmtsB, functionB, tab, eachP, rowB, rowG, listB, kidB, spot1, rows_plain, rows_type, rows_expr, rows_mem, rows_of]
    rcases in_or L a with ia | ⟨ia, oa⟩
    rotate_left
    · first | (simp [oa, ia, nd0, isW, exprK, typeK, stmtK, namedB, namedIn, expK, ofP]; done) | (rw [oa, ia]; simp [nd0, isW, exprK, typeK, stmtK, namedB, namedIn, expK, ofP]; done)
    rcases in_or L b with ib | ⟨ib, ob⟩
    rotate_left
    · first | (simp [ob, ib, nd0, isW, exprK, typeK, stmtK, namedB, namedIn, expK, ofP]; done) | (rw [ob, ib]; simp [nd0, isW, exprK, typeK, stmtK, namedB, namedIn, expK, ofP]; done)
    simp [ia, ib, isW, ofP, orP, exprP, typeP, stmtP, plainP, spotP, letP, expP, named_path] at *
    (first | done | (rw [Bool.eq_iff_iff]; simp only [beq_dec, Bool.and_eq_true, Bool.or_eq_true, decide_eq_true_eq, Bool.not_eq_true', decide_eq_false_iff_not]; (try grind)))
  · have hl2 : ¬ (2 = ks.length) := fun e => hl e.symm
    simp [kidsB, kidsP, exprsB, typesB, declsB, stmtsB, functionB, tab, rowB, hl, hl2]

set_option maxHeartbeats 1000000 in
theorem kids_40 (L : List Nd) (y : Nd) (h : y.k = 40) : kidsB L y = kidsP L y := by
  obtain ⟨k, x, m, ks, p⟩ := y
  simp only at h
  subst h
  by_cases hl : ks.length = 2
  · obtain ⟨a, b, rfl⟩ := ks_2 hl
    clear hl
    simp [kidsB, kidsP, exprsB, typesB, declsB, stmtsB, functionB, tab, eachP, rowB, rowG, listB, kidB, spot1, rows_plain, rows_type, rows_expr, rows_mem, rows_of]
    rcases in_or L a with ia | ⟨ia, oa⟩
    rotate_left
    · first | (simp [oa, ia, nd0, isW, exprK, typeK, stmtK, namedB, namedIn, expK, ofP]; done) | (rw [oa, ia]; simp [nd0, isW, exprK, typeK, stmtK, namedB, namedIn, expK, ofP]; done)
    rcases in_or L b with ib | ⟨ib, ob⟩
    rotate_left
    · first | (simp [ob, ib, nd0, isW, exprK, typeK, stmtK, namedB, namedIn, expK, ofP]; done) | (rw [ob, ib]; simp [nd0, isW, exprK, typeK, stmtK, namedB, namedIn, expK, ofP]; done)
    simp [ia, ib, isW, ofP, orP, exprP, typeP, stmtP, plainP, spotP, letP, expP, named_path] at *
    (first | done | (rw [Bool.eq_iff_iff]; simp only [beq_dec, Bool.and_eq_true, Bool.or_eq_true, decide_eq_true_eq, Bool.not_eq_true', decide_eq_false_iff_not]; (try grind)))
  · have hl2 : ¬ (2 = ks.length) := fun e => hl e.symm
    simp [kidsB, kidsP, exprsB, typesB, declsB, stmtsB, functionB, tab, rowB, hl, hl2]

set_option maxHeartbeats 1000000 in
theorem kids_41 (L : List Nd) (y : Nd) (h : y.k = 41) : kidsB L y = kidsP L y := by
  obtain ⟨k, x, m, ks, p⟩ := y
  simp only at h
  subst h
  by_cases hl : ks.length = 4
  · obtain ⟨a, b, c, d, rfl⟩ := ks_4 hl
    clear hl
    simp [kidsB, kidsP, exprsB, typesB, declsB, stmtsB, functionB, tab, eachP, rowB, rowG, listB, kidB, spot1, rows_plain, rows_type, rows_expr, rows_mem, rows_of]
    rcases in_or L a with ia | ⟨ia, oa⟩
    rotate_left
    · first | (simp [oa, ia, nd0, isW, exprK, typeK, stmtK, namedB, namedIn, expK, ofP]; done) | (rw [oa, ia]; simp [nd0, isW, exprK, typeK, stmtK, namedB, namedIn, expK, ofP]; done)
    rcases in_or L b with ib | ⟨ib, ob⟩
    rotate_left
    · first | (simp [ob, ib, nd0, isW, exprK, typeK, stmtK, namedB, namedIn, expK, ofP]; done) | (rw [ob, ib]; simp [nd0, isW, exprK, typeK, stmtK, namedB, namedIn, expK, ofP]; done)
    rcases in_or L c with ic | ⟨ic, oc⟩
    rotate_left
    · first | (simp [oc, ic, nd0, isW, exprK, typeK, stmtK, namedB, namedIn, expK, ofP]; done) | (rw [oc, ic]; simp [nd0, isW, exprK, typeK, stmtK, namedB, namedIn, expK, ofP]; done)
    rcases in_or L d with id | ⟨id, od⟩
    rotate_left
    · first | (simp [od, id, nd0, isW, exprK, typeK, stmtK, namedB, namedIn, expK, ofP]; done) | (rw [od, id]; simp [nd0, isW, exprK, typeK, stmtK, namedB, namedIn, expK, ofP]; done)
    simp [ia, ib, ic, id, isW, ofP, orP, exprP, typeP, stmtP, plainP, spotP, letP, expP, named_path] at *
    (first | done | (rw [Bool.eq_iff_iff]; simp only [beq_dec, Bool.and_eq_true, Bool.or_eq_true, decide_eq_true_eq, Bool.not_eq_true', decide_eq_false_iff_not]; (try grind)))
  · have hl2 : ¬ (4 = ks.length) := fun e => hl e.symm
    simp [kidsB, kidsP, exprsB, typesB, declsB, stmtsB, functionB, tab, rowB, hl, hl2]

set_option maxHeartbeats 1000000 in
theorem kids_45 (L : List Nd) (y : Nd) (h : y.k = 45) : kidsB L y = kidsP L y := by
  obtain ⟨k, x, m, ks, p⟩ := y
  simp only at h
  subst h
  by_cases hl : ks.length = 4
  · obtain ⟨a, b, c, d, rfl⟩ := ks_4 hl
    clear hl
    simp [kidsB, kidsP, exprsB, typesB, declsB, stmtsB, functionB, tab, eachP, rowB, rowG, listB, kidB, spot1, rows_plain, rows_type, rows_expr, rows_mem, rows_of]
    rcases in_or L a with ia | ⟨ia, oa⟩
    rotate_left
    · first | (simp [oa, ia, nd0, isW, exprK, typeK, stmtK, namedB, namedIn, expK, ofP]; done) | (rw [oa, ia]; simp [nd0, isW, exprK, typeK, stmtK, namedB, namedIn, expK, ofP]; done)
    rcases in_or L b with ib | ⟨ib, ob⟩
    rotate_left
    · first | (simp [ob, ib, nd0, isW, exprK, typeK, stmtK, namedB, namedIn, expK, ofP]; done) | (rw [ob, ib]; simp [nd0, isW, exprK, typeK, stmtK, namedB, namedIn, expK, ofP]; done)
    rcases in_or L c with ic | ⟨ic, oc⟩
    rotate_left
    · first | (simp [oc, ic, nd0, isW, exprK, typeK, stmtK, namedB, namedIn, expK, ofP]; done) | (rw [oc, ic]; simp [nd0, isW, exprK, typeK, stmtK, namedB, namedIn, expK, ofP]; done)
    rcases in_or L d with id | ⟨id, od⟩
    rotate_left
    · first | (simp [od, id, nd0, isW, exprK, typeK, stmtK, namedB, namedIn, expK, ofP]; done) | (rw [od, id]; simp [nd0, isW, exprK, typeK, stmtK, namedB, namedIn, expK, ofP]; done)
    simp [ia, ib, ic, id, isW, ofP, orP, exprP, typeP, stmtP, plainP, spotP, letP, expP, named_path] at *
    (first | done | (rw [Bool.eq_iff_iff]; simp only [beq_dec, Bool.and_eq_true, Bool.or_eq_true, decide_eq_true_eq, Bool.not_eq_true', decide_eq_false_iff_not]; (try grind)))
  · have hl2 : ¬ (4 = ks.length) := fun e => hl e.symm
    simp [kidsB, kidsP, exprsB, typesB, declsB, stmtsB, functionB, tab, rowB, hl, hl2]

set_option maxHeartbeats 1000000 in
theorem kids_42 (L : List Nd) (y : Nd) (h : y.k = 42) : kidsB L y = kidsP L y := by
  obtain ⟨k, x, m, ks, p⟩ := y
  simp only at h
  subst h
  by_cases hl : ks.length = 4
  · obtain ⟨a, b, c, d, rfl⟩ := ks_4 hl
    clear hl
    simp [kidsB, kidsP, exprsB, typesB, declsB, stmtsB, functionB, tab, eachP, rowB, rowG, listB, kidB, spot1, rows_plain, rows_type, rows_expr, rows_mem, rows_of]
    rcases in_or L a with ia | ⟨ia, oa⟩
    rotate_left
    · first | (simp [oa, ia, nd0, isW, exprK, typeK, stmtK, namedB, namedIn, expK, ofP]; done) | (rw [oa, ia]; simp [nd0, isW, exprK, typeK, stmtK, namedB, namedIn, expK, ofP]; done)
    rcases in_or L b with ib | ⟨ib, ob⟩
    rotate_left
    · first | (simp [ob, ib, nd0, isW, exprK, typeK, stmtK, namedB, namedIn, expK, ofP]; done) | (rw [ob, ib]; simp [nd0, isW, exprK, typeK, stmtK, namedB, namedIn, expK, ofP]; done)
    rcases in_or L c with ic | ⟨ic, oc⟩
    rotate_left
    · first | (simp [oc, ic, nd0, isW, exprK, typeK, stmtK, namedB, namedIn, expK, ofP]; done) | (rw [oc, ic]; simp [nd0, isW, exprK, typeK, stmtK, namedB, namedIn, expK, ofP]; done)
    rcases in_or L d with id | ⟨id, od⟩
    rotate_left
    · first | (simp [od, id, nd0, isW, exprK, typeK, stmtK, namedB, namedIn, expK, ofP]; done) | (rw [od, id]; simp [nd0, isW, exprK, typeK, stmtK, namedB, namedIn, expK, ofP]; done)
    simp [ia, ib, ic, id, isW, ofP, orP, exprP, typeP, stmtP, plainP, spotP, letP, expP, named_path] at *
    (first | done | (rw [Bool.eq_iff_iff]; simp only [beq_dec, Bool.and_eq_true, Bool.or_eq_true, decide_eq_true_eq, Bool.not_eq_true', decide_eq_false_iff_not]; (try grind)))
  · have hl2 : ¬ (4 = ks.length) := fun e => hl e.symm
    simp [kidsB, kidsP, exprsB, typesB, declsB, stmtsB, functionB, tab, rowB, hl, hl2]

set_option maxHeartbeats 1000000 in
theorem kids_43 (L : List Nd) (y : Nd) (h : y.k = 43) : kidsB L y = kidsP L y := by
  obtain ⟨k, x, m, ks, p⟩ := y
  simp only at h
  subst h
  by_cases hl : ks.length = 1
  · obtain ⟨a, rfl⟩ := ks_1 hl
    clear hl
    simp [kidsB, kidsP, exprsB, typesB, declsB, stmtsB, functionB, tab, eachP, rowB, rowG, listB, kidB, spot1, rows_plain, rows_type, rows_expr, rows_mem, rows_of]
    rcases in_or L a with ia | ⟨ia, oa⟩
    rotate_left
    · first | (simp [oa, ia, nd0, isW, exprK, typeK, stmtK, namedB, namedIn, expK, ofP]; done) | (rw [oa, ia]; simp [nd0, isW, exprK, typeK, stmtK, namedB, namedIn, expK, ofP]; done)
    simp [ia, isW, ofP, orP, exprP, typeP, stmtP, plainP, spotP, letP, expP, named_path] at *
    (first | done | (rw [Bool.eq_iff_iff]; simp only [beq_dec, Bool.and_eq_true, Bool.or_eq_true, decide_eq_true_eq, Bool.not_eq_true', decide_eq_false_iff_not]; (try grind)))
  · have hl2 : ¬ (1 = ks.length) := fun e => hl e.symm
    simp [kidsB, kidsP, exprsB, typesB, declsB, stmtsB, functionB, tab, rowB, hl, hl2]

set_option maxHeartbeats 1000000 in
theorem kids_80 (L : List Nd) (y : Nd) (h : y.k = 80) : kidsB L y = kidsP L y := by
  obtain ⟨k, x, m, ks, p⟩ := y
  simp only at h
  subst h
  by_cases hl : ks.length = 1
  · obtain ⟨a, rfl⟩ := ks_1 hl
    clear hl
    simp [kidsB, kidsP, exprsB, typesB, declsB, stmtsB, functionB, tab, eachP, rowB, rowG, listB, kidB, spot1, rows_plain, rows_type, rows_expr, rows_mem, rows_of]
    rcases in_or L a with ia | ⟨ia, oa⟩
    rotate_left
    · first | (simp [oa, ia, nd0, isW, exprK, typeK, stmtK, namedB, namedIn, expK, ofP]; done) | (rw [oa, ia]; simp [nd0, isW, exprK, typeK, stmtK, namedB, namedIn, expK, ofP]; done)
    simp [ia, isW, ofP, orP, exprP, typeP, stmtP, plainP, spotP, letP, expP, named_path] at *
    (first | done | (rw [Bool.eq_iff_iff]; simp only [beq_dec, Bool.and_eq_true, Bool.or_eq_true, decide_eq_true_eq, Bool.not_eq_true', decide_eq_false_iff_not]; (try grind)))
  · have hl2 : ¬ (1 = ks.length) := fun e => hl e.symm
    simp [kidsB, kidsP, exprsB, typesB, declsB, stmtsB, functionB, tab, rowB, hl, hl2]

set_option maxHeartbeats 1000000 in
theorem kids_44 (L : List Nd) (y : Nd) (h : y.k = 44) : kidsB L y = kidsP L y := by
  obtain ⟨k, x, m, ks, p⟩ := y
  simp only at h
  subst h
  by_cases hl : ks.length = 2
  · obtain ⟨a, b, rfl⟩ := ks_2 hl
    clear hl
    simp [kidsB, kidsP, exprsB, typesB, declsB, stmtsB, functionB, tab, eachP, rowB, rowG, listB, kidB, spot1, rows_plain, rows_type, rows_expr, rows_mem, rows_of]
    rcases in_or L a with ia | ⟨ia, oa⟩
    rotate_left
    · first | (simp [oa, ia, nd0, isW, exprK, typeK, stmtK, namedB, namedIn, expK, ofP]; done) | (rw [oa, ia]; simp [nd0, isW, exprK, typeK, stmtK, namedB, namedIn, expK, ofP]; done)
    rcases in_or L b with ib | ⟨ib, ob⟩
    rotate_left
    · first | (simp [ob, ib, nd0, isW, exprK, typeK, stmtK, namedB, namedIn, expK, ofP]; done) | (rw [ob, ib]; simp [nd0, isW, exprK, typeK, stmtK, namedB, namedIn, expK, ofP]; done)
    simp [ia, ib, isW, ofP, orP, exprP, typeP, stmtP, plainP, spotP, letP, expP, named_path] at *
    (first | done | (rw [Bool.eq_iff_iff]; simp only [beq_dec, Bool.and_eq_true, Bool.or_eq_true, decide_eq_true_eq, Bool.not_eq_true', decide_eq_false_iff_not]; (try grind)))
  · have hl2 : ¬ (2 = ks.length) := fun e => hl e.symm
    simp [kidsB, kidsP, exprsB, typesB, declsB, stmtsB, functionB, tab, rowB, hl, hl2]

set_option maxHeartbeats 1000000 in
theorem kids_46 (L : List Nd) (y : Nd) (h : y.k = 46) : kidsB L y = kidsP L y := by
  obtain ⟨k, x, m, ks, p⟩ := y
  simp only at h
  subst h
  by_cases hl : ks.length = 2
  · obtain ⟨a, b, rfl⟩ := ks_2 hl
    clear hl
    simp [kidsB, kidsP, exprsB, typesB, declsB, stmtsB, functionB, tab, eachP, rowB, rowG, listB, kidB, spot1, rows_plain, rows_type, rows_expr, rows_mem, rows_param]
    rcases in_or L a with ia | ⟨ia, oa⟩
    rotate_left
    · first | (simp [oa, ia, nd0, isW, exprK, typeK, stmtK, namedB, namedIn, expK, ofP]; done) | (rw [oa, ia]; simp [nd0, isW, exprK, typeK, stmtK, namedB, namedIn, expK, ofP]; done)
    rcases in_or L b with ib | ⟨ib, ob⟩
    rotate_left
    · first | (simp [ob, ib, nd0, isW, exprK, typeK, stmtK, namedB, namedIn, expK, ofP]; done) | (rw [ob, ib]; simp [nd0, isW, exprK, typeK, stmtK, namedB, namedIn, expK, ofP]; done)
    simp [ia, ib, isW, ofP, orP, exprP, typeP, stmtP, plainP, spotP, letP, expP, named_path] at *
    (first | done | (rw [Bool.eq_iff_iff]; simp only [beq_dec, Bool.and_eq_true, Bool.or_eq_true, decide_eq_true_eq, Bool.not_eq_true', decide_eq_false_iff_not]; (try grind)))
  · have hl2 : ¬ (2 = ks.length) := fun e => hl e.symm
    simp [kidsB, kidsP, exprsB, typesB, declsB, stmtsB, functionB, tab, rowB, hl, hl2]

set_option maxHeartbeats 1000000 in
theorem kids_48 (L : List Nd) (y : Nd) (h : y.k = 48) : kidsB L y = kidsP L y := by
  obtain ⟨k, x, m, ks, p⟩ := y
  simp only at h
  subst h
  by_cases hl : ks.length = 1
  · obtain ⟨a, rfl⟩ := ks_1 hl
    clear hl
    simp [kidsB, kidsP, exprsB, typesB, declsB, stmtsB, functionB, tab, eachP, rowB, rowG, listB, kidB, spot1, rows_plain, rows_type, rows_expr, rows_mem, rows_of]
    rcases in_or L a with ia | ⟨ia, oa⟩
    rotate_left
    · first | (simp [oa, ia, nd0, isW, exprK, typeK, stmtK, namedB, namedIn, expK, ofP]; done) | (rw [oa, ia]; simp [nd0, isW, exprK, typeK, stmtK, namedB, namedIn, expK, ofP]; done)
    simp [ia, isW, ofP, orP, exprP, typeP, stmtP, plainP, spotP, letP, expP, named_path] at *
    (first | done | (rw [Bool.eq_iff_iff]; simp only [beq_dec, Bool.and_eq_true, Bool.or_eq_true, decide_eq_true_eq, Bool.not_eq_true', decide_eq_false_iff_not]; (try grind)))
  · have hl2 : ¬ (1 = ks.length) := fun e => hl e.symm
    simp [kidsB, kidsP, exprsB, typesB, declsB, stmtsB, functionB, tab, rowB, hl, hl2]

set_option maxHeartbeats 1000000 in
theorem kids_57 (L : List Nd) (y : Nd) (h : y.k = 57) : kidsB L y = kidsP L y := by
  obtain ⟨k, x, m, ks, p⟩ := y
  simp only at h
  subst h
  by_cases hl : ks.length = 1
  · obtain ⟨a, rfl⟩ := ks_1 hl
    clear hl
    simp [kidsB, kidsP, exprsB, typesB, declsB, stmtsB, functionB, tab, eachP, rowB, rowG, listB, kidB, spot1, rows_plain, rows_type, rows_expr, rows_mem, rows_of]
    rcases in_or L a with ia | ⟨ia, oa⟩
    rotate_left
    · first | (simp [oa, ia, nd0, isW, exprK, typeK, stmtK, namedB, namedIn, expK, ofP]; done) | (rw [oa, ia]; simp [nd0, isW, exprK, typeK, stmtK, namedB, namedIn, expK, ofP]; done)
    simp [ia, isW, ofP, orP, exprP, typeP, stmtP, plainP, spotP, letP, expP, named_path] at *
    (first | done | (rw [Bool.eq_iff_iff]; simp only [beq_dec, Bool.and_eq_true, Bool.or_eq_true, decide_eq_true_eq, Bool.not_eq_true', decide_eq_false_iff_not]; (try grind)))
  · have hl2 : ¬ (1 = ks.length) := fun e => hl e.symm
    simp [kidsB, kidsP, exprsB, typesB, declsB, stmtsB, functionB, tab, rowB, hl, hl2]

set_option maxHeartbeats 1000000 in
theorem kids_50 (L : List Nd) (y : Nd) (h : y.k = 50) : kidsB L y = kidsP L y := by
  obtain ⟨k, x, m, ks, p⟩ := y
  simp only at h
  subst h
  by_cases hl : ks.length = 1
  · obtain ⟨a, rfl⟩ := ks_1 hl
    clear hl
    simp [kidsB, kidsP, exprsB, typesB, declsB, stmtsB, functionB, tab, eachP, rowB, rowG, listB, kidB, spot1, rows_plain, rows_type, rows_expr, rows_mem, rows_of]
    rcases in_or L a with ia | ⟨ia, oa⟩
    rotate_left
    · first | (simp [oa, ia, nd0, isW, exprK, typeK, stmtK, namedB, namedIn, expK, ofP]; done) | (rw [oa, ia]; simp [nd0, isW, exprK, typeK, stmtK, namedB, namedIn, expK, ofP]; done)
    simp [ia, isW, ofP, orP, exprP, typeP, stmtP, plainP, spotP, letP, expP, named_path] at *
    (first | done | (rw [Bool.eq_iff_iff]; simp only [beq_dec, Bool.and_eq_true, Bool.or_eq_true, decide_eq_true_eq, Bool.not_eq_true', decide_eq_false_iff_not]; (try grind)))
  · have hl2 : ¬ (1 = ks.length) := fun e => hl e.symm
    simp [kidsB, kidsP, exprsB, typesB, declsB, stmtsB, functionB, tab, rowB, hl, hl2]

set_option maxHeartbeats 1000000 in
theorem kids_51 (L : List Nd) (y : Nd) (h : y.k = 51) : kidsB L y = kidsP L y := by
  obtain ⟨k, x, m, ks, p⟩ := y
  simp only at h
  subst h
  by_cases hl : ks.length = 3
  · obtain ⟨a, b, c, rfl⟩ := ks_3 hl
    clear hl
    simp [kidsB, kidsP, exprsB, typesB, declsB, stmtsB, functionB, tab, eachP, rowB, rowG, listB, kidB, spot1, rows_plain, rows_type, rows_expr, rows_mem, rows_of]
    rcases in_or L a with ia | ⟨ia, oa⟩
    rotate_left
    · first | (simp [oa, ia, nd0, isW, exprK, typeK, stmtK, namedB, namedIn, expK, ofP]; done) | (rw [oa, ia]; simp [nd0, isW, exprK, typeK, stmtK, namedB, namedIn, expK, ofP]; done)
    rcases in_or L b with ib | ⟨ib, ob⟩
    rotate_left
    · first | (simp [ob, ib, nd0, isW, exprK, typeK, stmtK, namedB, namedIn, expK, ofP]; done) | (rw [ob, ib]; simp [nd0, isW, exprK, typeK, stmtK, namedB, namedIn, expK, ofP]; done)
    rcases in_or L c with ic | ⟨ic, oc⟩
    rotate_left
    · first | (simp [oc, ic, nd0, isW, exprK, typeK, stmtK, namedB, namedIn, expK, ofP]; done) | (rw [oc, ic]; simp [nd0, isW, exprK, typeK, stmtK, namedB, namedIn, expK, ofP]; done)
    simp [ia, ib, ic, isW, ofP, orP, exprP, typeP, stmtP, plainP, spotP, letP, expP, named_path] at *
    (first | done | (rw [Bool.eq_iff_iff]; simp only [beq_dec, Bool.and_eq_true, Bool.or_eq_true, decide_eq_true_eq, Bool.not_eq_true', decide_eq_false_iff_not]; (try grind)))
  · have hl2 : ¬ (3 = ks.length) := fun e => hl e.symm
    simp [kidsB, kidsP, exprsB, typesB, declsB, stmtsB, functionB, tab, rowB, hl, hl2]

set_option maxHeartbeats 1000000 in
theorem kids_52 (L : List Nd) (y : Nd) (h : y.k = 52) : kidsB L y = kidsP L y := by
  obtain ⟨k, x, m, ks, p⟩ := y
  simp only at h
  subst h
  by_cases hl : ks.length = 2
  · obtain ⟨a, b, rfl⟩ := ks_2 hl
    clear hl
    simp [kidsB, kidsP, exprsB, typesB, declsB, stmtsB, functionB, tab, eachP, rowB, rowG, listB, kidB, spot1, rows_plain, rows_type, rows_expr, rows_mem, rows_of]
    rcases in_or L a with ia | ⟨ia, oa⟩
    rotate_left
    · first | (simp [oa, ia, nd0, isW, exprK, typeK, stmtK, namedB, namedIn, expK, ofP]; done) | (rw [oa, ia]; simp [nd0, isW, exprK, typeK, stmtK, namedB, namedIn, expK, ofP]; done)
    rcases in_or L b with ib | ⟨ib, ob⟩
    rotate_left
    · first | (simp [ob, ib, nd0, isW, exprK, typeK, stmtK, namedB, namedIn, expK, ofP]; done) | (rw [ob, ib]; simp [nd0, isW, exprK, typeK, stmtK, namedB, namedIn, expK, ofP]; done)
    simp [ia, ib, isW, ofP, orP, exprP, typeP, stmtP, plainP, spotP, letP, expP, named_path] at *
    (first | done | (rw [Bool.eq_iff_iff]; simp only [beq_dec, Bool.and_eq_true, Bool.or_eq_true, decide_eq_true_eq, Bool.not_eq_true', decide_eq_false_iff_not]; (try grind)))
  · have hl2 : ¬ (2 = ks.length) := fun e => hl e.symm
    simp [kidsB, kidsP, exprsB, typesB, declsB, stmtsB, functionB, tab, rowB, hl, hl2]

set_option maxHeartbeats 1000000 in
theorem kids_53 (L : List Nd) (y : Nd) (h : y.k = 53) : kidsB L y = kidsP L y := by
  obtain ⟨k, x, m, ks, p⟩ := y
  simp only at h
  subst h
  by_cases hl : ks.length = 3
  · obtain ⟨a, b, c, rfl⟩ := ks_3 hl
    clear hl
    simp [kidsB, kidsP, exprsB, typesB, declsB, stmtsB, functionB, tab, eachP, rowB, rowG, listB, kidB, spot1, rows_plain, rows_type, rows_expr, rows_mem, rows_of]
    rcases in_or L a with ia | ⟨ia, oa⟩
    rotate_left
    · first | (simp [oa, ia, nd0, isW, exprK, typeK, stmtK, namedB, namedIn, expK, ofP]; done) | (rw [oa, ia]; simp [nd0, isW, exprK, typeK, stmtK, namedB, namedIn, expK, ofP]; done)
    rcases in_or L b with ib | ⟨ib, ob⟩
    rotate_left
    · first | (simp [ob, ib, nd0, isW, exprK, typeK, stmtK, namedB, namedIn, expK, ofP]; done) | (rw [ob, ib]; simp [nd0, isW, exprK, typeK, stmtK, namedB, namedIn, expK, ofP]; done)
    rcases in_or L c with ic | ⟨ic, oc⟩
    rotate_left
    · first | (simp [oc, ic, nd0, isW, exprK, typeK, stmtK, namedB, namedIn, expK, ofP]; done) | (rw [oc, ic]; simp [nd0, isW, exprK, typeK, stmtK, namedB, namedIn, expK, ofP]; done)
    simp [ia, ib, ic, isW, ofP, orP, exprP, typeP, stmtP, plainP, spotP, letP, expP, named_path] at *
    (first | done | (rw [Bool.eq_iff_iff]; simp only [beq_dec, Bool.and_eq_true, Bool.or_eq_true, decide_eq_true_eq, Bool.not_eq_true', decide_eq_false_iff_not]; (try grind)))
  · have hl2 : ¬ (3 = ks.length) := fun e => hl e.symm
    simp [kidsB, kidsP, exprsB, typesB, declsB, stmtsB, functionB, tab, rowB, hl, hl2]

set_option maxHeartbeats 1000000 in
theorem kids_54 (L : List Nd) (y : Nd) (h : y.k = 54) : kidsB L y = kidsP L y := by
  obtain ⟨k, x, m, ks, p⟩ := y
  simp only at h
  subst h
  by_cases hl : ks.length = 2
  · obtain ⟨a, b, rfl⟩ := ks_2 hl
    clear hl
    simp [kidsB, kidsP, exprsB, typesB, declsB, stmtsB, functionB, tab, eachP, rowB, rowG, listB, kidB, spot1, rows_plain, rows_type, rows_expr, rows_mem, rows_of]
    rcases in_or L a with ia | ⟨ia, oa⟩
    rotate_left
    · first | (simp [oa, ia, nd0, isW, exprK, typeK, stmtK, namedB, namedIn, expK, ofP]; done) | (rw [oa, ia]; simp [nd0, isW, exprK, typeK, stmtK, namedB, namedIn, expK, ofP]; done)
    rcases in_or L b with ib | ⟨ib, ob⟩
    rotate_left
    · first | (simp [ob, ib, nd0, isW, exprK, typeK, stmtK, namedB, namedIn, expK, ofP]; done) | (rw [ob, ib]; simp [nd0, isW, exprK, typeK, stmtK, namedB, namedIn, expK, ofP]; done)
    simp [ia, ib, isW, ofP, orP, exprP, typeP, stmtP, plainP, spotP, letP, expP, named_path] at *
    (first | done | (rw [Bool.eq_iff_iff]; simp only [beq_dec, Bool.and_eq_true, Bool.or_eq_true, decide_eq_true_eq, Bool.not_eq_true', decide_eq_false_iff_not]; (try grind)))
  · have hl2 : ¬ (2 = ks.length) := fun e => hl e.symm
    simp [kidsB, kidsP, exprsB, typesB, declsB, stmtsB, functionB, tab, rowB, hl, hl2]

set_option maxHeartbeats 1000000 in
theorem kids_56 (L : List Nd) (y : Nd) (h : y.k = 56) : kidsB L y = kidsP L y := by
  obtain ⟨k, x, m, ks, p⟩ := y
  simp only at h
  subst h
  by_cases hl : ks.length = 2
  · obtain ⟨a, b, rfl⟩ := ks_2 hl
    clear hl
    simp [kidsB, kidsP, exprsB, typesB, declsB, stmtsB, functionB, tab, eachP, rowB, rowG, listB, kidB, spot1, rows_plain, rows_type, rows_expr, rows_mem, rows_of]
    rcases in_or L a with ia | ⟨ia, oa⟩
    rotate_left
    · first | (simp [oa, ia, nd0, isW, exprK, typeK, stmtK, namedB, namedIn, expK, ofP]; done) | (rw [oa, ia]; simp [nd0, isW, exprK, typeK, stmtK, namedB, namedIn, expK, ofP]; done)
    rcases in_or L b with ib | ⟨ib, ob⟩
    rotate_left
    · first | (simp [ob, ib, nd0, isW, exprK, typeK, stmtK, namedB, namedIn, expK, ofP]; done) | (rw [ob, ib]; simp [nd0, isW, exprK, typeK, stmtK, namedB, namedIn, expK, ofP]; done)
    simp [ia, ib, isW, ofP, orP, exprP, typeP, stmtP, plainP, spotP, letP, expP, named_path] at *
    (first | done | (rw [Bool.eq_iff_iff]; simp only [beq_dec, Bool.and_eq_true, Bool.or_eq_true, decide_eq_true_eq, Bool.not_eq_true', decide_eq_false_iff_not]; (try grind)))
  · have hl2 : ¬ (2 = ks.length) := fun e => hl e.symm
    simp [kidsB, kidsP, exprsB, typesB, declsB, stmtsB, functionB, tab, rowB, hl, hl2]

set_option maxHeartbeats 1000000 in
theorem kids_55 (L : List Nd) (y : Nd) (h : y.k = 55) : kidsB L y = kidsP L y := by
  obtain ⟨k, x, m, ks, p⟩ := y
  simp only at h
  subst h
  by_cases hl : ks.length = 4
  · obtain ⟨a, b, c, d, rfl⟩ := ks_4 hl
    clear hl
    simp [kidsB, kidsP, exprsB, typesB, declsB, stmtsB, functionB, tab, eachP, rowB, rowG, listB, kidB, spot1, rows_plain, rows_type, rows_expr, rows_mem, rows_of]
    rcases in_or L a with ia | ⟨ia, oa⟩
    rotate_left
    · first | (simp [oa, ia, nd0, isW, exprK, typeK, stmtK, namedB, namedIn, expK, ofP]; done) | (rw [oa, ia]; simp [nd0, isW, exprK, typeK, stmtK, namedB, namedIn, expK, ofP]; done)
    rcases in_or L b with ib | ⟨ib, ob⟩
    rotate_left
    · first | (simp [ob, ib, nd0, isW, exprK, typeK, stmtK, namedB, namedIn, expK, ofP]; done) | (rw [ob, ib]; simp [nd0, isW, exprK, typeK, stmtK, namedB, namedIn, expK, ofP]; done)
    rcases in_or L c with ic | ⟨ic, oc⟩
    rotate_left
    · first | (simp [oc, ic, nd0, isW, exprK, typeK, stmtK, namedB, namedIn, expK, ofP]; done) | (rw [oc, ic]; simp [nd0, isW, exprK, typeK, stmtK, namedB, namedIn, expK, ofP]; done)
    rcases in_or L d with id | ⟨id, od⟩
    rotate_left
    · first | (simp [od, id, nd0, isW, exprK, typeK, stmtK, namedB, namedIn, expK, ofP]; done) | (rw [od, id]; simp [nd0, isW, exprK, typeK, stmtK, namedB, namedIn, expK, ofP]; done)
    simp [ia, ib, ic, id, isW, ofP, orP, exprP, typeP, stmtP, plainP, spotP, letP, expP, named_path] at *
    (first | done | (rw [Bool.eq_iff_iff]; simp only [beq_dec, Bool.and_eq_true, Bool.or_eq_true, decide_eq_true_eq, Bool.not_eq_true', decide_eq_false_iff_not]; (try grind)))
  · have hl2 : ¬ (4 = ks.length) := fun e => hl e.symm
    simp [kidsB, kidsP, exprsB, typesB, declsB, stmtsB, functionB, tab, rowB, hl, hl2]

set_option maxHeartbeats 1000000 in
theorem kids_61 (L : List Nd) (y : Nd) (h : y.k = 61) : kidsB L y = kidsP L y := by
  obtain ⟨k, x, m, ks, p⟩ := y
  simp only at h
  subst h
  by_cases hl : ks.length = 3
  · obtain ⟨a, b, c, rfl⟩ := ks_3 hl
    clear hl
    simp [kidsB, kidsP, exprsB, typesB, declsB, stmtsB, functionB, tab, eachP, rowB, rowG, listB, kidB, spot1, rows_plain, rows_type, rows_expr, rows_mem, rows_of]
    rcases in_or L a with ia | ⟨ia, oa⟩
    rotate_left
    · first | (simp [oa, ia, nd0, isW, exprK, typeK, stmtK, namedB, namedIn, expK, ofP]; done) | (rw [oa, ia]; simp [nd0, isW, exprK, typeK, stmtK, namedB, namedIn, expK, ofP]; done)
    rcases in_or L b with ib | ⟨ib, ob⟩
    rotate_left
    · first | (simp [ob, ib, nd0, isW, exprK, typeK, stmtK, namedB, namedIn, expK, ofP]; done) | (rw [ob, ib]; simp [nd0, isW, exprK, typeK, stmtK, namedB, namedIn, expK, ofP]; done)
    rcases in_or L c with ic | ⟨ic, oc⟩
    rotate_left
    · first | (simp [oc, ic, nd0, isW, exprK, typeK, stmtK, namedB, namedIn, expK, ofP]; done) | (rw [oc, ic]; simp [nd0, isW, exprK, typeK, stmtK, namedB, namedIn, expK, ofP]; done)
    simp [ia, ib, ic, isW, ofP, orP, exprP, typeP, stmtP, plainP, spotP, letP, expP, named_path] at *
    (first | done | (rw [Bool.eq_iff_iff]; simp only [beq_dec, Bool.and_eq_true, Bool.or_eq_true, decide_eq_true_eq, Bool.not_eq_true', decide_eq_false_iff_not]; (try grind)))
  · have hl2 : ¬ (3 = ks.length) := fun e => hl e.symm
    simp [kidsB, kidsP, exprsB, typesB, declsB, stmtsB, functionB, tab, rowB, hl, hl2]

set_option maxHeartbeats 1000000 in
theorem kids_62 (L : List Nd) (y : Nd) (h : y.k = 62) : kidsB L y = kidsP L y := by
  obtain ⟨k, x, m, ks, p⟩ := y
  simp only at h
  subst h
  by_cases hl : ks.length = 1
  · obtain ⟨a, rfl⟩ := ks_1 hl
    clear hl
    simp [kidsB, kidsP, exprsB, typesB, declsB, stmtsB, functionB, tab, eachP, rowB, rowG, listB, kidB, spot1, rows_plain, rows_type, rows_expr, rows_mem, rows_of]
    rcases in_or L a with ia | ⟨ia, oa⟩
    rotate_left
    · first | (simp [oa, ia, nd0, isW, exprK, typeK, stmtK, namedB, namedIn, expK, ofP]; done) | (rw [oa, ia]; simp [nd0, isW, exprK, typeK, stmtK, namedB, namedIn, expK, ofP]; done)
    simp [ia, isW, ofP, orP, exprP, typeP, stmtP, plainP, spotP, letP, expP, named_path] at *
    (first | done | (rw [Bool.eq_iff_iff]; simp only [beq_dec, Bool.and_eq_true, Bool.or_eq_true, decide_eq_true_eq, Bool.not_eq_true', decide_eq_false_iff_not]; (try grind)))
  · have hl2 : ¬ (1 = ks.length) := fun e => hl e.symm
    simp [kidsB, kidsP, exprsB, typesB, declsB, stmtsB, functionB, tab, rowB, hl, hl2]

set_option maxHeartbeats 1000000 in
theorem kids_66 (L : List Nd) (y : Nd) (h : y.k = 66) : kidsB L y = kidsP L y := by
  obtain ⟨k, x, m, ks, p⟩ := y
  simp only at h
  subst h
  by_cases hl : ks.length = 1
  · obtain ⟨a, rfl⟩ := ks_1 hl
    clear hl
    simp [kidsB, kidsP, exprsB, typesB, declsB, stmtsB, functionB, tab, eachP, rowB, rowG, listB, kidB, spot1, rows_plain, rows_type, rows_expr, rows_mem, rows_of]
    rcases in_or L a with ia | ⟨ia, oa⟩
    rotate_left
    · first | (simp [oa, ia, nd0, isW, exprK, typeK, stmtK, namedB, namedIn, expK, ofP]; done) | (rw [oa, ia]; simp [nd0, isW, exprK, typeK, stmtK, namedB, namedIn, expK, ofP]; done)
    simp [ia, isW, ofP, orP, exprP, typeP, stmtP, plainP, spotP, letP, expP, named_path] at *
    (first | done | (rw [Bool.eq_iff_iff]; simp only [beq_dec, Bool.and_eq_true, Bool.or_eq_true, decide_eq_true_eq, Bool.not_eq_true', decide_eq_false_iff_not]; (try grind)))
  · have hl2 : ¬ (1 = ks.length) := fun e => hl e.symm
    simp [kidsB, kidsP, exprsB, typesB, declsB, stmtsB, functionB, tab, rowB, hl, hl2]

set_option maxHeartbeats 1000000 in
theorem kids_83 (L : List Nd) (y : Nd) (h : y.k = 83) : kidsB L y = kidsP L y := by
  obtain ⟨k, x, m, ks, p⟩ := y
  simp only at h
  subst h
  by_cases hl : ks.length = 1
  · obtain ⟨a, rfl⟩ := ks_1 hl
    clear hl
    simp [kidsB, kidsP, exprsB, typesB, declsB, stmtsB, functionB, tab, eachP, rowB, rowG, listB, kidB, spot1, rows_plain, rows_type, rows_expr, rows_mem, rows_of]
    rcases in_or L a with ia | ⟨ia, oa⟩
    rotate_left
    · first | (simp [oa, ia, nd0, isW, exprK, typeK, stmtK, namedB, namedIn, expK, ofP]; done) | (rw [oa, ia]; simp [nd0, isW, exprK, typeK, stmtK, namedB, namedIn, expK, ofP]; done)
    simp [ia, isW, ofP, orP, exprP, typeP, stmtP, plainP, spotP, letP, expP, named_path] at *
    (first | done | (rw [Bool.eq_iff_iff]; simp only [beq_dec, Bool.and_eq_true, Bool.or_eq_true, decide_eq_true_eq, Bool.not_eq_true', decide_eq_false_iff_not]; (try grind)))
  · have hl2 : ¬ (1 = ks.length) := fun e => hl e.symm
    simp [kidsB, kidsP, exprsB, typesB, declsB, stmtsB, functionB, tab, rowB, hl, hl2]

set_option maxHeartbeats 1000000 in
theorem kids_85 (L : List Nd) (y : Nd) (h : y.k = 85) : kidsB L y = kidsP L y := by
  obtain ⟨k, x, m, ks, p⟩ := y
  simp only at h
  subst h
  by_cases hl : ks.length = 1
  · obtain ⟨a, rfl⟩ := ks_1 hl
    clear hl
    simp [kidsB, kidsP, exprsB, typesB, declsB, stmtsB, functionB, tab, eachP, rowB, rowG, listB, kidB, spot1, rows_plain, rows_type, rows_expr, rows_mem, rows_of]
    rcases in_or L a with ia | ⟨ia, oa⟩
    rotate_left
    · first | (simp [oa, ia, nd0, isW, exprK, typeK, stmtK, namedB, namedIn, expK, ofP]; done) | (rw [oa, ia]; simp [nd0, isW, exprK, typeK, stmtK, namedB, namedIn, expK, ofP]; done)
    simp [ia, isW, ofP, orP, exprP, typeP, stmtP, plainP, spotP, letP, expP, named_path] at *
    (first | done | (rw [Bool.eq_iff_iff]; simp only [beq_dec, Bool.and_eq_true, Bool.or_eq_true, decide_eq_true_eq, Bool.not_eq_true', decide_eq_false_iff_not]; (try grind)))
  · have hl2 : ¬ (1 = ks.length) := fun e => hl e.symm
    simp [kidsB, kidsP, exprsB, typesB, declsB, stmtsB, functionB, tab, rowB, hl, hl2]

set_option maxHeartbeats 1000000 in
theorem kids_86 (L : List Nd) (y : Nd) (h : y.k = 86) : kidsB L y = kidsP L y := by
  obtain ⟨k, x, m, ks, p⟩ := y
  simp only at h
  subst h
  by_cases hl : ks.length = 2
  · obtain ⟨a, b, rfl⟩ := ks_2 hl
    clear hl
    simp [kidsB, kidsP, exprsB, typesB, declsB, stmtsB, functionB, tab, eachP, rowB, rowG, listB, kidB, spot1, rows_plain, rows_type, rows_expr, rows_mem, rows_of]
    rcases in_or L a with ia | ⟨ia, oa⟩
    rotate_left
    · first | (simp [oa, ia, nd0, isW, exprK, typeK, stmtK, namedB, namedIn, expK, ofP]; done) | (rw [oa, ia]; simp [nd0, isW, exprK, typeK, stmtK, namedB, namedIn, expK, ofP]; done)
    rcases in_or L b with ib | ⟨ib, ob⟩
    rotate_left
    · first | (simp [ob, ib, nd0, isW, exprK, typeK, stmtK, namedB, namedIn, expK, ofP]; done) | (rw [ob, ib]; simp [nd0, isW, exprK, typeK, stmtK, namedB, namedIn, expK, ofP]; done)
    simp [ia, ib, isW, ofP, orP, exprP, typeP, stmtP, plainP, spotP, letP, expP, named_path] at *
    (first | done | (rw [Bool.eq_iff_iff]; simp only [beq_dec, Bool.and_eq_true, Bool.or_eq_true, decide_eq_true_eq, Bool.not_eq_true', decide_eq_false_iff_not]; (try grind)))
  · have hl2 : ¬ (2 = ks.length) := fun e => hl e.symm
    simp [kidsB, kidsP, exprsB, typesB, declsB, stmtsB, functionB, tab, rowB, hl, hl2]

theorem kids_12 (L : List Nd) (y : Nd) (h : y.k = 12) : kidsB L y = kidsP L y := by
  obtain ⟨k, x, m, ks, p⟩ := y
  simp only at h
  subst h
  simp only [kidsB, kidsP, exprsB, tmplB]
  rw [if_neg (by decide), if_neg (by decide), if_pos (by decide), if_pos trivial, if_pos trivial]
  cases h1 : tmplP L 0 ks
  · simp
  · rw [tmpl_in L ks 0 h1]; simp
theorem kids_87 (L : List Nd) (y : Nd) (h : y.k = 87) : kidsB L y = kidsP L y := by
  obtain ⟨k, x, m, ks, p⟩ := y
  simp only at h
  subst h
  simp [kidsB, kidsP, typesB, eachB, isW]
  have e : (ks.all (inL L) && ks.all fun k => typeK (nd L k).k) = ks.all fun k => typeK (nd L k).k := each_of L (fun y => typeK y.k) (by decide) ks
  rw [← e]
  cases h1 : ks.all (inL L) <;> cases h2 : ks.all (fun k => typeK (nd L k).k) <;> simp
  omega
theorem kids_2 (L : List Nd) (y : Nd) (h : y.k = 2) : kidsB L y = kidsP L y := by
  obtain ⟨k, x, m, ks, p⟩ := y
  simp only at h
  subst h
  simp [kidsB, kidsP, tab, eachP_one]
  intro _ j _
  rfl
/-- What the reference asks of a node's kids is what the program asks. -/
theorem kids_same (L : List Nd) (y : Nd) (h : kindK y.k = true) : kidsB L y = kidsP L y := by
  have h2 : y.k = 1 ∨ y.k = 2 ∨ y.k = 3 ∨ y.k = 10 ∨ y.k = 11 ∨ y.k = 12 ∨ y.k = 13 ∨ y.k = 14 ∨ y.k = 15 ∨ y.k = 16 ∨ y.k = 17 ∨ y.k = 18 ∨ y.k = 19 ∨ y.k = 20 ∨ y.k = 21 ∨ y.k = 22 ∨ y.k = 23 ∨ y.k = 24 ∨ y.k = 25 ∨ y.k = 26 ∨ y.k = 27 ∨ y.k = 28 ∨ y.k = 29 ∨ y.k = 30 ∨ y.k = 31 ∨ y.k = 32 ∨ y.k = 33 ∨ y.k = 34 ∨ y.k = 40 ∨ y.k = 41 ∨ y.k = 42 ∨ y.k = 43 ∨ y.k = 44 ∨ y.k = 45 ∨ y.k = 46 ∨ y.k = 47 ∨ y.k = 48 ∨ y.k = 49 ∨ y.k = 50 ∨ y.k = 51 ∨ y.k = 52 ∨ y.k = 53 ∨ y.k = 54 ∨ y.k = 55 ∨ y.k = 56 ∨ y.k = 57 ∨ y.k = 58 ∨ y.k = 59 ∨ y.k = 60 ∨ y.k = 61 ∨ y.k = 62 ∨ y.k = 63 ∨ y.k = 64 ∨ y.k = 65 ∨ y.k = 66 ∨ y.k = 67 ∨ y.k = 80 ∨ y.k = 81 ∨ y.k = 82 ∨ y.k = 83 ∨ y.k = 84 ∨ y.k = 85 ∨ y.k = 86 ∨ y.k = 87 := by simp [kindK] at h; omega
  rcases h2 with h | h | h | h | h | h | h | h | h | h | h | h | h | h | h | h | h | h | h | h | h | h | h | h | h | h | h | h | h | h | h | h | h | h | h | h | h | h | h | h | h | h | h | h | h | h | h | h | h | h | h | h | h | h | h | h | h | h | h | h | h | h | h | h
  · exact kids_1 L y h
  · exact kids_2 L y h
  · exact kids_3 L y h
  · exact kids_10 L y h
  · exact kids_11 L y h
  · exact kids_12 L y h
  · exact kids_13 L y h
  · exact kids_14 L y h
  · exact kids_15 L y h
  · exact kids_16 L y h
  · exact kids_17 L y h
  · exact kids_18 L y h
  · exact kids_19 L y h
  · exact kids_20 L y h
  · exact kids_21 L y h
  · exact kids_22 L y h
  · exact kids_23 L y h
  · exact kids_24 L y h
  · exact kids_25 L y h
  · exact kids_26 L y h
  · exact kids_27 L y h
  · exact kids_28 L y h
  · exact kids_29 L y h
  · exact kids_30 L y h
  · exact kids_31 L y h
  · exact kids_32 L y h
  · exact kids_33 L y h
  · exact kids_34 L y h
  · exact kids_40 L y h
  · exact kids_41 L y h
  · exact kids_42 L y h
  · exact kids_43 L y h
  · exact kids_44 L y h
  · exact kids_45 L y h
  · exact kids_46 L y h
  · exact kids_47 L y h
  · exact kids_48 L y h
  · exact kids_49 L y h
  · exact kids_50 L y h
  · exact kids_51 L y h
  · exact kids_52 L y h
  · exact kids_53 L y h
  · exact kids_54 L y h
  · exact kids_55 L y h
  · exact kids_56 L y h
  · exact kids_57 L y h
  · exact kids_58 L y h
  · exact kids_59 L y h
  · exact kids_60 L y h
  · exact kids_61 L y h
  · exact kids_62 L y h
  · exact kids_63 L y h
  · exact kids_64 L y h
  · exact kids_65 L y h
  · exact kids_66 L y h
  · exact kids_67 L y h
  · exact kids_80 L y h
  · exact kids_81 L y h
  · exact kids_82 L y h
  · exact kids_83 L y h
  · exact kids_84 L y h
  · exact kids_85 L y h
  · exact kids_86 L y h
  · exact kids_87 L y h
theorem tab_none {k : Int} (h : kindK k = false) : tab k = none := by
  simp [kindK] at h
  unfold tab
  iterate 35 rw [if_neg (by omega)]
theorem kidsP_none (L : List Nd) (y : Nd) (h : kindK y.k = false) : kidsP L y = false := by
  have h1 : y.k ≠ 12 := fun e => by rw [e] at h; cases h
  have h2 : y.k ≠ 87 := fun e => by rw [e] at h; cases h
  unfold kidsP
  rw [if_neg h1, if_neg h2, tab_none h, Bool.and_false]
/-- A node fits, as the reference asks it. -/
theorem fits_same (L : List Nd) (i : Int) : (kindK (nd L i).k && saidB (nd L i) && kidsB L (nd L i)) = fitsB L i := by
  unfold fitsB
  cases h : kindK (nd L i).k
  · rw [kidsP_none L _ h]; simp
  · rw [kids_same L _ h, Bool.true_and]
end Go.Proofs.YtpkdhciokiomlaaDoor
