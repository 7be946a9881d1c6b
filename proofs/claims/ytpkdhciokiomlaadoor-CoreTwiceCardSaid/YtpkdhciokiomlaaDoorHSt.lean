/- Chapter 5, plain: what Strip leaves of a tree. No program in sight. -/
import Derived.Test.YtpkdhciokiomlaaDoorHMp
import Derived.Test.YtpkdhciokiomlaaDoorHBZ7
namespace Go.Proofs.YtpkdhciokiomlaaDoor
set_option linter.unusedVariables false
set_option linter.unusedSimpArgs false
set_option linter.unnecessarySimpa false
open Go.RowKit
/-! ### which kids may be left out -/
def leftK (k : Int) : Bool := k == 44 || k == 50 || k == 51 || k == 52
theorem left_kind {L : List Nd} {f : Nat} {n : Int} (h : leftK (nd L n).k = false) : leftB L f n = false := by
  simp only [leftK, Bool.or_eq_false_iff, beq_eq_false_iff_ne] at h
  obtain ⟨⟨⟨h1, h2⟩, h3⟩, h4⟩ := h
  cases f with
  | zero => rfl
  | succ f => unfold leftB; rw [if_neg (by omega), if_neg h2, if_neg h1]
/-- A place that no node that may be left out stands in. -/
def Stays (p : Plc) : Prop := ∀ L i, p L i = true → leftK (nd L i).k = false
theorem stays_of {l : List Int} (h : l.all (fun k => !leftK k) = true) : Stays (ofP l) := fun L i hi => by
  have h1 : (nd L i).k ∈ l := by simpa [ofP] using hi
  simpa using List.all_eq_true.1 h _ h1
theorem stays_or {p q : Plc} (hp : Stays p) (hq : Stays q) : Stays (orP p q) := fun L i hi => by
  rcases Bool.or_eq_true_iff.1 (show (p L i || q L i) = true from hi) with h | h
  · exact hp L i h
  · exact hq L i h
theorem stays_rows (p : Plc) : Stays (rowsP p) := fun L i hi => by
  have h1 : (nd L i).k = 2 := by
    have := (Bool.and_eq_true_iff.1 (show ((nd L i).k == 2 && _) = true from hi)).1
    simpa using this
  rw [h1]; rfl
theorem stays_expr : Stays exprP := fun L i hi => by
  have h1 : exprK (nd L i).k = true := hi
  simp only [exprK, Bool.and_eq_true, decide_eq_true_eq] at h1
  simp only [leftK, Bool.or_eq_false_iff, beq_eq_false_iff_ne]
  omega
theorem stays_type : Stays typeP := fun L i hi => by
  have h1 : typeK (nd L i).k = true := hi
  simp only [typeK, Bool.and_eq_true, decide_eq_true_eq] at h1
  simp only [leftK, Bool.or_eq_false_iff, beq_eq_false_iff_ne]
  omega
theorem stays_path : Stays pathP := fun L i hi => by
  have h0 : pathIn L L.length i = true := hi
  have h1 : exprK (nd L i).k = true := by
    cases hf : L.length with
    | zero => rw [hf] at h0; simp [pathIn] at h0
    | succ f =>
      rw [hf] at h0
      unfold pathIn at h0
      simp only [exprK]
      grind
  exact stays_expr L i h1
theorem stays_mem : Stays memP := fun L i hi => stays_rows _ L i (Bool.and_eq_true_iff.1 (show (rowsP (ofP [44, 45, 46]) L i && _) = true from hi)).1
theorem stays_let : Stays letP := fun L i hi => by
  have h1 : (nd L i).k = 40 := by
    have := (Bool.and_eq_true_iff.1 (show ((nd L i).k == 40 && _) = true from hi)).1
    simpa using this
  rw [h1]; rfl
theorem stays_spot : Stays spotP := stays_of (by decide)
theorem ite_by {α : Type} {P : Prop} [Decidable P] {a b : Option α} {Q : α → Prop} (ha : P → ∀ x, a = some x → Q x) (hb : ¬P → ∀ x, b = some x → Q x) : ∀ x, (if P then a else b) = some x → Q x := by
  intro x h; split at h
  · exact ha (by assumption) x h
  · exact hb (by assumption) x h
theorem some_by {α : Type} {a : α} {Q : α → Prop} (h : Q a) : ∀ x, some a = some x → Q x := by rintro _ ⟨⟩; exact h
theorem none_by {α : Type} {Q : α → Prop} : ∀ x : α, none = some x → Q x := by rintro _ ⟨⟩
theorem all0 : ∀ p ∈ ([] : List Plc), Stays p := fun p h => absurd h (by simp)
theorem all1 {a : Plc} {l : List Plc} (ha : Stays a) (hl : ∀ p ∈ l, Stays p) : ∀ p ∈ a :: l, Stays p := fun p h => by
  rcases List.mem_cons.1 h with rfl | h
  · exact ha
  · exact hl p h
set_option maxRecDepth 100000 in
theorem tab_stays {k : Int} (hk : k ≠ 2 ∧ k ≠ 3 ∧ k ≠ 49 ∧ k ≠ 50 ∧ k ≠ 63) {ps : List Plc} {many : Bool} (h : tab k = some (ps, many)) : ∀ p ∈ ps, Stays p := by
  obtain ⟨a1, a2, a3, a4, a5⟩ := hk
  have H : ∀ x, tab k = some x → ∀ p ∈ x.1, Stays p := by
    unfold tab
    repeat' (refine ite_by (Q := fun x : List Plc × Bool => ∀ p ∈ x.1, Stays p) (fun hc => ?_) (fun hc => ?_))
    all_goals first
      | exact none_by
      | (exfalso; omega)
      | (refine some_by (Q := fun x : List Plc × Bool => ∀ p ∈ x.1, Stays p) ?_
         repeat' (first
           | exact all0
           | refine all1 ?_ ?_
           | exact stays_expr | exact stays_rows _ | exact stays_path | exact stays_mem | exact stays_spot | exact stays_type | exact stays_let | refine stays_of ?_ | refine stays_or ?_ ?_
           | decide))
  exact H _ h
set_option maxRecDepth 100000 in
theorem tab_some {k : Int} {ps : List Plc} (h : tab k = some (ps, true)) : ps.length ≠ 0 := by
  have H : ∀ x, tab k = some x → (x.2 = true → x.1.length ≠ 0) := by
    unfold tab
    repeat' (refine ite_by (Q := fun x : List Plc × Bool => x.2 = true → x.1.length ≠ 0) (fun hc => ?_) (fun hc => ?_))
    all_goals first | exact none_by | (refine some_by (Q := fun x : List Plc × Bool => x.2 = true → x.1.length ≠ 0) ?_; first | (intro e; cases e; done) | exact fun _ => by simp)
  exact H _ h rfl
theorem tmplP_at {L : List Nd} : ∀ (ks : List Int) (i : Nat), tmplP L i ks = true → ∀ q, q < ks.length → (nd L (ks.getD q 0)).k = 11 ∨ exprK (nd L (ks.getD q 0)).k = true
  | [], _, _, q, hq => absurd hq (by simp)
  | k :: ks, i, h, q, hq => by
    have h' := Bool.and_eq_true_iff.1 (show ((if i % 2 = 0 then (nd L k).k == 11 else exprK (nd L k).k) && tmplP L (i + 1) ks) = true from h)
    cases q with
    | zero =>
      have h2 := h'.1
      split at h2
      · exact .inl (by simpa using h2)
      · exact .inr (by simpa using h2)
    | succ q => simpa using tmplP_at ks (i + 1) h'.2 q (by simpa using hq)
/-- No kid of a node that is no row and no Export may be left out. -/
theorem kid_stays {L : List Nd} {n : Int} (h : fitsB L n = true) (hk : (nd L n).k ≠ 2 ∧ (nd L n).k ≠ 3 ∧ (nd L n).k ≠ 49 ∧ (nd L n).k ≠ 50 ∧ (nd L n).k ≠ 63) (q : Nat) (hq : q < (nd L n).ks.length) : leftK (nd L ((nd L n).ks.getD q 0)).k = false := by
  have h1 := (Bool.and_eq_true_iff.1 (show (saidB (nd L n) && kidsP L (nd L n)) = true from h)).2
  unfold kidsP at h1
  have h2 := (Bool.and_eq_true_iff.1 h1).2
  split at h2
  · have h3 := (Bool.and_eq_true_iff.1 h2).1
    rcases tmplP_at _ _ h3 q hq with h4 | h4
    · rw [h4]; rfl
    · exact stays_expr L _ h4
  · split at h2
    · have h3 := (Bool.and_eq_true_iff.1 h2).2
      have h4 := List.all_eq_true.1 h3 ((nd L n).ks.getD q 0) (by simp [List.getD, hq])
      exact stays_type L _ h4
    · cases ht : tab (nd L n).k with
      | none => rw [ht] at h2; cases h2
      | some pm =>
        obtain ⟨ps, many⟩ := pm
        rw [ht] at h2
        simp only [Bool.and_eq_true] at h2
        have h5 := each_at _ _ h2.1.2 q hq
        have hs := tab_stays hk ht
        by_cases hp : ps.length = 0
        · exfalso
          have h6 := h2.1.1
          have : many = false := by
            cases many with
            | false => rfl
            | true => exact absurd hp (tab_some ht)
          rw [this] at h6
          simp at h6
          omega
        · have hi : min (0 + q) (ps.length - 1) < ps.length := by omega
          refine hs _ ?_ L _ h5
          simp only [List.getD_eq_getElem?_getD, List.getElem?_eq_getElem hi, Option.getD_some]
          exact List.getElem_mem hi
/-! ### the parts, one more -/
theorem parts_take (P : Nat → Int → List (List Nd)) : ∀ (ks : List Int) (i q : Nat), q < ks.length → partsL P i (ks.take (q + 1)) = partsL P i (ks.take q) ++ P (i + q) (ks.getD q 0)
  | [], _, q, h => absurd h (by simp)
  | y :: ks, i, 0, _ => by simp [partsL]
  | y :: ks, i, q + 1, h => by
    have h1 := parts_take P ks (i + 1) q (by simpa using h)
    rw [List.take_succ_cons, List.take_succ_cons]
    show P i y ++ partsL P (i + 1) (ks.take (q + 1)) = (P i y ++ partsL P (i + 1) (ks.take q)) ++ P (i + (q + 1)) ((y :: ks).getD (q + 1) 0)
    rw [h1, List.append_assoc, show i + 1 + q = i + (q + 1) by omega]
    rfl
theorem parts_mem {P : Nat → Int → List (List Nd)} {Q : List Nd → Prop} : ∀ (ks : List Int) (i : Nat), (∀ j, ∀ y ∈ ks, ∀ l ∈ P j y, Q l) → ∀ l ∈ partsL P i ks, Q l
  | [], _, _, l, hl => absurd hl (by simp [partsL])
  | y :: ks, i, h, l, hl => by
    rcases List.mem_append.1 (show l ∈ P i y ++ partsL P (i + 1) ks from hl) with hl | hl
    · exact h i y (by simp) l hl
    · exact parts_mem ks (i + 1) (fun j z hz => h j z (by simp [hz])) l hl
theorem sumL_append (A B : List (List Nd)) : sumL (A ++ B) = sumL A + sumL B := by simp [sumL]
/-- A row of kids leaves no more nodes than it spans. -/
theorem parts_sum {L : List Nd} {P : Nat → Int → List (List Nd)} {ks : List Int} {a e : Nat} (h : Ch L ks a e) : (∀ i s m, a ≤ s → m ≤ e → Sp L s m → sumL (P i (s : Int)) ≤ m - s) → ∀ i, sumL (partsL P i ks) ≤ e - a := by
  induction h with
  | nil a => intro _ i; simp [partsL, sumL]
  | @cons ks a m e h1 h2 h3 h4 _ ih =>
    intro hP i
    have l1 := h3.le
    have l2 := h4.le
    show sumL (P i (a : Int) ++ partsL P (i + 1) ks) ≤ e - a
    rw [sumL_append]
    have e1 := hP i a m (by omega) l2 ⟨h1, h2, h3⟩
    have e2 := ih (fun i s m h5 h6 h7 => hP i s m (by omega) h6 h7) (i + 1)
    omega
/-! ### places moved twice -/
theorem wrap_two (z b c : Int) : IntKind.i64.wrap (IntKind.i64.wrap (z + b) + c) = IntKind.i64.wrap (z + (b + c)) := by
  rw [IntKind.wrap_i64, IntKind.wrap_i64, IntKind.wrap_i64]; omega
theorem shN_two (b c : Int) (y : Nd) : shN c (shN b y) = shN (b + c) y := by
  obtain ⟨k, x, m, ks, p⟩ := y
  simp only [shN, List.map_map, Nd.mk.injEq, true_and, and_true]
  apply List.map_congr_left
  intro k _
  exact wrap_two k b c
theorem body_two (c : Nat) : ∀ (Ls : List (List Nd)) (b : Nat), (body b Ls).map (shN (c : Int)) = body (b + c) Ls
  | [], _ => rfl
  | l :: ls, b => by
    show (l.map (shN (b : Int)) ++ body (b + l.length) ls).map (shN (c : Int)) = l.map (shN ((b + c : Nat) : Int)) ++ body (b + c + l.length) ls
    rw [List.map_append, body_two c ls (b + l.length), List.map_map, show b + l.length + c = b + c + l.length by omega]
    congr 1
    apply List.map_congr_left
    intro y _
    show shN (c : Int) (shN (b : Int) y) = _
    rw [shN_two]; rfl
theorem offs_two (c : Nat) : ∀ (Ls : List (List Nd)) (b : Nat), b + c + sumL Ls ≤ 1000000000000 → (offs b Ls).map (fun k => IntKind.i64.wrap (k + (c : Int))) = offs (b + c) Ls
  | [], _, _ => rfl
  | l :: ls, b, h => by
    have hs : sumL (l :: ls) = l.length + sumL ls := by simp [sumL]
    show IntKind.i64.wrap ((b : Int) + c) :: (offs (b + l.length) ls).map _ = ((b + c : Nat) : Int) :: offs (b + c + l.length) ls
    have e : IntKind.i64.wrap ((b : Int) + c) = ((b + c : Nat) : Int) := by rw [IntKind.wrap_i64]; omega
    rw [offs_two c ls (b + l.length) (by omega), show b + l.length + c = b + c + l.length by omega, e]
theorem mk_two {y : Nd} {Ls : List (List Nd)} (c : Nat) (h : ∀ l ∈ Ls, l.length ≠ 0) (hs : c + 1 + sumL Ls ≤ 1000000000000) : (mkL y Ls).map (shN (c : Int)) = ⟨y.k, y.x, y.m, offs (c + 1) Ls, y.p⟩ :: body (c + 1) Ls := by
  rw [mkL_form h, List.map_cons, body_two, show 1 + c = c + 1 by omega]
  congr 1
  show Nd.mk y.k y.x y.m ((offs 1 Ls).map _) y.p = _
  rw [offs_two c Ls 1 (by omega), show 1 + c = c + 1 by omega]
theorem offs_app : ∀ (Ls Ms : List (List Nd)) (b : Nat), offs b (Ls ++ Ms) = offs b Ls ++ offs (b + sumL Ls) Ms
  | [], Ms, b => by simp [sumL, offs]
  | l :: ls, Ms, b => by
    show (b : Int) :: offs (b + l.length) (ls ++ Ms) = (b : Int) :: offs (b + l.length) ls ++ offs (b + sumL (l :: ls)) Ms
    rw [offs_app ls Ms, show sumL (l :: ls) = l.length + sumL ls by simp [sumL]]
    simp [Nat.add_assoc]
theorem body_app : ∀ (Ls Ms : List (List Nd)) (b : Nat), body b (Ls ++ Ms) = body b Ls ++ body (b + sumL Ls) Ms
  | [], Ms, b => by simp [sumL, body]
  | l :: ls, Ms, b => by
    show l.map (shN (b : Int)) ++ body (b + l.length) (ls ++ Ms) = (l.map (shN (b : Int)) ++ body (b + l.length) ls) ++ body (b + sumL (l :: ls)) Ms
    rw [body_app ls Ms, show sumL (l :: ls) = l.length + sumL ls by simp [sumL], List.append_assoc, Nat.add_assoc]
/-! ### how many nodes are left -/
theorem strip_len {L : List Nd} : ∀ (f n e : Nat), Sp L n e → e - n ≤ f → 0 < (stripL L f n).length ∧ (stripL L f n).length ≤ e - n := by
  intro f
  induction f with
  | zero => intro n e h hf; have := h.lt; omega
  | succ f ih =>
    intro n e h hf
    have hlt := h.lt
    obtain ⟨h1, h2, h3⟩ := h
    unfold stripL
    by_cases hk : (nd L n).k = 33 ∨ (nd L n).k = 34
    · rw [if_pos hk]
      have h0 := kid0 h2 hk
      generalize hks : (nd L n).ks = ks at h3 h0 ⊢
      cases h3 with
      | nil => simp at h0
      | @cons ks' _ m _ g1 g2 g3 g4 =>
        have l1 := g3.le
        have l2 := g4.le
        have := ih (n + 1) m ⟨g1, g2, g3⟩ (by omega)
        simp only [List.getD_cons_zero]
        omega
    · rw [if_neg hk]
      have hp : ∀ i s m, n + 1 ≤ s → m ≤ e → Sp L s m → sumL (stepS L (stripL L f) (nd L n).k i (s : Int)) ≤ m - s ∧ ∀ l ∈ stepS L (stripL L f) (nd L n).k i (s : Int), l.length ≠ 0 := by
        intro i s m hs hm hS
        have hl := hS.lt
        unfold stepS
        split
        · exact ⟨by simp [sumL]; omega, by simp⟩
        · split
          · exact ⟨by simp [sumL], by simp⟩
          · have h5 := ih s m hS (by omega)
            exact ⟨by simp [sumL]; omega, by simp; intro h6; rw [h6] at h5; simp at h5⟩
      have hnz : ∀ l ∈ partsL (stepS L (stripL L f) (nd L n).k) 0 (nd L n).ks, l.length ≠ 0 := by
        apply parts_mem
        intro j y hy l hl
        obtain ⟨s, rfl, hs1, hs2⟩ := h3.kid y hy
        obtain ⟨m, hS, hm⟩ := h3.sub s hs1 hs2
        exact (hp j s m hs1 hm hS).2 l hl
      rw [mkL_len hnz]
      have := parts_sum h3 (fun i s m a b c => (hp i s m a b c).1) 0
      omega
/-! ### what is not in a row is not left out -/
theorem exp_left {L : List Nd} {f : Nat} {n : Int} (h : expK (nd L n) = true) : leftB L (f + 1) n = (decide ((nd L n).k = 51) || decide ((nd L n).k = 52)) := by
  have hk : (nd L n).k = 40 ∨ (nd L n).k = 41 ∨ (nd L n).k = 42 ∨ (nd L n).k = 47 ∨ (nd L n).k = 49 ∨ (nd L n).k = 51 ∨ (nd L n).k = 52 := by
    unfold expK at h
    split at h
    · omega
    · split at h
      · omega
      · simp only [Bool.or_eq_true, beq_iff_eq] at h
        omega
  unfold leftB
  rcases hk with hk | hk | hk | hk | hk | hk | hk <;> rw [hk] <;> simp
/-- No kid in a place of its own is left out, if its node is not. -/
theorem step_stays {L : List Nd} {n : Nat} (h : fitsB L n = true) (hl : leftB L L.length n = false) (hn : n < L.length) (hk : (nd L n).k ≠ 2 ∧ (nd L n).k ≠ 3 ∧ (nd L n).k ≠ 49 ∧ (nd L n).k ≠ 63) (q : Nat) (hq : q < (nd L n).ks.length) : leftB L L.length ((nd L n).ks.getD q 0) = false := by
  by_cases h5 : (nd L n).k = 50
  · obtain ⟨e1, e2⟩ := export_kid h h5
    obtain rfl : q = 0 := by omega
    obtain ⟨f, hf⟩ : ∃ f, L.length = f + 1 := ⟨L.length - 1, by omega⟩
    rw [hf] at hl ⊢
    rw [exp_left e2]
    unfold leftB at hl
    rw [if_neg (by omega), if_pos h5] at hl
    cases f with
    | zero =>
      exfalso
      have h1 := (Bool.and_eq_true_iff.1 (show (saidB (nd L n) && kidsP L (nd L n)) = true from h)).2
      unfold kidsP at h1
      have h2 := List.all_eq_true.1 (Bool.and_eq_true_iff.1 h1).1 ((nd L n).ks.getD 0 0) (by simp [List.getD, hq])
      obtain ⟨j, hj, hj2⟩ := inL_nat h2
      have hj0 : j = 0 := by omega
      have hn0 : n = 0 := by omega
      subst hn0
      rw [hj, hj0] at e2
      unfold expK at e2
      rw [h5] at e2
      simp at e2
    | succ f => rw [exp_left e2] at hl; exact hl
  · exact left_kind (kid_stays h ⟨hk.1, hk.2.1, hk.2.2.1, h5, hk.2.2.2⟩ q hq)
/-! ### the program's list, one kid more -/
theorem body_one (b : Nat) (l : List Nd) : body b [l] = l.map (shN (b : Int)) := by simp [body]
theorem shN_bare (z : Int) (y : Nd) (h : y.ks = []) : shN z y = y := by
  obtain ⟨k, x, m, ks, p⟩ := y
  simp only at h
  subst h
  rfl
theorem laid_len (P : List Nd) (y : Nd) (A : List (List Nd)) : (P ++ y :: body (P.length + 1) A).length = P.length + 1 + sumL A := by
  rw [List.length_append, List.length_cons, body_len]; omega
/-- A kid that is laid out: the list grows by it, moved to the list's end. -/
theorem laid_more (P : List Nd) (y : Nd) (A : List (List Nd)) (l : List Nd) : (P ++ y :: body (P.length + 1) A) ++ l.map (shN (((P ++ y :: body (P.length + 1) A).length : Nat) : Int)) = P ++ y :: body (P.length + 1) (A ++ [l]) := by
  rw [laid_len, body_app, body_one, List.append_assoc, List.cons_append]
theorem laid_kids (P : List Nd) (y : Nd) (A : List (List Nd)) (l : List Nd) : offs (P.length + 1) A ++ [(((P ++ y :: body (P.length + 1) A).length : Nat) : Int)] = offs (P.length + 1) (A ++ [l]) := by
  rw [laid_len, offs_app]; rfl
/-- All kids laid out, and the node's own kids set: the node stripped stands at the list's end. -/
theorem laid_all (P : List Nd) (y : Nd) (A : List (List Nd)) (h : ∀ l ∈ A, l.length ≠ 0) (hs : P.length + 1 + sumL A ≤ 1000000000000) : P ++ (mkL y A).map (shN ((P.length : Nat) : Int)) = P ++ (⟨y.k, y.x, y.m, offs (P.length + 1) A, y.p⟩ :: body (P.length + 1) A) := by
  rw [mk_two P.length h hs]
/-! ### what stands beneath As and Bang -/
theorem bang_kid {L : List Nd} {n : Int} (h : fitsB L n = true) (hk : (nd L n).k = 33 ∨ (nd L n).k = 34) : exprK (nd L ((nd L n).ks.getD 0 0)).k = true := by
  have h0 := kid0 h hk
  have h1 := (Bool.and_eq_true_iff.1 (show (saidB (nd L n) && kidsP L (nd L n)) = true from h)).2
  unfold kidsP at h1
  have h2 := (Bool.and_eq_true_iff.1 h1).2
  rw [if_neg (by omega), if_neg (by omega)] at h2
  rcases hk with hk | hk
  · rw [hk, show tab 33 = some ([exprP, typeP], false) by simp [tab]] at h2
    simp only [Bool.and_eq_true] at h2
    have h3 := each_at _ _ h2.1.2 0 h0
    simpa [exprP] using h3
  · rw [hk, show tab 34 = some ([exprP], false) by simp [tab]] at h2
    simp only [Bool.and_eq_true] at h2
    have h3 := each_at _ _ h2.1.2 0 h0
    simpa [exprP] using h3
theorem expr_stays {L : List Nd} {f : Nat} {n : Int} (h : exprK (nd L n).k = true) : leftB L f n = false := left_kind (stays_expr L n h)
end Go.Proofs.YtpkdhciokiomlaaDoor
