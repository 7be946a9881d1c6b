/- Chapter 5, plain: members and paths, stripped; the table's places. No program in sight. -/
import Derived.Test.YtpkdhciokiomlaaDoorHBZ16
namespace Go.Proofs.YtpkdhciokiomlaaDoor
set_option linter.unusedVariables false
set_option linter.unusedSimpArgs false
set_option linter.unnecessarySimpa false
open Go.RowKit
theorem filter_two {α β : Type} (f : α → Bool) (g : β → Bool) (a0 : α) (b0 : β) : ∀ (A : List α) (B : List β), A.length = B.length → (∀ q, q < A.length → f (A.getD q a0) = g (B.getD q b0)) → (A.filter f).length = (B.filter g).length
  | [], [], _, _ => rfl
  | [], b :: B, h, _ => by simp at h
  | a :: A, [], h, _ => by simp at h
  | a :: A, b :: B, h, hq => by
    have h0 := hq 0 (by simp)
    have h1 := filter_two f g a0 b0 A B (by simpa using h) (fun q hq2 => by simpa using hq (q + 1) (by simpa using hq2))
    simp only [List.getD_cons_zero] at h0
    rw [List.filter_cons, List.filter_cons, h0]
    split
    · rw [List.length_cons, List.length_cons, h1]
    · exact h1
def cnt46 (Ls : List (List Nd)) : Nat := (Ls.filter fun l => (nd l ((0 : Nat) : Int)).k == 46).length
theorem cnt_app (A B : List (List Nd)) : cnt46 (A ++ B) = cnt46 A + cnt46 B := by simp [cnt46]
theorem cnt_parts {L : List Nd} {P : Nat → Int → List (List Nd)} : ∀ (ks : List Int) (i : Nat), (∀ i, ∀ y ∈ ks, cnt46 (P i y) ≤ if (nd L y).k = 46 then 1 else 0) → cnt46 (partsL P i ks) ≤ ctorsB L ks
  | [], _, _ => Nat.zero_le _
  | y :: ks, i, h => by
    show cnt46 (P i y ++ partsL P (i + 1) ks) ≤ _
    rw [cnt_app]
    have h0 := h i y (by simp)
    have h1 := cnt_parts (P := P) ks (i + 1) (fun i z hz => h i z (by simp [hz]))
    have e : ctorsB L (y :: ks) = (if (nd L y).k = 46 then 1 else 0) + ctorsB L ks := by
      unfold ctorsB
      rw [List.filter_cons]
      by_cases hk : (nd L y).k = 46
      · rw [if_pos (by rw [hk]; rfl), if_pos hk, List.length_cons]; omega
      · rw [if_neg (by simpa using hk), if_neg hk]; omega
    omega
theorem trn_mem : Trn memP := fun L f n e hL h hf hl hg ho => by
  obtain ⟨hr, hc⟩ := Bool.and_eq_true_iff.1 (show (rowsP (ofP [44, 45, 46]) L n && decide (ctorsB L (nd L n).ks < 2)) = true from ho)
  refine Bool.and_eq_true_iff.2 ⟨trn_rows (trn_of (by decide)) (shf_of _) L f n e hL h hf hl hg hr, ?_⟩
  obtain ⟨hk, hall⟩ := Bool.and_eq_true_iff.1 (show ((nd L n).k == 2 && (nd L n).ks.all fun j => inL L j && ofP [44, 45, 46] L j) = true from hr)
  have hk2 : (nd L n).k = 2 := by simpa using hk
  obtain ⟨n', e', f', g1, g2, g3, g4, g5, g6, g7, g8, g9⟩ := strip_form f n e h hf
  obtain rfl := g9 (by omega)
  have hgd := parts_good hg g3 g1 g2
  have hsm := parts_small hL g1 g2
  rw [g7, mk_root hgd]
  refine decide_eq_true ?_
  have hc2 : ctorsB L (nd L n').ks < 2 := by simpa using hc
  have hcp := cnt_parts (L := L) (P := stepS L (stripL L f') (nd L n').k) (nd L n').ks 0 (fun i y hy => by
    unfold stepS
    rw [row_emptied (show rowK (nd L n').k = true by rw [hk2]; rfl), if_neg (by simp)]
    split
    · exact Nat.zero_le _
    · obtain ⟨a, rfl, h1, h2⟩ := g1.2.2.kid y hy
      obtain ⟨m, hS, hm⟩ := g1.2.2.sub a h1 h2
      have hpk := (Bool.and_eq_true_iff.1 (List.all_eq_true.1 hall (a : Int) hy)).2
      have hka : ¬ ((nd L a).k = 33 ∨ (nd L a).k = 34) := fun hka => by
        have : ([44, 45, 46] : List Int).contains (nd L a).k = true := hpk
        rcases hka with hka | hka <;> rw [hka] at this <;> cases this
      have := ((strip_k hS (show m - a ≤ f' by omega)).1 hka).1
      unfold cnt46
      rw [List.filter_cons, this]
      by_cases h46 : (nd L a).k = 46
      · rw [if_pos (by rw [h46]; rfl), if_pos h46]; simp
      · rw [if_neg (by simpa using h46), if_neg h46]; simp)
  have heq : ctorsB (mkL (normN (nd L n')) (partsL (stepS L (stripL L f') (nd L n').k) 0 (nd L n').ks)) (offs 1 (partsL (stepS L (stripL L f') (nd L n').k) 0 (nd L n').ks)) = cnt46 (partsL (stepS L (stripL L f') (nd L n').k) 0 (nd L n').ks) := by
    unfold ctorsB cnt46
    refine filter_two _ _ 0 [] _ _ (offs_len _ _) (fun q hq => ?_)
    rw [offs_len] at hq
    obtain ⟨b, hb, he⟩ := mk_at (y := normN (nd L n')) hgd hsm q hq
    rw [hb]
    have := (he.kids (in0 (hgd _ (getD_mem5 hq)))).2.1
    rw [show (((0 : Nat) : Int) + (b : Int)) = (b : Int) by omega] at this
    rw [this]
  rw [heq]
  omega
theorem path_trn {L : List Nd} (hL : L.length ≤ 1000000) : ∀ (fl f n e : Nat), Sp L n e → e - n ≤ f → GoodBelow L f → pathIn L fl (n : Int) = true → pathIn (stripL L f n) (stripL L f n).length ((0 : Nat) : Int) = true := by
  intro fl
  induction fl with
  | zero => intro f n e h hf hg hp; cases hp
  | succ fl ih =>
    intro f n e h hf hg hp
    have hp' := hp
    unfold pathIn at hp
    have hk : (nd L n).k = 29 ∨ (nd L n).k = 17 := by
      by_cases h29 : (nd L n).k = 29
      · exact .inl h29
      · rw [if_neg h29] at hp; exact .inr (by simpa using hp)
    obtain ⟨n', e', f', g1, g2, g3, g4, g5, g6, g7, g8, g9⟩ := strip_form f n e h hf
    obtain rfl := g9 (by omega)
    have hgd := parts_good hg g3 g1 g2
    have hsm := parts_small hL g1 g2
    have hln := mk_laid (y := normN (nd L n')) hgd hsm
    rw [g7]
    by_cases h29 : (nd L n').k = 29
    · rw [if_pos h29] at hp
      obtain ⟨ksx, hks0⟩ : ∃ ksx, ksx = (nd L n').ks := ⟨_, rfl⟩
      rw [← hks0] at hp
      rcases ksx with _ | ⟨a, _ | ⟨a2, l2⟩⟩
      · cases hp
      · have hks := hks0.symm
        clear hks0
        obtain ⟨hin, hpj⟩ := Bool.and_eq_true_iff.1 (show (inL L a && pathIn L fl a) = true from hp)
        have hx : exprK (nd L n').k = true := by rw [h29]; rfl
        have hlf : leftB L L.length n' = false := expr_stays hx
        have hpa := part_all (g := stripL L f') g1.2.1 hlf g1.1 (by rw [h29]; rfl)
        have hlen := hpa.1
        rw [hks] at hlen
        have hl1 : (partsL (stepS L (stripL L f') (nd L n').k) 0 (nd L n').ks).length = 1 := by rw [hks]; exact hlen
        have hp0 := hpa.2 0 (by rw [hks]; simp)
        rw [h29, if_neg (by simp [emptied])] at hp0
        rw [← h29] at hp0
        obtain ⟨j, m, e1, hS, e2, e3⟩ := kid_sp g1 (q := 0) (by rw [hks]; simp)
        rw [e1] at hp0
        have e1' : a = (j : Int) := by rw [hks] at e1; simpa using e1
        subst e1'
        have hij := ih f' j m hS (by omega) (fun f2 a b c => hg f2 a b (by omega)) hpj
        obtain ⟨b, hb, he⟩ := mk_at (y := normN (nd L n')) hgd hsm 0 (by omega)
        have hmem := getD_mem5 (Ls := partsL (stepS L (stripL L f') (nd L n').k) 0 (nd L n').ks) (q := 0) (by omega)
        have hgp := hgd _ hmem
        generalize hLs : partsL (stepS L (stripL L f') (nd L n').k) 0 (nd L n').ks = Ls at *
        obtain ⟨pt, rfl⟩ : ∃ pt, Ls = [pt] := by
          match Ls, hl1 with
          | [pt], _ => exact ⟨pt, rfl⟩
        simp only [List.getD_cons_zero] at hp0 he hgp
        subst hp0
        have hb1 : b = 1 := by
          have : (1 : Int) = (b : Int) := hb
          omega
        subst hb1
        have hXl : (mkL (normN (nd L n')) [stripL L f' (j : Int)]).length = (stripL L f' (j : Int)).length + 1 := by
          rw [mkL_len (fun l hl => good_pos (hgd l hl))]; simp [sumL]
        rw [hXl]
        have hr := mk_root (y := normN (nd L n')) hgd
        unfold pathIn
        rw [hr]
        simp only [norm_k]
        rw [if_pos h29]
        show (inL _ ((1 : Nat) : Int) && pathIn _ _ ((1 : Nat) : Int)) = true
        refine Bool.and_eq_true_iff.2 ⟨by rw [inL_iff, hXl]; have := hgp.1; omega, ?_⟩
        have := path_sh he (stripL L f' (j : Int)).length (stripL L f' (j : Int)).length 0 (by omega) (by omega) hgp.1
        rw [show (((0 : Nat) : Int) + ((1 : Nat) : Int)) = ((1 : Nat) : Int) by omega] at this
        rw [this]
        exact hij
      · cases hp
    · have h17 : (nd L n').k = 17 := by omega
      obtain ⟨x, hx⟩ : ∃ x, (mkL (normN (nd L n')) (partsL (stepS L (stripL L f') (nd L n').k) 0 (nd L n').ks)).length = x + 1 := ⟨_, mkL_len (fun l hl => good_pos (hgd l hl))⟩
      rw [hx]
      unfold pathIn
      rw [mk_k, norm_k, if_neg h29, h17]
      rfl
theorem trn_path : Trn pathP := fun L f n e hL h hf _ hg hp => path_trn hL L.length f n e h hf hg hp
theorem trn_nil : ∀ p ∈ ([] : List Plc), Trn p := fun p hp => by cases hp
theorem trn_cons {p : Plc} {ps : List Plc} (hp : Trn p) (h : ∀ q ∈ ps, Trn q) : ∀ q ∈ p :: ps, Trn q := fun q hq => by
  rcases List.mem_cons.1 hq with rfl | hq
  · exact hp
  · exact h q hq
set_option maxRecDepth 100000 in
theorem trn_tab (k : Int) : ∀ x, tab k = some x → ∀ p ∈ x.1, Trn p := by
  unfold tab
  repeat' (first
    | refine ite_some (Q := fun x : List Plc × Bool => ∀ p ∈ x.1, Trn p) ?_ ?_
    | refine leaf_some (Q := fun x : List Plc × Bool => ∀ p ∈ x.1, Trn p) ?_
    | exact leaf_none (Q := fun x : List Plc × Bool => ∀ p ∈ x.1, Trn p)
    | exact trn_nil
    | refine trn_cons ?_ ?_
    | exact trn_any
    | exact trn_expr
    | exact trn_type
    | exact trn_stmt
    | exact trn_plain
    | exact trn_let
    | exact trn_exp
    | exact trn_path
    | exact trn_mem
    | exact trn_rows (trn_of (by decide)) (shf_of _)
    | exact trn_rows trn_type shf_type
    | exact trn_rows trn_expr shf_expr
    | exact trn_rows trn_plain shf_plain
    | exact trn_of (by decide)
    | refine trn_or ?_ ?_)
end Go.Proofs.YtpkdhciokiomlaaDoor
