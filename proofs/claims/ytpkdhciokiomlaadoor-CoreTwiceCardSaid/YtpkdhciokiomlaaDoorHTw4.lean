/- Chapter 5, plain: what is stripped is a good tree. No program in sight. -/
import Derived.Test.YtpkdhciokiomlaaDoorHTw3
namespace Go.Proofs.YtpkdhciokiomlaaDoor
set_option linter.unusedVariables false
set_option linter.unusedSimpArgs false
set_option linter.unnecessarySimpa false
open Go.RowKit
def Emp (p : Plc) : Prop := ∀ (L : List Nd) (y : Int), p L y = true → p [oneN (nd L y)] ((0 : Nat) : Int) = true
theorem emp_rows (p : Plc) : Emp (rowsP p) := fun L y h => by
  obtain ⟨hk, -⟩ := Bool.and_eq_true_iff.1 (show ((nd L y).k == 2 && _) = true from h)
  have hk2 : (nd L y).k = 2 := by simpa using hk
  unfold oneN
  rw [if_pos hk2]
  rfl
theorem emp_type : Emp (orP typeP (ofP [1])) := fun L y h => by
  have hk2 : (nd L y).k ≠ 2 := fun hk2 => by
    rcases Bool.or_eq_true_iff.1 (show (typeK (nd L y).k || ([1] : List Int).contains (nd L y).k) = true from h) with h1 | h1 <;> rw [hk2] at h1 <;> cases h1
  unfold oneN
  rw [if_neg hk2]
  rfl
theorem emp_fun : Emp (orP (ofP [43]) (ofP [1])) := fun L y h => by
  have hk2 : (nd L y).k ≠ 2 := fun hk2 => by
    rcases Bool.or_eq_true_iff.1 (show (([43] : List Int).contains (nd L y).k || ([1] : List Int).contains (nd L y).k) = true from h) with h1 | h1 <;> rw [hk2] at h1 <;> cases h1
  unfold oneN
  rw [if_neg hk2]
  rfl
theorem emptied_kind {k : Int} {q : Nat} (h : emptied k q = true) : ((k = 22 ∨ k = 43 ∨ k = 40 ∨ k = 44 ∨ k = 66) ∧ q = 0) ∨ ((k = 27 ∨ k = 28) ∧ q = 1) ∨ ((k = 41 ∨ k = 45 ∨ k = 42) ∧ (q = 0 ∨ q = 2)) := by
  unfold emptied at h
  split at h
  · next h1 => exact .inl ⟨h1, by simpa using h⟩
  · split at h
    · next h1 => exact .inr (.inl ⟨h1, by simpa using h⟩)
    · split at h
      · next h1 => exact .inr (.inr ⟨h1, by simpa using h⟩)
      · cases h
set_option maxRecDepth 100000 in
theorem tab_emp {k : Int} {q : Nat} {ps : List Plc} {many : Bool} (h : emptied k q = true) (ht : tab k = some (ps, many)) : many = false ∧ Emp (ps.getD q anyP) ∧ q < ps.length := by
  rcases emptied_kind h with ⟨hk, rfl⟩ | ⟨hk, rfl⟩ | ⟨hk, hq⟩
  · rcases hk with rfl | rfl | rfl | rfl | rfl
    · rw [show tab 22 = some ([rowsP (ofP [67]), rowsP plainP, orP (ofP [63]) exprP], false) from rfl] at ht
      injection ht with ht; injection ht with h1 h2; subst h1; exact ⟨h2.symm, emp_rows _, by simp⟩
    · rw [show tab 43 = some ([rowsP typeP], false) from rfl] at ht
      injection ht with ht; injection ht with h1 h2; subst h1; exact ⟨h2.symm, emp_rows _, by simp⟩
    · rw [show tab 40 = some ([orP typeP (ofP [1]), exprP], false) from rfl] at ht
      injection ht with ht; injection ht with h1 h2; subst h1; exact ⟨h2.symm, emp_type, by simp⟩
    · rw [show tab 44 = some ([orP typeP (ofP [1]), orP exprP (ofP [1])], false) from rfl] at ht
      injection ht with ht; injection ht with h1 h2; subst h1; exact ⟨h2.symm, emp_type, by simp⟩
    · rw [show tab 66 = some ([orP typeP (ofP [1])], false) from rfl] at ht
      injection ht with ht; injection ht with h1 h2; subst h1; exact ⟨h2.symm, emp_type, by simp⟩
  · rcases hk with rfl | rfl
    · rw [show tab 27 = some ([exprP, rowsP typeP, rowsP exprP], false) from rfl] at ht
      injection ht with ht; injection ht with h1 h2; subst h1; exact ⟨h2.symm, emp_rows _, by simp⟩
    · rw [show tab 28 = some ([pathP, rowsP typeP, rowsP exprP], false) from rfl] at ht
      injection ht with ht; injection ht with h1 h2; subst h1; exact ⟨h2.symm, emp_rows _, by simp⟩
  · rcases hk with rfl | rfl | rfl
    · rw [show tab 41 = some ([rowsP (ofP [67]), rowsP plainP, orP typeP (ofP [1]), ofP [63]], false) from rfl] at ht
      injection ht with ht; injection ht with h1 h2; subst h1
      rcases hq with rfl | rfl
      · exact ⟨h2.symm, emp_rows _, by simp⟩
      · exact ⟨h2.symm, emp_type, by simp⟩
    · rw [show tab 45 = some ([rowsP (ofP [67]), rowsP plainP, orP typeP (ofP [1]), ofP [63]], false) from rfl] at ht
      injection ht with ht; injection ht with h1 h2; subst h1
      rcases hq with rfl | rfl
      · exact ⟨h2.symm, emp_rows _, by simp⟩
      · exact ⟨h2.symm, emp_type, by simp⟩
    · rw [show tab 42 = some ([rowsP (ofP [67]), orP (ofP [43]) (ofP [1]), rowsP (ofP [80]), memP], false) from rfl] at ht
      injection ht with ht; injection ht with h1 h2; subst h1
      rcases hq with rfl | rfl
      · exact ⟨h2.symm, emp_rows _, by simp⟩
      · exact ⟨h2.symm, emp_rows _, by simp⟩
theorem tmpl_iff {L : List Nd} : ∀ (ks : List Int) (i : Nat), tmplP L i ks = true ↔ ∀ q, q < ks.length → (if (i + q) % 2 = 0 then (nd L (ks.getD q 0)).k == 11 else exprK (nd L (ks.getD q 0)).k) = true
  | [], _ => ⟨fun _ q hq => absurd hq (by simp), fun _ => rfl⟩
  | k :: ks, i => by
    have e : tmplP L i (k :: ks) = ((if i % 2 = 0 then (nd L k).k == 11 else exprK (nd L k).k) && tmplP L (i + 1) ks) := rfl
    rw [e, Bool.and_eq_true, tmpl_iff ks (i + 1)]
    constructor
    · rintro ⟨h0, h1⟩ q hq
      cases q with
      | zero => simpa using h0
      | succ q =>
        have := h1 q (by simpa using hq)
        rw [show i + 1 + q = i + (q + 1) by omega] at this
        simpa using this
    · intro h
      refine ⟨by simpa using h 0 (by simp), fun q hq => ?_⟩
      have := h (q + 1) (by simpa using hq)
      rw [show i + (q + 1) = i + 1 + q by omega] at this
      simpa using this
theorem each_iff {L : List Nd} {ps : List Plc} : ∀ (ks : List Int) (i : Nat), eachP L ps i ks = true ↔ ∀ q, q < ks.length → (ps.getD (min (i + q) (ps.length - 1)) anyP) L (ks.getD q 0) = true
  | [], _ => ⟨fun _ q hq => absurd hq (by simp), fun _ => rfl⟩
  | k :: ks, i => by
    have e : eachP L ps i (k :: ks) = ((ps.getD (min i (ps.length - 1)) anyP) L k && eachP L ps (i + 1) ks) := rfl
    rw [e, Bool.and_eq_true, each_iff ks (i + 1)]
    constructor
    · rintro ⟨h0, h1⟩ q hq
      cases q with
      | zero => simpa using h0
      | succ q =>
        have := h1 q (by simpa using hq)
        rw [show i + 1 + q = i + (q + 1) by omega] at this
        simpa using this
    · intro h
      refine ⟨by simpa using h 0 (by simp), fun q hq => ?_⟩
      have := h (q + 1) (by simpa using hq)
      rw [show i + (q + 1) = i + 1 + q by omega] at this
      simpa using this
theorem norm_said {y : Nd} (ks : List Int) (p : Int) (h : saidB y = true) : saidB ⟨(normN y).k, (normN y).x, (normN y).m, ks, p⟩ = true := by
  obtain ⟨h1, h2⟩ := Bool.and_eq_true_iff.1 (show (textK y.k y.x && numK y.k y.m) = true from h)
  refine Bool.and_eq_true_iff.2 ⟨?_, ?_⟩
  · show textK (normN y).k (normN y).x = true
    rw [norm_k, norm_x]; exact h1
  · show numK (normN y).k (normN y).m = true
    rw [norm_k]
    by_cases h44 : y.k = 44
    · unfold normN
      rw [if_pos h44, h44]
      rfl
    · by_cases h66 : y.k = 66
      · unfold normN
        rw [if_neg h44, if_pos h66, h66]
        simp only
        split <;> rfl
      · rw [norm_m y ⟨h44, h66⟩]; exact h2
theorem places_get {Q : Plc → Prop} {ps : List Plc} (h : ∀ p ∈ ps, Q p) (ha : Q anyP) (i : Nat) : Q (ps.getD i anyP) := by
  rw [List.getD_eq_getElem?_getD]
  rcases hq : ps[i]? with _ | p
  · exact ha
  · exact h p (List.mem_of_getElem? hq)
theorem ks_get {ks : List Int} {j : Int} (h : j ∈ ks) : ∃ q, q < ks.length ∧ ks.getD q 0 = j := by
  obtain ⟨q, hq, e⟩ := List.getElem_of_mem h
  exact ⟨q, hq, by rw [List.getD_eq_getElem?_getD, List.getElem?_eq_getElem hq, e]; rfl⟩
theorem row_tab {k : Int} (h : rowK k = true) {ps : List Plc} {many : Bool} (ht : tab k = some (ps, many)) : many = true ∧ ps.length = 1 := by
  have hk : k = 3 ∨ k = 63 ∨ k = 49 ∨ k = 2 := by
    simp only [rowK, Bool.or_eq_true, beq_iff_eq] at h
    omega
  rcases hk with rfl | rfl | rfl | rfl
  · rw [show tab 3 = some ([stmtP], true) from rfl] at ht
    injection ht with ht; injection ht with h1 h2; subst h1; exact ⟨h2.symm, rfl⟩
  · rw [show tab 63 = some ([stmtP], true) from rfl] at ht
    injection ht with ht; injection ht with h1 h2; subst h1; exact ⟨h2.symm, rfl⟩
  · rw [show tab 49 = some ([orP stmtP (ofP [50])], true) from rfl] at ht
    injection ht with ht; injection ht with h1 h2; subst h1; exact ⟨h2.symm, rfl⟩
  · rw [show tab 2 = some ([anyP], true) from rfl] at ht
    injection ht with ht; injection ht with h1 h2; subst h1; exact ⟨h2.symm, rfl⟩
theorem strip_good {L : List Nd} (hL : L.length ≤ 1000000) : ∀ (f n e : Nat), Sp L n e → e - n ≤ f → leftB L L.length n = false → GoodT (stripL L f n) := by
  intro f
  induction f using Nat.strongRecOn with
  | ind f ih =>
    intro n e h hf hl
    have hg : GoodBelow L f := fun f' n e hff hS hf hl => ih f' hff n e hS hf hl
    obtain ⟨n', e', f', g1, g2, g3, g4, g5, g6, g7, g8, g9⟩ := strip_form f n e h hf
    have hl' : leftB L L.length n' = false := by
      by_cases hk : (nd L n).k = 33 ∨ (nd L n).k = 34
      · exact expr_stays (g8 hk)
      · rw [g9 hk]; exact hl
    have hgd := parts_good hg g3 g1 g2
    have hsm := parts_small hL g1 g2
    have hlay := (mk_laid (y := normN (nd L n')) hgd hsm).1
    rw [g7]
    have hfit := g1.2.1
    obtain ⟨hsaid, hkids⟩ := Bool.and_eq_true_iff.1 (show (saidB (nd L n') && kidsP L (nd L n')) = true from hfit)
    -- each part, in its place
    have hat := fun q (hq : q < (partsL (stepS L (stripL L f') (nd L n').k) 0 (nd L n').ks).length) => mk_at (y := normN (nd L n')) hgd hsm q hq
    have hkd := fun q (hq : q < (nd L n').ks.length) => kid_sp g1 hq
    have hpr : rowK (nd L n').k = true → ∀ l ∈ partsL (stepS L (stripL L f') (nd L n').k) 0 (nd L n').ks, ∃ j ∈ (nd L n').ks, leftB L L.length j = false ∧ l = stripL L f' j := fun hr l hl => part_row hr hl
    have hpa : rowK (nd L n').k = false → _ := fun hr => part_all (g := stripL L f') g1.2.1 hl' g1.1 hr
    have hst : rowK (nd L n').k = false → ∀ q, q < (nd L n').ks.length → leftB L L.length ((nd L n').ks.getD q 0) = false := fun hr q hq => step_stays g1.2.1 hl' g1.1 (row_not hr) q hq
    refine mk_good hgd hsm ?_
    generalize partsL (stepS L (stripL L f') (nd L n').k) 0 (nd L n').ks = Ls at *
    have hroot := mk_root (y := normN (nd L n')) hgd
    show (saidB (nd (mkL (normN (nd L n')) Ls) ((0 : Nat) : Int)) && kidsP (mkL (normN (nd L n')) Ls) (nd (mkL (normN (nd L n')) Ls) ((0 : Nat) : Int))) = true
    rw [hroot]
    refine Bool.and_eq_true_iff.2 ⟨norm_said _ _ hsaid, ?_⟩
    have hin : (offs 1 Ls).all (inL (mkL (normN (nd L n')) Ls)) = true := List.all_eq_true.2 fun k hk => by
      obtain ⟨a, rfl, ha1, ha2⟩ := hlay.kid k hk
      rw [inL_iff]; omega
    generalize hX : mkL (normN (nd L n')) Ls = X at *
    -- a place that took the kid takes the part
    have key : ∀ (p : Plc), Shf p → Trn p → ∀ q b (hq : q < Ls.length) (j : Int), (offs 1 Ls).getD q 0 = (b : Int) → Ls.getD q [] = stripL L f' j → j ∈ (nd L n').ks → leftB L L.length j = false → p L j = true → p X ((offs 1 Ls).getD q 0) = true := by
      intro p hs ht q b hq j hb he hj hlj hp
      obtain ⟨b', hb', hem⟩ := hat q hq
      rw [hb', emb0 hs hem (hgd _ (getD_mem5 hq)), he]
      obtain ⟨i, rfl, h1, h2⟩ := g1.2.2.kid j hj
      obtain ⟨m, hS, hm⟩ := g1.2.2.sub i h1 h2
      exact ht L f' i m hL hS (by omega) hlj (fun f2 a b c => hg f2 a b (by omega)) hp
    have keyE : ∀ (p : Plc), Shf p → Emp p → ∀ q (hq : q < Ls.length) (j : Int), Ls.getD q [] = [oneN (nd L j)] → p L j = true → p X ((offs 1 Ls).getD q 0) = true := by
      intro p hs he q hq j e hp
      obtain ⟨b', hb', hem⟩ := hat q hq
      rw [hb', emb0 hs hem (hgd _ (getD_mem5 hq)), e]
      exact he L j hp
    unfold kidsP at hkids ⊢
    obtain ⟨hin0, hk2⟩ := Bool.and_eq_true_iff.1 hkids
    refine Bool.and_eq_true_iff.2 ⟨hin, ?_⟩
    simp only [norm_k]
    by_cases h12 : (nd L n').k = 12
    · rw [if_pos h12] at hk2 ⊢
      obtain ⟨ht, hlen⟩ := Bool.and_eq_true_iff.1 hk2
      have hr : rowK (nd L n').k = false := by rw [h12]; rfl
      obtain ⟨hpl, hpq⟩ := hpa hr
      refine Bool.and_eq_true_iff.2 ⟨(tmpl_iff _ 0).2 fun q hq => ?_, by rw [offs_len, hpl]; exact hlen⟩
      rw [offs_len] at hq
      have hq2 : q < (nd L n').ks.length := by omega
      have h1 := (tmpl_iff _ 0).1 ht q hq2
      have h2 := hpq q hq2
      rw [h12, if_neg (by simp [emptied])] at h2
      have hmem : (nd L n').ks.getD q 0 ∈ (nd L n').ks := by rw [List.getD_eq_getElem?_getD, List.getElem?_eq_getElem hq2]; exact List.getElem_mem hq2
      obtain ⟨b, hb, -⟩ := hat q hq
      split at h1
      · next hp =>
        rw [if_pos hp]
        have := key (ofP [11]) (shf_of _) (trn_of (by decide)) q b hq _ hb h2 hmem (hst hr q hq2) (by show ([11] : List Int).contains _ = true; rw [show (nd L ((nd L n').ks.getD q 0)).k = 11 by simpa using h1]; rfl)
        have e : ([11] : List Int).contains (nd X ((offs 1 Ls).getD q 0)).k = true := this
        simpa using e
      · next hp =>
        rw [if_neg hp]
        exact key exprP shf_expr trn_expr q b hq _ hb h2 hmem (hst hr q hq2) h1
    · rw [if_neg h12] at hk2 ⊢
      by_cases h87 : (nd L n').k = 87
      · rw [if_pos h87] at hk2 ⊢
        obtain ⟨hlen, ht⟩ := Bool.and_eq_true_iff.1 hk2
        have hr : rowK (nd L n').k = false := by rw [h87]; rfl
        obtain ⟨hpl, hpq⟩ := hpa hr
        refine Bool.and_eq_true_iff.2 ⟨by rw [offs_len, hpl]; exact hlen, List.all_eq_true.2 fun k hk => ?_⟩
        obtain ⟨q, hq, rfl⟩ := offs_get hk
        have hq2 : q < (nd L n').ks.length := by omega
        have h2 := hpq q hq2
        rw [h87, if_neg (by simp [emptied])] at h2
        have hmem : (nd L n').ks.getD q 0 ∈ (nd L n').ks := by rw [List.getD_eq_getElem?_getD, List.getElem?_eq_getElem hq2]; exact List.getElem_mem hq2
        obtain ⟨b, hb, -⟩ := hat q hq
        exact key typeP shf_type trn_type q b hq _ hb h2 hmem (hst hr q hq2) (List.all_eq_true.1 ht _ hmem)
      · rw [if_neg h87] at hk2 ⊢
        cases ht : tab (nd L n').k with
        | none => rw [ht] at hk2; cases hk2
        | some pm =>
          obtain ⟨ps, many⟩ := pm
          rw [ht] at hk2
          simp only at hk2 ⊢
          obtain ⟨hk3, h61⟩ := Bool.and_eq_true_iff.1 hk2
          obtain ⟨hlen, heach⟩ := Bool.and_eq_true_iff.1 hk3
          have hsh := shf_tab _ _ ht
          have htr := trn_tab _ _ ht
          have hev := (each_iff _ 0).1 heach
          by_cases hr : rowK (nd L n').k = true
          · obtain ⟨hmany, hone⟩ := row_tab hr ht
            subst hmany
            refine Bool.and_eq_true_iff.2 ⟨Bool.and_eq_true_iff.2 ⟨rfl, (each_iff _ 0).2 fun q hq => ?_⟩, ?_⟩
            · rw [offs_len] at hq
              obtain ⟨j, hj, hlj, e⟩ := hpr hr _ (getD_mem5 hq)
              obtain ⟨q2, hq2, e2⟩ := ks_get hj
              have h1 := hev q2 hq2
              rw [hone, Nat.sub_self, Nat.min_zero, e2] at h1
              rw [hone, Nat.sub_self, Nat.min_zero]
              obtain ⟨b, hb, -⟩ := hat q hq
              exact key _ (places_get hsh shf_any 0) (places_get htr trn_any 0) q b hq j hb e hj hlj h1
            · have : (nd L n').k ≠ 61 := fun e => by rw [e] at hr; cases hr
              rw [show ((nd L n').k == 61) = false from by simpa using this]
              rfl
          · have hr' : rowK (nd L n').k = false := by simpa using hr
            obtain ⟨hpl, hpq⟩ := hpa hr'
            have hplace : ∀ q, q < Ls.length → (ps.getD (min (0 + q) (ps.length - 1)) anyP) X ((offs 1 Ls).getD q 0) = true := fun q hq => by
              have hq2 : q < (nd L n').ks.length := by omega
              have h1 := hev q hq2
              have h2 := hpq q hq2
              have hmem : (nd L n').ks.getD q 0 ∈ (nd L n').ks := by rw [List.getD_eq_getElem?_getD, List.getElem?_eq_getElem hq2]; exact List.getElem_mem hq2
              obtain ⟨b, hb, -⟩ := hat q hq
              by_cases hem : emptied (nd L n').k q = true
              · rw [if_pos hem] at h2
                obtain ⟨hm, hE, hql⟩ := tab_emp hem ht
                have hmin : min (0 + q) (ps.length - 1) = q := by omega
                rw [hmin] at h1 ⊢
                exact keyE _ (places_get hsh shf_any q) hE q hq _ h2 h1
              · rw [if_neg hem] at h2
                exact key _ (places_get hsh shf_any _) (places_get htr trn_any _) q b hq _ hb h2 hmem (hst hr' q hq2) h1
            refine Bool.and_eq_true_iff.2 ⟨Bool.and_eq_true_iff.2 ⟨by rw [offs_len, hpl]; exact hlen, (each_iff _ 0).2 fun q hq => hplace q (by rwa [offs_len] at hq)⟩, ?_⟩
            by_cases hk61 : (nd L n').k = 61
            · have e61 : tab (nd L n').k = some ([ofP [63], orP (ofP [62]) (ofP [1]), orP (ofP [63]) (ofP [1])], false) := by rw [hk61]; rfl
              rw [e61] at ht
              injection ht with ht
              injection ht with hp1 hp2
              subst hp1
              subst hp2
              have h3 : (nd L n').ks.length = 3 := by
                simp at hlen
                omega
              have hkk : ∀ q, (hq : q < 3) → (nd L ((nd L n').ks.getD q 0)).k ≠ 33 ∧ (nd L ((nd L n').ks.getD q 0)).k ≠ 34 → (nd X ((offs 1 Ls).getD q 0)).k = (nd L ((nd L n').ks.getD q 0)).k := fun q hq hne => by
                have hq1 : q < Ls.length := by omega
                have h2 := hpq q (by omega)
                rw [hk61, if_neg (by simp [emptied])] at h2
                obtain ⟨b, hb, hem⟩ := hat q hq1
                obtain ⟨i, m, e1, hS, hni, hme⟩ := hkd q (by omega)
                rw [hb]
                have h4 := (hem.kids (in0 (hgd _ (getD_mem5 hq1)))).2.1
                rw [show (((0 : Nat) : Int) + (b : Int)) = (b : Int) by omega] at h4
                rw [h4, h2, e1]
                rw [e1] at hne
                exact ((strip_k hS (by omega)).1 (by omega)).1
              have k1 : (nd L ((nd L n').ks.getD 1 0)).k = 62 ∨ (nd L ((nd L n').ks.getD 1 0)).k = 1 := by
                have := hev 1 (by omega)
                have e : (([62] : List Int).contains (nd L ((nd L n').ks.getD 1 0)).k || ([1] : List Int).contains (nd L ((nd L n').ks.getD 1 0)).k) = true := this
                simpa using e
              have k2 : (nd L ((nd L n').ks.getD 2 0)).k = 63 ∨ (nd L ((nd L n').ks.getD 2 0)).k = 1 := by
                have := hev 2 (by omega)
                have e : (([63] : List Int).contains (nd L ((nd L n').ks.getD 2 0)).k || ([1] : List Int).contains (nd L ((nd L n').ks.getD 2 0)).k) = true := this
                simpa using e
              rw [hkk 1 (by omega) (by omega), hkk 2 (by omega) (by omega)]
              exact h61
            · rw [show ((nd L n').k == 61) = false from by simpa using hk61]
              rfl
end Go.Proofs.YtpkdhciokiomlaaDoor
