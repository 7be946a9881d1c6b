/- Chapter 5, plain: a Strip is clean. No program in sight. -/
import Derived.Test.YtpkdhciokiomlaaDoorHBZ18
namespace Go.Proofs.YtpkdhciokiomlaaDoor
set_option linter.unusedVariables false
set_option linter.unusedSimpArgs false
set_option linter.unnecessarySimpa false
open Go.RowKit
theorem one_one (y : Nd) : oneN (oneN y) = oneN y := by
  unfold oneN
  by_cases h : y.k = 2
  · rw [if_pos h]; rfl
  · rw [if_neg h]; rfl
theorem one_k (y : Nd) : (oneN y).k = 1 ∨ (oneN y).k = 2 := by
  unfold oneN
  by_cases h : y.k = 2
  · rw [if_pos h]; exact .inr rfl
  · rw [if_neg h]; exact .inl rfl
theorem own_leaf (y : Nd) : OwnN [oneN y] 0 := by
  have hk := one_k y
  have e : nd [oneN y] ((0 : Nat) : Int) = oneN y := rfl
  refine ⟨by rw [e]; omega, ?_, fun h => ?_, fun q hq => ?_⟩
  · rw [e]
    unfold normN
    rw [if_neg (by omega), if_neg (by omega)]
  · rw [e] at h; omega
  · rw [e] at hq; exact absurd hq (by simp [oneN])
/-- A kid that is not in a place of types. -/
theorem kid_ok {L : List Nd} {n : Int} (h : fitsB L n = true) (hk : (nd L n).k < 80 ∧ (nd L n).k ≠ 67 ∧ (nd L n).k ≠ 33 ∧ (nd L n).k ≠ 51 ∧ (nd L n).k ≠ 52) (h2 : (nd L n).k = 2 → ∀ j ∈ (nd L n).ks, kindE (nd L j).k ∧ (nd L j).k ≠ 2) (q : Nat) (hq : q < (nd L n).ks.length) (he : emptied (nd L n).k q = false) :
    ((nd L ((nd L n).ks.getD q 0)).k < 80 ∧ (nd L ((nd L n).ks.getD q 0)).k ≠ 67) ∧ ((nd L ((nd L n).ks.getD q 0)).k = 2 → ∀ j ∈ (nd L ((nd L n).ks.getD q 0)).ks, kindE (nd L j).k ∧ (nd L j).k ≠ 2) ∧ ((nd L ((nd L n).ks.getD q 0)).k = 48 ∨ (nd L ((nd L n).ks.getD q 0)).k = 50 → (nd L n).k = 47 ∨ (nd L n).k = 49) := by
  have hmem : (nd L n).ks.getD q 0 ∈ (nd L n).ks := by rw [List.getD_eq_getElem?_getD, List.getElem?_eq_getElem hq]; exact List.getElem_mem hq
  have fin : ∀ {j : Int}, (kindE (nd L j).k ∧ ((nd L j).k = 2 → ∀ i ∈ (nd L j).ks, kindE (nd L i).k ∧ (nd L i).k ≠ 2)) → ((nd L j).k < 80 ∧ (nd L j).k ≠ 67) ∧ ((nd L j).k = 2 → ∀ i ∈ (nd L j).ks, kindE (nd L i).k ∧ (nd L i).k ≠ 2) ∧ ((nd L j).k = 48 ∨ (nd L j).k = 50 → (nd L n).k = 47 ∨ (nd L n).k = 49) := fun {j} hh => by
    obtain ⟨⟨a1, a2, a3, a4⟩, a5⟩ := hh
    exact ⟨⟨a1, a2⟩, a5, fun h => by omega⟩
  by_cases hk2 : (nd L n).k = 2
  · obtain ⟨a, b⟩ := h2 hk2 _ hmem
    exact fin ⟨a, fun e => absurd e b⟩
  · have h1 := (Bool.and_eq_true_iff.1 (show (saidB (nd L n) && kidsP L (nd L n)) = true from h)).2
    unfold kidsP at h1
    have h3 := (Bool.and_eq_true_iff.1 h1).2
    split at h3
    · have h4 := (Bool.and_eq_true_iff.1 h3).1
      rcases tmplP_at _ _ h4 q hq with h5 | h5
      · exact fin ⟨by unfold kindE; omega, fun e => by omega⟩
      · exact fin (cor_expr L _ h5)
    · split at h3
      · omega
      · cases ht : tab (nd L n).k with
        | none => rw [ht] at h3; cases h3
        | some pm =>
          obtain ⟨ps, many⟩ := pm
          rw [ht] at h3
          simp only at h3
          obtain ⟨h4, -⟩ := Bool.and_eq_true_iff.1 h3
          obtain ⟨hlen, heach⟩ := Bool.and_eq_true_iff.1 h4
          have h5 := (each_iff _ 0).1 heach q hq
          rw [Nat.zero_add] at h5
          by_cases h47 : (nd L n).k = 47
          · rw [show tab (nd L n).k = some ([ofP [48]], true) by rw [h47]; rfl] at ht
            injection ht with ht
            injection ht with hp1 hp2
            subst hp1
            simp only [List.length_cons, List.length_nil, Nat.zero_add, Nat.sub_self, Nat.min_zero, List.getD_cons_zero] at h5
            have e : (nd L ((nd L n).ks.getD q 0)).k = 48 := by
              have : ([48] : List Int).contains (nd L ((nd L n).ks.getD q 0)).k = true := h5
              simpa using this
            exact ⟨by omega, fun h => by omega, fun _ => .inl h47⟩
          · by_cases h49 : (nd L n).k = 49
            · rw [show tab (nd L n).k = some ([orP stmtP (ofP [50])], true) by rw [h49]; rfl] at ht
              injection ht with ht
              injection ht with hp1 hp2
              subst hp1
              simp only [List.length_cons, List.length_nil, Nat.zero_add, Nat.sub_self, Nat.min_zero, List.getD_cons_zero] at h5
              rcases Bool.or_eq_true_iff.1 (show (stmtK (nd L ((nd L n).ks.getD q 0)).k || ([50] : List Int).contains (nd L ((nd L n).ks.getD q 0)).k) = true from h5) with h6 | h6
              · exact fin (cor_stmt L _ h6)
              · have e : (nd L ((nd L n).ks.getD q 0)).k = 50 := by simpa using h6
                exact ⟨by omega, fun h => by omega, fun _ => .inr h49⟩
            · have hmany : many = true ∨ q < ps.length := by
                rcases Bool.or_eq_true_iff.1 hlen with h6 | h6
                · exact .inl h6
                · right
                  have : ps.length = (nd L n).ks.length := by simpa using h6
                  omega
              exact fin (tab_cor _ _ ht ⟨hk.1, hk.2.1, hk2, h47, h49, hk.2.2.1, hk.2.2.2.1, hk.2.2.2.2⟩ q he hmany L _ h5)
theorem not_left {L : List Nd} {n : Nat} (hn : n < L.length) (hl : leftB L L.length n = false) : (nd L n).k ≠ 51 ∧ (nd L n).k ≠ 52 := by
  obtain ⟨f, hf⟩ : ∃ f, L.length = f + 1 := ⟨L.length - 1, by omega⟩
  rw [hf] at hl
  unfold leftB at hl
  by_cases h : (nd L n).k = 51 ∨ (nd L n).k = 52
  · rw [if_pos h] at hl; cases hl
  · omega
/-- Each part of a node: where it comes from. -/
theorem part_from {L : List Nd} {g : Int → List Nd} {k : Int} {l : List Nd} : ∀ (ks : List Int) (i : Nat), l ∈ partsL (stepS L g k) i ks → ∃ q, q < ks.length ∧ ((emptied k (i + q) = true ∧ l = [oneN (nd L (ks.getD q 0))]) ∨ (emptied k (i + q) = false ∧ leftB L L.length (ks.getD q 0) = false ∧ l = g (ks.getD q 0)))
  | [], _, h => by cases h
  | y :: ks, i, h => by
    rcases List.mem_append.1 (show l ∈ stepS L g k i y ++ partsL (stepS L g k) (i + 1) ks from h) with h | h
    · refine ⟨0, by simp, ?_⟩
      unfold stepS at h
      split at h
      · next he => simp at h; exact .inl ⟨he, by simpa using h⟩
      · next he =>
        split at h
        · cases h
        · next hb => simp at h; exact .inr ⟨by simpa using he, by simpa using hb, by simpa using h⟩
    · obtain ⟨q, hq, hh⟩ := part_from ks (i + 1) h
      refine ⟨q + 1, by simpa using hq, ?_⟩
      rw [show i + (q + 1) = i + 1 + q by omega]
      simpa using hh
theorem strip_clean {L : List Nd} (hL : L.length ≤ 1000000) : ∀ (f n e : Nat), Sp L n e → e - n ≤ f → leftB L L.length n = false → (nd L n).k < 80 → (nd L n).k ≠ 67 → ((nd L n).k = 2 → ∀ j ∈ (nd L n).ks, kindE (nd L j).k ∧ (nd L j).k ≠ 2) → Clean (stripL L f n) (nd L n).k := by
  intro f
  induction f using Nat.strongRecOn with
  | ind f ih =>
    intro n e h hf hl hk80 hk67 hk2
    have hg : GoodBelow L f := fun f' n e hff hS hf hl => strip_good hL f' n e hS hf hl
    obtain ⟨n', e', f', g1, g2, g3, g4, g5, g6, g7, g8, g9⟩ := strip_form f n e h hf
    have hbk := fun hk : (nd L n).k = 33 ∨ (nd L n).k = 34 => show 10 ≤ (nd L n').k ∧ (nd L n').k ≤ 34 from by
      have := g8 hk
      simp only [exprK, Bool.and_eq_true, decide_eq_true_eq] at this
      exact this.1
    have hl' : leftB L L.length n' = false := by
      by_cases hk : (nd L n).k = 33 ∨ (nd L n).k = 34
      · exact expr_stays (g8 hk)
      · rw [g9 hk]; exact hl
    have hk' : ((nd L n').k < 80 ∧ (nd L n').k ≠ 67) ∧ ((nd L n').k = 2 → ∀ j ∈ (nd L n').ks, kindE (nd L j).k ∧ (nd L j).k ≠ 2) := by
      by_cases hk : (nd L n).k = 33 ∨ (nd L n).k = 34
      · have := hbk hk
        exact ⟨by omega, fun e => by omega⟩
      · rw [g9 hk]; exact ⟨⟨hk80, hk67⟩, hk2⟩
    have hnl := not_left g1.1 hl'
    have hgd := parts_good hg g3 g1 g2
    have hsm := parts_small hL g1 g2
    have hfrom := fun l (hl : l ∈ partsL (stepS L (stripL L f') (nd L n').k) 0 (nd L n').ks) => part_from _ 0 hl
    have hok := fun q (hq : q < (nd L n').ks.length) (he : emptied (nd L n').k q = false) => kid_ok g1.2.1 ⟨hk'.1.1, hk'.1.2, by omega, hnl.1, hnl.2⟩ hk'.2 q hq he
    have hpa : rowK (nd L n').k = false → _ := fun hr => part_all (g := stripL L f') g1.2.1 hl' g1.1 hr
    have hat := fun q (hq : q < (partsL (stepS L (stripL L f') (nd L n').k) 0 (nd L n').ks).length) => mk_at (y := normN (nd L n')) hgd hsm q hq
    have hXg := strip_good hL f n e h hf hl
    have hp : ∀ l ∈ partsL (stepS L (stripL L f') (nd L n').k) 0 (nd L n').ks, l.length ≠ 0 := fun l hl => good_pos (hgd l hl)
    have hcov := mk_cover (partsL (stepS L (stripL L f') (nd L n').k) 0 (nd L n').ks) 1 [⟨(normN (nd L n')).k, (normN (nd L n')).x, (normN (nd L n')).m, offs 1 (partsL (stepS L (stripL L f') (nd L n').k) 0 (nd L n').ks), (normN (nd L n')).p⟩] (mkL (normN (nd L n')) (partsL (stepS L (stripL L f') (nd L n').k) 0 (nd L n').ks)) (mkL_form hp) rfl hgd (by rw [mkL_len hp]; omega)
    have hroot := mk_root (y := normN (nd L n')) hgd
    have hXl := mkL_len (y := normN (nd L n')) hp
    rw [g7] at hXg ⊢
    generalize partsL (stepS L (stripL L f') (nd L n').k) 0 (nd L n').ks = Ls at *
    generalize hX : mkL (normN (nd L n')) Ls = X at *
    -- what each part is
    have hcl : ∀ l ∈ Ls, (∃ y, l = [oneN y]) ∨ ∃ r, Clean l r ∧ (r = 48 ∨ r = 50 → (nd L n').k = 47 ∨ (nd L n').k = 49) := fun l hl => by
      obtain ⟨q, hq, hh⟩ := hfrom l hl
      rw [Nat.zero_add] at hh
      rcases hh with ⟨_, e⟩ | ⟨he, hlj, e⟩
      · exact .inl ⟨_, e⟩
      · obtain ⟨o1, o2, o3⟩ := hok q hq he
        obtain ⟨j, m, ej, hS, b1, b2⟩ := kid_sp g1 hq
        rw [ej] at e hlj o1 o2 o3
        right
        refine ⟨(nd L j).k, ?_, o3⟩
        rw [e]
        exact ih f' g3 j m hS (by omega) hlj o1.1 o1.2 o2
    -- each node is the root, or in a part
    have hwhere : ∀ x : Nat, x < X.length → x = 0 ∨ ∃ l ∈ Ls, ∃ b i : Nat, x = b + i ∧ i < l.length ∧ Emb X b l := fun x hx => by
      rcases Nat.eq_zero_or_pos x with h0 | h0
      · exact .inl h0
      · obtain ⟨l, hl, b, i, e1, e2, _, e4⟩ := hcov x h0 (by omega)
        exact .inr ⟨l, hl, b, i, e1, e2, e4⟩
    have hsame : ∀ {l : List Nd} {b i : Nat}, Emb X b l → i < l.length → (nd X ((b + i : Nat) : Int)).k = (nd l (i : Int)).k ∧ (nd X ((b + i : Nat) : Int)).m = (nd l (i : Int)).m := fun he hi => by
      rw [he.at_ _ hi]; exact ⟨rfl, rfl⟩
    refine ⟨fun x hx => ?_, fun x hx => ?_, ?_⟩
    · rcases hwhere x hx with rfl | ⟨l, hl, b, i, rfl, hi, he⟩
      · refine ⟨?_, ?_, fun h44 => ?_, fun q hq hem => ?_⟩
        · rw [hroot]
          show (normN (nd L n')).k ≠ 33 ∧ (normN (nd L n')).k ≠ 34 ∧ (normN (nd L n')).k ≠ 51 ∧ (normN (nd L n')).k ≠ 52
          rw [norm_k]; omega
        · rw [hroot]
          exact norm_of (y := normN (nd L n')) rfl rfl (norm_norm _)
        · rw [hroot] at h44 ⊢
          simp only [norm_k] at h44 ⊢
          have hr : rowK (nd L n').k = false := by rw [h44]; rfl
          obtain ⟨hpl, hpq⟩ := hpa hr
          have h2 := field_kids g1.2.1 h44
          have hq1 : 1 < Ls.length := by omega
          have h3 := hpq 1 (by omega)
          rw [h44, if_neg (by simp [emptied])] at h3
          obtain ⟨b, hb, hem⟩ := hat 1 hq1
          obtain ⟨j, m, ej, hS, b1, b2⟩ := kid_sp g1 (q := 1) (by omega)
          have h4 := (hem.kids (in0 (hgd _ (getD_mem5 hq1)))).2.1
          rw [show (((0 : Nat) : Int) + (b : Int)) = (b : Int) by omega] at h4
          rw [hb, h4, h3, ej]
          have hne : (nd L j).k ≠ 1 := by
            obtain ⟨f2, hf2⟩ : ∃ f2, L.length = f2 + 1 := ⟨L.length - 1, by have := g1.1; omega⟩
            rw [hf2] at hl'
            unfold leftB at hl'
            rw [if_neg (by omega), if_neg (by omega), if_pos h44, ej] at hl'
            simpa using hl'
          by_cases hj : (nd L j).k = 33 ∨ (nd L j).k = 34
          · have := (strip_k hS (show m - j ≤ f' by omega)).2.1 hj
            intro e
            rw [e] at this
            cases this
          · rw [((strip_k hS (show m - j ≤ f' by omega)).1 hj).1]
            exact hne
        · rw [hroot] at hq hem ⊢
          simp only [norm_k] at hem hq ⊢
          rw [offs_len] at hq
          have hr : rowK (nd L n').k = false := by
            cases hr : rowK (nd L n').k with
            | false => rfl
            | true => rw [row_emptied hr] at hem; cases hem
          obtain ⟨hpl, hpq⟩ := hpa hr
          have h3 := hpq q (by omega)
          rw [if_pos hem] at h3
          obtain ⟨b, hb, he⟩ := hat q hq
          have h4 := he.at_ 0 (by rw [h3]; simp)
          rw [Nat.add_zero] at h4
          rw [hb, h4, h3]
          show oneN (shN b (oneN _)) = shN b (oneN _)
          rw [shN_bare _ (oneN _) rfl, one_one]
      · rcases hcl l hl with ⟨y, rfl⟩ | ⟨r, hc, -⟩
        · have hi0 : i = 0 := by simpa using hi
          subst hi0
          exact own_emb he (good_leaf y) (by simp) (own_leaf y)
        · exact own_emb he (hgd l hl) hi (hc.own i hi)
    · rcases hwhere x hx with rfl | ⟨l, hl, b, i, rfl, hi, he⟩
      · rw [hroot]
        show (normN (nd L n')).k < 80 ∧ (normN (nd L n')).k ≠ 67
        rw [norm_k]; exact hk'.1
      · rw [(hsame he hi).1]
        rcases hcl l hl with ⟨y, rfl⟩ | ⟨r, hc, -⟩
        · have hi0 : i = 0 := by simpa using hi
          subst hi0
          have := one_k y
          show (oneN y).k < 80 ∧ (oneN y).k ≠ 67
          omega
        · exact hc.low i hi
    · rintro ⟨x, hx, hxk⟩
      have hX0 : 0 < X.length := by have := hXg.1; omega
      have hroot0 : (nd X ((0 : Nat) : Int)).k = (nd L n').k := by rw [hroot]; exact norm_k _
      rcases hwhere x hx with rfl | ⟨l, hl, b, i, rfl, hi, he⟩
      · rw [hroot0] at hxk
        by_cases hk : (nd L n).k = 33 ∨ (nd L n).k = 34
        · have := hbk hk
          omega
        · rw [g9 hk] at hxk; exact .inr hxk
      · rw [(hsame he hi).1] at hxk
        rcases hcl l hl with ⟨y, rfl⟩ | ⟨r, hc, hr⟩
        · have hi0 : i = 0 := by simpa using hi
          subst hi0
          have := one_k y
          have e : (oneN y).k = 48 ∨ (oneN y).k = 50 := hxk
          omega
        · rcases hc.par ⟨i, hi, hxk⟩ with ⟨j, hj, hm⟩ | h2
          · left
            have hlen := he.len
            refine ⟨b + j, by omega, ?_⟩
            unfold mkN at hm ⊢
            rw [(hsame he hj).1, (hsame he hj).2]
            exact hm
          · left
            refine ⟨0, hX0, ?_⟩
            unfold mkN
            rw [hroot0]
            rcases hr h2 with h3 | h3
            · exact .inl h3
            · exact .inr (.inl h3)
end Go.Proofs.YtpkdhciokiomlaaDoor
