/- Chapter 5, plain: what CoreTwice asks. No program in sight. -/
import Derived.Test.YtpkdhciokiomlaaDoorHBZ19
namespace Go.Proofs.YtpkdhciokiomlaaDoor
set_option linter.unusedVariables false
set_option linter.unusedSimpArgs false
set_option linter.unnecessarySimpa false
open Go.RowKit
theorem low_type {S : List Nd} (hlow : ∀ j : Nat, j < S.length → (nd S j).k < 80 ∧ (nd S j).k ≠ 67) {i : Nat} (hi : i < S.length) : typeK (nd S i).k = false := by
  have := hlow i hi
  simp only [typeK, Bool.and_eq_false_iff, decide_eq_false_iff_not]
  exact .inl (.inl (by omega))
theorem clean_plain {S : List Nd} (hg : GoodT S) (hlow : ∀ j : Nat, j < S.length → (nd S j).k < 80 ∧ (nd S j).k ≠ 67) {n : Nat} (hn : n < S.length) (ho : OwnN S n) : plainB S n = true ↔ ¬ mkN (nd S n) ∧ (nd S n).k ≠ 48 ∧ (nd S n).k ≠ 50 := by
  obtain ⟨e, hS⟩ := good_sp hg hn
  have hfit := hS.2.1
  have hk80 := hlow n hn
  have hke := ho.k
  have hbare : ∀ q, q < (nd S n).ks.length → emptied (nd S n).k q = true → bareB S n q = true := fun q hq he => by
    have := one_bare (ho.e q hq he)
    unfold bareB
    rw [this]
    rfl
  have hnone : ∀ q, q < (nd S n).ks.length → emptied (nd S n).k q = true → orP typeP (ofP [1]) S ((nd S n).ks.getD q 0) = true → noneB S n q = true := fun q hq he hp => by
    obtain ⟨j, m, e1, hj, -, -⟩ := kid_sp hS hq
    rw [e1] at hp
    rcases type_none hp with h | h
    · rw [low_type hlow hj.1] at h; cases h
    · unfold noneB; rw [e1, h]; rfl
  unfold plainB mkN
  by_cases h0 : (nd S n).k = 33 ∨ (nd S n).k = 34 ∨ (nd S n).k = 47 ∨ (nd S n).k = 48 ∨ (nd S n).k = 49 ∨ (nd S n).k = 50 ∨ (nd S n).k = 51 ∨ (nd S n).k = 52 ∨ (nd S n).k = 67
  · rw [if_pos h0]
    constructor
    · intro h; cases h
    · rintro ⟨h1, h2, h3⟩
      exfalso
      apply h1
      omega
  rw [if_neg h0]
  have hright : (nd S n).k ≠ 66 → (¬ ((nd S n).k = 47 ∨ (nd S n).k = 49 ∨ (nd S n).k = 66 ∧ (nd S n).m ≠ 0) ∧ (nd S n).k ≠ 48 ∧ (nd S n).k ≠ 50) := fun h66 => ⟨by omega, by omega, by omega⟩
  by_cases h1 : (nd S n).k = 22 ∨ (nd S n).k = 43
  · rw [if_pos h1]
    refine ⟨fun _ => hright (by omega), fun _ => ?_⟩
    have hlen : 0 < (nd S n).ks.length := by
      rcases h1 with h1 | h1
      · have := (tab_kids hfit (ps := [rowsP (ofP [67]), rowsP plainP, orP (ofP [63]) exprP]) (by rw [h1]; rfl) (by omega) (by omega)).1
        rw [this]; simp
      · have := (tab_kids hfit (ps := [rowsP typeP]) (by rw [h1]; rfl) (by omega) (by omega)).1
        rw [this]; simp
    exact hbare 0 hlen (by rcases h1 with h1 | h1 <;> (rw [h1]; rfl))
  rw [if_neg h1]
  by_cases h2 : (nd S n).k = 27 ∨ (nd S n).k = 28
  · rw [if_pos h2]
    refine ⟨fun _ => hright (by omega), fun _ => ?_⟩
    have hlen : (nd S n).ks.length = 3 := by
      rcases h2 with h2 | h2
      · exact (tab_kids hfit (ps := [exprP, rowsP typeP, rowsP exprP]) (by rw [h2]; rfl) (by omega) (by omega)).1
      · exact (tab_kids hfit (ps := [pathP, rowsP typeP, rowsP exprP]) (by rw [h2]; rfl) (by omega) (by omega)).1
    exact hbare 1 (by omega) (by rcases h2 with h2 | h2 <;> (rw [h2]; rfl))
  rw [if_neg h2]
  by_cases h3 : (nd S n).k = 41 ∨ (nd S n).k = 45
  · rw [if_pos h3]
    refine ⟨fun _ => hright (by omega), fun _ => ?_⟩
    obtain ⟨hlen, hpl⟩ := tab_kids hfit (ps := [rowsP (ofP [67]), rowsP plainP, orP typeP (ofP [1]), ofP [63]]) (by rcases h3 with h | h <;> (rw [h]; rfl)) (by omega) (by omega)
    simp only [List.length_cons, List.length_nil] at hlen
    rw [hbare 0 (by omega) (by rcases h3 with h | h <;> (rw [h]; rfl)), hnone 2 (by omega) (by rcases h3 with h | h <;> (rw [h]; rfl)) (hpl 2 (by simp))]
    rfl
  rw [if_neg h3]
  by_cases h4 : (nd S n).k = 42
  · rw [if_pos h4]
    refine ⟨fun _ => hright (by omega), fun _ => ?_⟩
    have hlen := (tab_kids hfit (ps := [rowsP (ofP [67]), orP (ofP [43]) (ofP [1]), rowsP (ofP [80]), memP]) (by rw [h4]; rfl) (by omega) (by omega)).1
    simp only [List.length_cons, List.length_nil] at hlen
    rw [hbare 0 (by omega) (by rw [h4]; rfl), hbare 2 (by omega) (by rw [h4]; rfl)]
    rfl
  rw [if_neg h4]
  by_cases h5 : (nd S n).k = 40
  · rw [if_pos h5]
    refine ⟨fun _ => hright (by omega), fun _ => ?_⟩
    obtain ⟨hlen, hpl⟩ := tab_kids hfit (ps := [orP typeP (ofP [1]), exprP]) (by rw [h5]; rfl) (by omega) (by omega)
    simp only [List.length_cons, List.length_nil] at hlen
    exact hnone 0 (by omega) (by rw [h5]; rfl) (hpl 0 (by simp))
  rw [if_neg h5]
  by_cases h6 : (nd S n).k = 66
  · rw [if_pos h6]
    obtain ⟨hlen, hpl⟩ := tab_kids hfit (ps := [orP typeP (ofP [1])]) (by rw [h6]; rfl) (by omega) (by omega)
    simp only [List.length_cons, List.length_nil] at hlen
    rw [hnone 0 (by omega) (by rw [h6]; rfl) (hpl 0 (by simp)), Bool.true_and]
    constructor
    · intro h
      have hm : (nd S n).m = 0 := by simpa using h
      exact ⟨by omega, by omega, by omega⟩
    · rintro ⟨h, -, -⟩
      have hm : (nd S n).m = 0 := by
        rcases Int.lt_trichotomy (nd S n).m 0 with h8 | h8 | h8
        · exact absurd (.inr (.inr ⟨h6, by omega⟩)) h
        · exact h8
        · exact absurd (.inr (.inr ⟨h6, by omega⟩)) h
      rw [hm]; rfl
  rw [if_neg h6]
  by_cases h7 : (nd S n).k = 44
  · rw [if_pos h7]
    refine ⟨fun _ => hright h6, fun _ => ?_⟩
    obtain ⟨hlen, hpl⟩ := tab_kids hfit (ps := [orP typeP (ofP [1]), orP exprP (ofP [1])]) (by rw [h7]; rfl) (by omega) (by omega)
    simp only [List.length_cons, List.length_nil] at hlen
    have hm : (nd S n).m = 0 := by
      have := ho.n
      unfold normN at this
      rw [if_pos h7] at this
      exact (congrArg Nd.m this).symm
    have h1n : noneB S n 1 = false := by
      have := ho.f h7
      unfold noneB
      simpa using this
    rw [hnone 0 (by omega) (by rw [h7]; rfl) (hpl 0 (by simp)), hm, h1n]
    rfl
  rw [if_neg h7]
  refine ⟨fun _ => hright h6, fun _ => ?_⟩
  rw [decide_eq_true hk80.1]
  rfl
/-- What Strip leaves, if it answers OK. -/
structure TwiceR (L S : List Nd) : Prop where
  good : GoodT S
  chk : chk S = (-1, 0)
  again : stripT S = (S, 0)
  plain : (∀ j : Nat, j < L.length → plainB L j = true) → S = L
  low : ∀ j : Nat, j < S.length → (nd S j).k < 80 ∧ (nd S j).k ≠ 67 ∧ (nd S j).k ≠ 33 ∧ (nd S j).k ≠ 34 ∧ (nd S j).k ≠ 51 ∧ (nd S j).k ≠ 52
  makes : ∀ j : Nat, j < S.length → mkN (nd S j) → plainB S j = false
  free : (∀ j : Nat, j < S.length → ¬ mkN (nd S j)) → ∀ j : Nat, j < S.length → plainB S j = true
  src : GoodT L
theorem strip_twice {L : List Nd} (hL : L.length ≤ 1000000) (hB : ∀ j : Int, (nd L j).ks.length ≤ 1000000) (h : (stripT L).2 = 0) : TwiceR L (stripT L).1 := by
  have hc : (chk L).2 = 0 ∧ ((nd L ((0 : Nat) : Int)).k = 3 ∨ exprK (nd L ((0 : Nat) : Int)).k = true) := by
    unfold stripT at h
    by_cases hc : (chk L).2 = 0 ∧ ((nd L 0).k = 3 ∨ exprK (nd L 0).k = true)
    · exact hc
    · rw [if_neg hc] at h; cases h
  have hS : (stripT L).1 = stripL L L.length ((0 : Nat) : Int) := by
    unfold stripT
    have hc' : (chk L).2 = 0 ∧ ((nd L 0).k = 3 ∨ exprK (nd L 0).k = true) := hc
    rw [if_pos hc']
    rfl
  rw [hS]
  have hg := good_iff.1 hc.1
  have hk : (nd L ((0 : Nat) : Int)).k < 80 ∧ (nd L ((0 : Nat) : Int)).k ≠ 67 ∧ (nd L ((0 : Nat) : Int)).k ≠ 2 ∧ (nd L ((0 : Nat) : Int)).k ≠ 48 ∧ (nd L ((0 : Nat) : Int)).k ≠ 50 := by
    rcases hc.2 with h3 | h3
    · omega
    · simp only [exprK, Bool.and_eq_true, decide_eq_true_eq] at h3
      omega
  have hlf : leftB L L.length ((0 : Nat) : Int) = false := by
    rcases hc.2 with h3 | h3
    · exact left_kind (by rw [h3]; rfl)
    · exact expr_stays h3
  have hgood := strip_good hL L.length 0 L.length hg (by omega) hlf
  have hcl := strip_clean hL L.length 0 L.length hg (by omega) hlf hk.1 hk.2.1 (fun e => absurd e hk.2.2.1)
  have hlen := (strip_len L.length 0 L.length hg (by omega)).2
  have hks := strip_ks hB L.length ((0 : Nat) : Int)
  have hroot := strip_k hg (show L.length - 0 ≤ L.length by omega)
  generalize hSS : stripL L L.length ((0 : Nat) : Int) = S at *
  have hSB : ∀ j : Int, (nd S j).ks.length ≤ 1000000 := fun j => by
    unfold nd
    split
    · rcases Nat.lt_or_ge j.toNat S.length with hj | hj
      · rw [List.getD_eq_getElem?_getD, List.getElem?_eq_getElem hj]
        exact hks _ (List.getElem_mem hj)
      · rw [List.getD_eq_getElem?_getD, List.getElem?_eq_none hj]
        simp [nd0]
    · simp [nd0]
  have hr : (nd S ((0 : Nat) : Int)).k = 3 ∨ exprK (nd S ((0 : Nat) : Int)).k = true := by
    by_cases hb : (nd L ((0 : Nat) : Int)).k = 33 ∨ (nd L ((0 : Nat) : Int)).k = 34
    · exact .inr (hroot.2.1 hb)
    · rw [(hroot.1 hb).1]; exact hc.2
  refine ⟨hgood, chk_good hgood, ?_, fun hp => ?_, fun j hj => ?_, fun j hj hm => ?_, fun hn j hj => ?_, hg⟩
  · have he := own_same (L := S) (by omega) hSB hcl.own hgood
    have hc2 : (chk S).2 = 0 ∧ ((nd S 0).k = 3 ∨ exprK (nd S 0).k = true) := ⟨by rw [chk_good hgood], hr⟩
    unfold stripT
    rw [if_pos hc2]
    have he' : stripL S S.length 0 = S := he
    rw [he']
  · have he := own_same hL hB (fun j hj => plain_own hg hj (hp j hj)) hg
    rw [← hSS]
    exact he
  · have h1 := hcl.low j hj
    have h2 := (hcl.own j hj).k
    omega
  · cases hb : plainB S j with
    | false => rfl
    | true => exact absurd hm ((clean_plain hgood hcl.low hj (hcl.own j hj)).1 hb).1
  · refine (clean_plain hgood hcl.low hj (hcl.own j hj)).2 ⟨hn j hj, ?_⟩
    have : ¬ ((nd S j).k = 48 ∨ (nd S j).k = 50) := fun h8 => by
      rcases hcl.par ⟨j, hj, h8⟩ with ⟨i, hi, hm⟩ | h9
      · exact hn i hi hm
      · omega
    omega
end Go.Proofs.YtpkdhciokiomlaaDoor
