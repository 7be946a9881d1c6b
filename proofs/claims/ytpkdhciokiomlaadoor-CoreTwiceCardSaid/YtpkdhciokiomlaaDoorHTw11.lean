/- Chapter 5, plain: sizes of a Strip; the first node that is not plain. No program in sight. -/
import Derived.Test.YtpkdhciokiomlaaDoorHTw10
import Derived.Test.YtpkdhciokiomlaaDoorHBZ20
import Derived.Test.YtpkdhciokiomlaaDoorHBZ21
namespace Go.Proofs.YtpkdhciokiomlaaDoor
set_option linter.unusedVariables false
set_option linter.unusedSimpArgs false
set_option linter.unnecessarySimpa false
open Go.RowKit
theorem mkA_xs {B : Nat} : ∀ (Ls : List (List Nd)) (ks : List Int) (acc : List Nd), (∀ z ∈ acc, z.x.size ≤ B) → (∀ l ∈ Ls, ∀ z ∈ l, z.x.size ≤ B) → ∀ z ∈ (mkA ks acc Ls).2, z.x.size ≤ B
  | [], ks, acc, h, _ => h
  | l :: ls, ks, acc, h, hl => by
    by_cases h0 : l.length = 0
    · rw [mkA_skip h0]
      exact mkA_xs ls ks acc h (fun m hm => hl m (by simp [hm]))
    · rw [mkA_step h0]
      refine mkA_xs ls _ _ (fun z hz => ?_) (fun m hm => hl m (by simp [hm]))
      rcases List.mem_append.1 hz with hz | hz
      · exact h z hz
      · obtain ⟨u, hu, rfl⟩ := List.mem_map.1 hz
        exact hl l (by simp) u hu
theorem strip_xs {L : List Nd} {B : Nat} (hB : ∀ j : Int, (nd L j).x.size ≤ B) : ∀ (f : Nat) (n : Int), ∀ z ∈ stripL L f n, z.x.size ≤ B
  | 0, _, z, hz => by cases hz
  | f + 1, n, z, hz => by
    unfold stripL at hz
    split at hz
    · exact strip_xs hB f _ z hz
    · rcases List.mem_cons.1 hz with rfl | hz
      · show (normN (nd L n)).x.size ≤ B
        rw [norm_x]; exact hB n
      · refine mkA_xs _ [] [] (fun z hz => by cases hz) ?_ z hz
        refine parts_mem _ _ (fun j y _ l hl z hz => ?_)
        unfold stepS at hl
        split at hl
        · simp at hl; subst hl; simp at hz; subst hz; exact Nat.zero_le _
        · split at hl
          · cases hl
          · simp at hl; subst hl
            exact strip_xs hB f y z hz
theorem nd_all {S : List Nd} {Q : Nd → Prop} (h0 : Q nd0) (h : ∀ z ∈ S, Q z) (j : Int) : Q (nd S j) := by
  unfold nd
  split
  · rcases Nat.lt_or_ge j.toNat S.length with hj | hj
    · rw [List.getD_eq_getElem?_getD, List.getElem?_eq_getElem hj]
      exact h _ (List.getElem_mem hj)
    · rw [List.getD_eq_getElem?_getD, List.getElem?_eq_none hj]
      exact h0
  · exact h0
theorem int_of {Q : Nd → Prop} {L : List Nd} (h0 : Q nd0) (h : ∀ j : Nat, Q (nd L j)) : ∀ j : Int, Q (nd L j) := fun j => by
  rcases Int.lt_or_le j 0 with hj | hj
  · unfold nd
    rw [if_neg (by omega)]
    exact h0
  · obtain ⟨i, rfl⟩ := Int.eq_ofNat_of_zero_le hj
    exact h i
/-- A Strip is no greater than the tree. -/
structure SmallS (L S : List Nd) (er : Int) : Prop where
  len : S.length ≤ L.length
  er : er = 0 ∨ (er = 7 ∧ S = [])
  ks : ∀ j : Int, (nd S j).ks.length ≤ 3000
  x : ∀ j : Int, (nd S j).x.size ≤ 4000000
theorem strip_small2 {L : List Nd} (hB : ∀ j : Int, (nd L j).ks.length ≤ 3000) (hX : ∀ j : Int, (nd L j).x.size ≤ 4000000) : SmallS L (stripT L).1 (stripT L).2 := by
  unfold stripT
  split
  · next h =>
    have hs := good_iff.1 h.1
    exact ⟨(strip_len L.length 0 L.length hs (by omega)).2, .inl rfl, nd_all (Q := fun z => z.ks.length ≤ 3000) (Nat.zero_le _) (strip_ks hB _ _), nd_all (Q := fun z => z.x.size ≤ 4000000) (Nat.zero_le _) (strip_xs hX _ _)⟩
  · exact ⟨Nat.zero_le _, .inr ⟨rfl, rfl⟩, nd_all (Q := fun z => z.ks.length ≤ 3000) (Nat.zero_le _) (fun z hz => by cases hz), nd_all (Q := fun z => z.x.size ≤ 4000000) (Nat.zero_le _) (fun z hz => by cases hz)⟩
theorem deps_good {L : List Nd} (h : (chk L).2 = 0) : (depsL L).length = L.length := by
  have hD : depsL L = deepL L := if_pos h
  rw [hD, deepL_len]
/-- There is a first node that is not plain, or none. -/
theorem bad_of (pl : Nat → Bool) : ∀ n, ∃ R : Int × Int, BadR pl n R ∧ (R.2 = 0 ↔ ∀ j, j < n → pl j = true) ∧ (R.2 = 0 ∨ R.2 = 12)
  | 0 => ⟨(-1, 0), ⟨fun j hj => (by omega), fun _ => rfl⟩, ⟨fun _ j hj => (by omega), fun _ => rfl⟩, .inl rfl⟩
  | n + 1 => by
    by_cases hall : ∀ j, j < n → pl j = true
    · cases hp : pl n with
      | true =>
        have h1 : ∀ j, j < n + 1 → pl j = true := fun j hj => by
          rcases Nat.lt_or_ge j n with h | h
          · exact hall j h
          · obtain rfl : j = n := by omega
            exact hp
        exact ⟨(-1, 0), ⟨fun j hj _ hf => (by rw [h1 j hj] at hf; cases hf), fun _ => rfl⟩, ⟨fun _ => h1, fun _ => rfl⟩, .inl rfl⟩
      | false =>
        refine ⟨((n : Int), 12), ⟨fun j hj hb hf => ?_, fun h => ?_⟩, ⟨fun h => (by cases h), fun h => ?_⟩, .inr rfl⟩
        · rcases Nat.lt_or_ge j n with h | h
          · rw [hall j h] at hf; cases hf
          · obtain rfl : j = n := by omega
            rfl
        · rw [h n (by omega)] at hp; cases hp
        · rw [h n (by omega)] at hp; cases hp
    · obtain ⟨R, hR, h1, h2⟩ := bad_of pl n
      refine ⟨R, ⟨fun j hj hb hf => ?_, fun h => absurd (fun j hj => h j (by omega)) hall⟩, ⟨fun h => absurd (h1.1 h) hall, fun h => absurd (fun j hj => h j (by omega)) hall⟩, h2⟩
      rcases Nat.lt_or_ge j n with h | h
      · exact hR.bad j h hb hf
      · obtain rfl : j = n := by omega
        exact absurd hb hall
theorem same_self (L : List Nd) : sameB L L = true := (sameB_iff L L).2 ⟨rfl, fun i _ => (sameN_iff _ _).2 ⟨rfl, rfl, rfl, rfl⟩⟩
end Go.Proofs.YtpkdhciokiomlaaDoor
