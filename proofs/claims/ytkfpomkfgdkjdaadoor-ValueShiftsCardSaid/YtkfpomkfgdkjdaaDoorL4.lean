/- The walk of chapter 14's law ValueDivides. -/
import Derived.Test.YtkfpomkfgdkjdaaDoorL3
namespace Go.Proofs.YtkfpomkfgdkjdaaDoor
set_option linter.unusedVariables false
set_option linter.unusedSimpArgs false
open Go.RowKit

set_option maxHeartbeats 400000 in
theorem num_any (n : Int) (w : World) : Calls Tryd.prog 24 #[.int .i64 n] w fun e w' => e = .returned (.agg #[.int .i64 3, .int .i64 n, .string ⟨#[]⟩]) ∧ Below w.heap.size w w' := by
  go_enter Tryd.func24, Tryd.ntmps24
  go_wp2
  exact bodyPost_ret (v := .agg #[.int .i64 3, .int .i64 n, .string ⟨#[]⟩]) (by simp [results, Tryd.results24, go_sem]) rfl ⟨rfl, (by (repeat (first | (with_reducible exact Below.refl _ _) | (with_reducible assumption) | (with_reducible refine Below.setCell ?_ (by first | omega | (simp <;> omega)) _) | (with_reducible refine Below.alloc ?_ (by first | omega | (simp <;> omega)) _) | (with_reducible refine Below.drew ?_) | (with_reducible refine Below.trans ?_ (Below.mono (by with_reducible assumption) (by first | omega | (simp <;> omega)))))))⟩
theorem rem_facts {a b : Int} (hb : b ≠ 0) : (a - a.tmod b).tmod b = 0 ∧ (a.tmod b).natAbs < b.natAbs ∧ (0 ≤ a → 0 ≤ a.tmod b) ∧ (a ≤ 0 → a.tmod b ≤ 0) := by
  have h1 := Int.mul_tdiv_add_tmod a b
  refine ⟨?_, ?_, ?_, ?_⟩
  · rw [show a - a.tmod b = b * a.tdiv b by omega]; exact Int.mul_tmod_right _ _
  · rw [Int.natAbs_tmod]; exact Nat.mod_lt _ (by omega)
  · exact fun h => Int.tmod_nonneg _ h
  · intro h
    have := Int.tmod_nonneg b (show 0 ≤ -a by omega)
    rw [Int.neg_tmod] at this; omega
set_option maxRecDepth 100000 in
set_option maxHeartbeats 4000000 in
theorem ValueDivides_any (a b : Int) (wfa : -9223372036854775808 ≤ a ∧ a ≤ 9223372036854775807) (wfb : -9223372036854775808 ≤ b ∧ b ≤ 9223372036854775807) (w : World) (ht : Tab w) :
    Calls Tryd.prog 11 #[.int .i64 a, .int .i64 b] w fun e w' => e = .returned (.bool true) ∧ Below w.heap.size w w' := by
  by_cases hin : (-9007199254740991 ≤ a ∧ a ≤ 9007199254740991) ∧ (-9007199254740991 ≤ b ∧ b ≤ 9007199254740991)
  · obtain ⟨ha, hb⟩ := hin
    have hrm := rem_in a b ha hb
    by_cases hz : b = 0
    · subst hz
      have e0 : exactO (fRem a 0).1 (fRem a 0).2 = ⟨⟨0, 0, ⟨#[]⟩⟩, ⟨#[]⟩, 2⟩ := exactO_out (.inl rfl)
      simp only [e0] at hrm
      have HR := Lib.hid hrm
      clear hrm e0
      go_enter Tryd.func11, Tryd.ntmps11
      go_wp2_with (first
        | (go_at_call 13; refine (known_any _ (ht.keep (by (repeat (first | (with_reducible exact Below.refl _ _) | (with_reducible assumption) | (with_reducible refine Below.setCell ?_ (by first | omega | (simp <;> omega)) _) | (with_reducible refine Below.alloc ?_ (by first | omega | (simp <;> omega)) _) | (with_reducible refine Below.drew ?_) | (with_reducible refine Below.trans ?_ (Below.mono (by with_reducible assumption) (by first | omega | (simp <;> omega))))))))).mono ?_; rintro e wkn ⟨rfl, bkn⟩)
        | (go_at_call 24; (with_reducible refine (num_any _ _).mono ?_); rintro e wbnm ⟨rfl, bnm⟩; have zbnm : w.heap.size ≤ wbnm.heap.size := (by have hzz := Below.size bnm; first | omega | (simp at hzz; omega)); replace bnm := Below.mono (B' := w.heap.size) bnm (by first | omega | (simp <;> omega)); obtain ⟨hcbnm, hfbnm⟩ := bcell bnm)
        | (go_at_call 16; (with_reducible refine (HR.out _).mono ?_); rintro e wb1 ⟨rfl, b1⟩; have zb1 : w.heap.size ≤ wb1.heap.size := (by have hzz := Below.size b1; first | omega | (simp at hzz; omega)); replace b1 := Below.mono (B' := w.heap.size) b1 (by first | omega | (simp <;> omega)); obtain ⟨hcb1, hfb1⟩ := bcell b1))
      all_goals go_ret
      all_goals exact ⟨by first | rfl | (simp; omega), (by (repeat (first | (with_reducible exact Below.refl _ _) | (with_reducible assumption) | (with_reducible refine Below.setCell ?_ (by first | omega | (simp <;> omega)) _) | (with_reducible refine Below.alloc ?_ (by first | omega | (simp <;> omega)) _) | (with_reducible refine Below.drew ?_) | (with_reducible refine Below.trans ?_ (Below.mono (by with_reducible assumption) (by first | omega | (simp <;> omega)))))))⟩
    · obtain ⟨f1, f2, f3, f4⟩ := rem_facts (a := a) hz
      have e0 : exactO (fRem a b).1 (fRem a b).2 = ⟨⟨3, a.tmod b, ⟨#[]⟩⟩, ⟨#[]⟩, 0⟩ := by
        unfold fRem; rw [if_neg hz]; exact exactO_done (tmod_bd ha)
      have htb := tmod_bd (b := b) ha
      simp only [e0] at hrm
      clear e0
      generalize a.tmod b = r at *
      have HR := Lib.hid hrm
      clear hrm
      have hzb : (b == 0) = false := by simpa using hz
      have hmz : ((a - r).tmod b == 0) = true := by simpa using f1
      clear f1
      have hcr : r = 0 ∨ (r < 0 ∧ a < 0) ∨ (0 < r ∧ 0 < a) := by omega
      have hcb : (0 < b ∧ -b < r ∧ r < b) ∨ (b < 0 ∧ b < r ∧ r < -b) := by omega
      clear f2 f3 f4 hz
      rcases hcr with rfl | ⟨c1, c2⟩ | ⟨c1, c2⟩ <;> rcases hcb with ⟨g1, g2, g3⟩ | ⟨g1, g2, g3⟩
      all_goals (try simp only [Int.sub_zero] at hmz)
      all_goals
        go_enter Tryd.func11, Tryd.ntmps11
        go_wp2_with (first
          | (go_at_call 13; refine (known_any _ (ht.keep (by (repeat (first | (with_reducible exact Below.refl _ _) | (with_reducible assumption) | (with_reducible refine Below.setCell ?_ (by first | omega | (simp <;> omega)) _) | (with_reducible refine Below.alloc ?_ (by first | omega | (simp <;> omega)) _) | (with_reducible refine Below.drew ?_) | (with_reducible refine Below.trans ?_ (Below.mono (by with_reducible assumption) (by first | omega | (simp <;> omega))))))))).mono ?_; rintro e wkn ⟨rfl, bkn⟩)
          | (go_at_call 24; (with_reducible refine (num_any _ _).mono ?_); rintro e wbnm ⟨rfl, bnm⟩; have zbnm : w.heap.size ≤ wbnm.heap.size := (by have hzz := Below.size bnm; first | omega | (simp at hzz; omega)); replace bnm := Below.mono (B' := w.heap.size) bnm (by first | omega | (simp <;> omega)); obtain ⟨hcbnm, hfbnm⟩ := bcell bnm)
          | (go_at_call 16; (with_reducible refine (HR.out _).mono ?_); rintro e wb1 ⟨rfl, b1⟩; have zb1 : w.heap.size ≤ wb1.heap.size := (by have hzz := Below.size b1; first | omega | (simp at hzz; omega)); replace b1 := Below.mono (B' := w.heap.size) b1 (by first | omega | (simp <;> omega)); obtain ⟨hcb1, hfb1⟩ := bcell b1))
      all_goals go_ret
      all_goals exact ⟨by first | rfl | (simp; omega), (by (repeat (first | (with_reducible exact Below.refl _ _) | (with_reducible assumption) | (with_reducible refine Below.setCell ?_ (by first | omega | (simp <;> omega)) _) | (with_reducible refine Below.alloc ?_ (by first | omega | (simp <;> omega)) _) | (with_reducible refine Below.drew ?_) | (with_reducible refine Below.trans ?_ (Below.mono (by with_reducible assumption) (by first | omega | (simp <;> omega)))))))⟩
  · go_enter Tryd.func11, Tryd.ntmps11
    go_wp2_with (first | (go_at_call 13; refine (known_any _ (ht.keep (by (repeat (first | (with_reducible exact Below.refl _ _) | (with_reducible assumption) | (with_reducible refine Below.setCell ?_ (by first | omega | (simp <;> omega)) _) | (with_reducible refine Below.alloc ?_ (by first | omega | (simp <;> omega)) _) | (with_reducible refine Below.drew ?_) | (with_reducible refine Below.trans ?_ (Below.mono (by with_reducible assumption) (by first | omega | (simp <;> omega))))))))).mono ?_; rintro e wkn ⟨rfl, bkn⟩))
    all_goals first
      | (exfalso; omega)
      | skip
    all_goals go_ret
    all_goals exact ⟨rfl, (by (repeat (first | (with_reducible exact Below.refl _ _) | (with_reducible assumption) | (with_reducible refine Below.setCell ?_ (by first | omega | (simp <;> omega)) _) | (with_reducible refine Below.alloc ?_ (by first | omega | (simp <;> omega)) _) | (with_reducible refine Below.drew ?_) | (with_reducible refine Below.trans ?_ (Below.mono (by with_reducible assumption) (by first | omega | (simp <;> omega)))))))⟩
end Go.Proofs.YtkfpomkfgdkjdaaDoor
