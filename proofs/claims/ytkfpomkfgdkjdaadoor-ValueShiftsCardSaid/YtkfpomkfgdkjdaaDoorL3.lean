/- The walk of chapter 14's law ValueTurns. -/
import Derived.Test.YtkfpomkfgdkjdaaDoorL2
namespace Go.Proofs.YtkfpomkfgdkjdaaDoor
set_option linter.unusedVariables false
set_option linter.unusedSimpArgs false
open Go.RowKit

theorem exactO_done {n : Int} (h : -9007199254740991 ≤ n ∧ n ≤ 9007199254740991) : exactO n true = ⟨⟨3, n, ⟨#[]⟩⟩, ⟨#[]⟩, 0⟩ := exactO_in rfl h.2 h.1
theorem exactO_over {n : Int} (h : ¬ (-9007199254740991 ≤ n ∧ n ≤ 9007199254740991)) : exactO n true = ⟨⟨0, 0, ⟨#[]⟩⟩, ⟨#[]⟩, 2⟩ := exactO_out (.inr (by omega))
set_option maxRecDepth 100000 in
set_option maxHeartbeats 4000000 in
theorem ValueTurns_any (a b : Int) (wfa : -9223372036854775808 ≤ a ∧ a ≤ 9223372036854775807) (wfb : -9223372036854775808 ≤ b ∧ b ≤ 9223372036854775807) (w : World) (ht : Tab w) :
    Calls Tryd.prog 8 #[.int .i64 a, .int .i64 b] w fun e w' => e = .returned (.bool true) ∧ Below w.heap.size w w' := by
  by_cases hin : (-9007199254740991 ≤ a ∧ a ≤ 9007199254740991) ∧ (-9007199254740991 ≤ b ∧ b ≤ 9007199254740991)
  · obtain ⟨ha, hb⟩ := hin
    by_cases hs : -9007199254740991 ≤ a + b ∧ a + b ≤ 9007199254740991
    · have e1 := exactO_done hs
      have e2 : exactO (b + a) true = ⟨⟨3, a + b, ⟨#[]⟩⟩, ⟨#[]⟩, 0⟩ := by rw [Int.add_comm]; exact e1
      have e3 := exactO_done ha
      go_enter Tryd.func8, Tryd.ntmps8
      go_wp2_with (first
        | (go_at_call 13; refine (known_any _ (ht.keep (by (repeat (first | (with_reducible exact Below.refl _ _) | (with_reducible assumption) | (with_reducible refine Below.setCell ?_ (by first | omega | (simp <;> omega)) _) | (with_reducible refine Below.alloc ?_ (by first | omega | (simp <;> omega)) _) | (with_reducible refine Below.drew ?_) | (with_reducible refine Below.trans ?_ (Below.mono (by with_reducible assumption) (by first | omega | (simp <;> omega))))))))).mono ?_; rintro e wkn ⟨rfl, bkn⟩)
        | (go_at_call 16; (with_reducible refine (add_in a b ha hb _).mono ?_); rintro e wb1 ⟨rfl, b1⟩; have zb1 : w.heap.size + 1 + 1 ≤ wb1.heap.size := (by have hzz := Below.size b1; first | omega | (simp at hzz; omega)); replace b1 := Below.mono (B' := w.heap.size + 1 + 1) b1 (by first | omega | (simp <;> omega)); obtain ⟨hcb1, hfb1⟩ := bcell b1; have nb10 : w.heap.size < wb1.heap.size := (by omega); have nb11 : w.heap.size + 1 < wb1.heap.size := (by omega))
        | (go_at_call 16; (with_reducible refine (add_in b a hb ha _).mono ?_); rintro e wb2 ⟨rfl, b2⟩; have zb2 : wb1.heap.size + 1 ≤ wb2.heap.size := (by have hzz := Below.size b2; first | omega | (simp at hzz; omega)); replace b2 := Below.mono (B' := wb1.heap.size + 1) b2 (by first | omega | (simp <;> omega)); obtain ⟨hcb2, hfb2⟩ := bcell b2; have nb20 : w.heap.size < wb2.heap.size := (by omega); have nb21 : w.heap.size + 1 < wb2.heap.size := (by omega); have nb22 : wb1.heap.size < wb2.heap.size := (by omega))
        | (go_at_call 16; (with_reducible refine (sub_in (a + b) b hs hb _).mono ?_); rintro e wb3 ⟨rfl, b3⟩; have zb3 : wb2.heap.size + 1 ≤ wb3.heap.size := (by have hzz := Below.size b3; first | omega | (simp at hzz; omega)); replace b3 := Below.mono (B' := wb2.heap.size + 1) b3 (by first | omega | (simp <;> omega)); obtain ⟨hcb3, hfb3⟩ := bcell b3; have nb30 : w.heap.size < wb3.heap.size := (by omega); have nb31 : w.heap.size + 1 < wb3.heap.size := (by omega); have nb32 : wb1.heap.size < wb3.heap.size := (by omega); have nb33 : wb2.heap.size < wb3.heap.size := (by omega))
        | (go_at_call 14; (with_reducible refine (neg_in a ha _).mono ?_); rintro e wb4 ⟨rfl, b4⟩; have zb4 : wb3.heap.size + 1 ≤ wb4.heap.size := (by have hzz := Below.size b4; first | omega | (simp at hzz; omega)); replace b4 := Below.mono (B' := wb3.heap.size + 1) b4 (by first | omega | (simp <;> omega)); obtain ⟨hcb4, hfb4⟩ := bcell b4; have nb40 : w.heap.size < wb4.heap.size := (by omega); have nb41 : w.heap.size + 1 < wb4.heap.size := (by omega); have nb42 : wb1.heap.size < wb4.heap.size := (by omega); have nb43 : wb2.heap.size < wb4.heap.size := (by omega); have nb44 : wb3.heap.size < wb4.heap.size := (by omega))
        | (go_at_call 14; (with_reducible refine (neg_in (-a) (by omega) _).mono ?_); rintro e wb5 ⟨rfl, b5⟩; have zb5 : wb4.heap.size + 1 ≤ wb5.heap.size := (by have hzz := Below.size b5; first | omega | (simp at hzz; omega)); replace b5 := Below.mono (B' := wb4.heap.size + 1) b5 (by first | omega | (simp <;> omega)); obtain ⟨hcb5, hfb5⟩ := bcell b5; have nb50 : w.heap.size < wb5.heap.size := (by omega); have nb51 : w.heap.size + 1 < wb5.heap.size := (by omega); have nb52 : wb1.heap.size < wb5.heap.size := (by omega); have nb53 : wb2.heap.size < wb5.heap.size := (by omega); have nb54 : wb3.heap.size < wb5.heap.size := (by omega); have nb55 : wb4.heap.size < wb5.heap.size := (by omega)))
      all_goals go_ret
      all_goals exact ⟨rfl, (by (repeat (first | (with_reducible exact Below.refl _ _) | (with_reducible assumption) | (with_reducible refine Below.setCell ?_ (by first | omega | (simp <;> omega)) _) | (with_reducible refine Below.alloc ?_ (by first | omega | (simp <;> omega)) _) | (with_reducible refine Below.drew ?_) | (with_reducible refine Below.trans ?_ (Below.mono (by with_reducible assumption) (by first | omega | (simp <;> omega)))))))⟩
    · have e1 := exactO_over hs
      have e2 : exactO (b + a) true = ⟨⟨0, 0, ⟨#[]⟩⟩, ⟨#[]⟩, 2⟩ := by rw [Int.add_comm]; exact e1
      go_enter Tryd.func8, Tryd.ntmps8
      go_wp2_with (first
        | (go_at_call 13; refine (known_any _ (ht.keep (by (repeat (first | (with_reducible exact Below.refl _ _) | (with_reducible assumption) | (with_reducible refine Below.setCell ?_ (by first | omega | (simp <;> omega)) _) | (with_reducible refine Below.alloc ?_ (by first | omega | (simp <;> omega)) _) | (with_reducible refine Below.drew ?_) | (with_reducible refine Below.trans ?_ (Below.mono (by with_reducible assumption) (by first | omega | (simp <;> omega))))))))).mono ?_; rintro e wkn ⟨rfl, bkn⟩)
        | (go_at_call 16; (with_reducible refine (add_in a b ha hb _).mono ?_); rintro e wb1 ⟨rfl, b1⟩; have zb1 : w.heap.size + 1 + 1 ≤ wb1.heap.size := (by have hzz := Below.size b1; first | omega | (simp at hzz; omega)); replace b1 := Below.mono (B' := w.heap.size + 1 + 1) b1 (by first | omega | (simp <;> omega)); obtain ⟨hcb1, hfb1⟩ := bcell b1; have nb10 : w.heap.size < wb1.heap.size := (by omega); have nb11 : w.heap.size + 1 < wb1.heap.size := (by omega))
        | (go_at_call 16; (with_reducible refine (add_in b a hb ha _).mono ?_); rintro e wb2 ⟨rfl, b2⟩; have zb2 : wb1.heap.size + 1 ≤ wb2.heap.size := (by have hzz := Below.size b2; first | omega | (simp at hzz; omega)); replace b2 := Below.mono (B' := wb1.heap.size + 1) b2 (by first | omega | (simp <;> omega)); obtain ⟨hcb2, hfb2⟩ := bcell b2; have nb20 : w.heap.size < wb2.heap.size := (by omega); have nb21 : w.heap.size + 1 < wb2.heap.size := (by omega); have nb22 : wb1.heap.size < wb2.heap.size := (by omega)))
      all_goals go_ret
      all_goals exact ⟨by first | rfl | (simp; omega), (by (repeat (first | (with_reducible exact Below.refl _ _) | (with_reducible assumption) | (with_reducible refine Below.setCell ?_ (by first | omega | (simp <;> omega)) _) | (with_reducible refine Below.alloc ?_ (by first | omega | (simp <;> omega)) _) | (with_reducible refine Below.drew ?_) | (with_reducible refine Below.trans ?_ (Below.mono (by with_reducible assumption) (by first | omega | (simp <;> omega)))))))⟩
  · go_enter Tryd.func8, Tryd.ntmps8
    go_wp2_with (first | (go_at_call 13; refine (known_any _ (ht.keep (by (repeat (first | (with_reducible exact Below.refl _ _) | (with_reducible assumption) | (with_reducible refine Below.setCell ?_ (by first | omega | (simp <;> omega)) _) | (with_reducible refine Below.alloc ?_ (by first | omega | (simp <;> omega)) _) | (with_reducible refine Below.drew ?_) | (with_reducible refine Below.trans ?_ (Below.mono (by with_reducible assumption) (by first | omega | (simp <;> omega))))))))).mono ?_; rintro e wkn ⟨rfl, bkn⟩))
    all_goals first
      | (exfalso; omega)
      | skip
    all_goals go_ret
    all_goals exact ⟨rfl, (by (repeat (first | (with_reducible exact Below.refl _ _) | (with_reducible assumption) | (with_reducible refine Below.setCell ?_ (by first | omega | (simp <;> omega)) _) | (with_reducible refine Below.alloc ?_ (by first | omega | (simp <;> omega)) _) | (with_reducible refine Below.drew ?_) | (with_reducible refine Below.trans ?_ (Below.mono (by with_reducible assumption) (by first | omega | (simp <;> omega)))))))⟩
end Go.Proofs.YtkfpomkfgdkjdaaDoor
