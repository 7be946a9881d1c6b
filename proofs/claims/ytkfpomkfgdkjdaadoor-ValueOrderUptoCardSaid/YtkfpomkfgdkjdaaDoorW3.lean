/- The walk of chapter 14's Unary of the program. -/
import Derived.Test.YtkfpomkfgdkjdaaDoorW2
namespace Go.Proofs.YtkfpomkfgdkjdaaDoor
set_option linter.unusedVariables false
set_option linter.unusedSimpArgs false
open Go.RowKit

set_option maxHeartbeats 1000000 in
theorem Unary_any (op : ByteArray) (k n : Int) (s : ByteArray) (w : World) :
    Calls Tryd.prog 14 #[.string op, .agg #[.int .i64 k, .int .i64 n, .string s]] w fun e w' => e = .returned (.tuple #[.agg #[.int .i64 (unO op ⟨k, n, s⟩).v.k, .int .i64 (unO op ⟨k, n, s⟩).v.n, .string (unO op ⟨k, n, s⟩).v.s], .string (unO op ⟨k, n, s⟩).t, .int .i64 (unO op ⟨k, n, s⟩).f]) ∧ Below w.heap.size w w' := by
  go_enter Tryd.func14, Tryd.ntmps14
  go_wp2_with (first
    | (go_at_call 25; refine (plain_any _ _ _ _).mono ?_; rintro e wb1 ⟨rfl, b1⟩; have zb1 : w.heap.size + 2 ≤ wb1.heap.size := (by have hzz := Below.size b1; first | omega | (simp at hzz; omega)); replace b1 := Below.mono (B' := w.heap.size + 2) b1 (by first | omega | (simp <;> omega)); obtain ⟨hcb1, hfb1⟩ := bcell b1)
    | (go_at_call 18; refine (Truth_any _ _ _ _).mono ?_; rintro e wb2 ⟨rfl, b2⟩; have zb2 : w.heap.size + 2 ≤ wb2.heap.size := (by have hzz := Below.size b2; first | omega | (simp at hzz; omega)); replace b2 := Below.mono (B' := w.heap.size + 2) b2 (by first | omega | (simp <;> omega)); obtain ⟨hcb2, hfb2⟩ := bcell b2)
    | (go_at_call 27; refine (truth_any _ _).mono ?_; rintro e wb3 ⟨rfl, b3⟩; have zb3 : w.heap.size + 2 ≤ wb3.heap.size := (by have hzz := Below.size b3; first | omega | (simp at hzz; omega)); replace b3 := Below.mono (B' := w.heap.size + 2) b3 (by first | omega | (simp <;> omega)); obtain ⟨hcb3, hfb3⟩ := bcell b3)
    | (go_at_call 26; refine (done_any _ _ _ _).mono ?_; rintro e wb4 ⟨rfl, b4⟩; have zb4 : w.heap.size + 2 ≤ wb4.heap.size := (by have hzz := Below.size b4; first | omega | (simp at hzz; omega)); replace b4 := Below.mono (B' := w.heap.size + 2) b4 (by first | omega | (simp <;> omega)); obtain ⟨hcb4, hfb4⟩ := bcell b4)
    | (go_at_call 28; refine (throws_any _ _).mono ?_; rintro e wb5 ⟨rfl, b5⟩; have zb5 : w.heap.size + 2 ≤ wb5.heap.size := (by have hzz := Below.size b5; first | omega | (simp at hzz; omega)); replace b5 := Below.mono (B' := w.heap.size + 2) b5 (by first | omega | (simp <;> omega)); obtain ⟨hcb5, hfb5⟩ := bcell b5)
    | (go_at_call 29; refine (number_any _ _).mono ?_; rintro e wb6 ⟨rfl, b6⟩; have zb6 : w.heap.size + 2 ≤ wb6.heap.size := (by have hzz := Below.size b6; first | omega | (simp at hzz; omega)); replace b6 := Below.mono (B' := w.heap.size + 2) b6 (by first | omega | (simp <;> omega)); obtain ⟨hcb6, hfb6⟩ := bcell b6)
    | (go_at_call 30; refine (low_any _ _).mono ?_; rintro e w7 ⟨rfl, rfl⟩))
  all_goals refine bodyPost_ret (v := .tuple #[.agg #[.int .i64 (unO op ⟨k, n, s⟩).v.k, .int .i64 (unO op ⟨k, n, s⟩).v.n, .string (unO op ⟨k, n, s⟩).v.s], .string (unO op ⟨k, n, s⟩).t, .int .i64 (unO op ⟨k, n, s⟩).f]) ?_ rfl ⟨rfl, (by (repeat (first | (with_reducible exact Below.refl _ _) | (with_reducible assumption) | (with_reducible refine Below.setCell ?_ (by first | omega | (simp <;> omega)) _) | (with_reducible refine Below.alloc ?_ (by first | omega | (simp <;> omega)) _) | (with_reducible refine Below.drew ?_) | (with_reducible refine below_drewN ?_ _) | (with_reducible refine Below.trans ?_ (Below.mono (by with_reducible assumption) (by first | omega | (simp <;> omega)))))))⟩
  all_goals simp [results, Tryd.results14, go_sem, *]
  all_goals simp_all [unO, done, vn, vb, vu, thrown, eNum, truthy_sane, not_s32, neg_sane]
end Go.Proofs.YtkfpomkfgdkjdaaDoor
