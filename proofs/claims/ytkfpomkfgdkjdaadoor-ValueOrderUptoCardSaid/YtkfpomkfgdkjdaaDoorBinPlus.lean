/- The walk of chapter 14's Binary of the program at one operator. -/
import Derived.Test.YtkfpomkfgdkjdaaDoorW5
namespace Go.Proofs.YtkfpomkfgdkjdaaDoor
set_option linter.unusedVariables false
set_option linter.unusedSimpArgs false
open Go.RowKit
attribute [local go_sem] nfn1 nfn2 nfn3 nfn4
set_option maxRecDepth 100000 in
set_option maxHeartbeats 2000000 in
theorem Binary_plus_num (a b : V) (w : World) (hy1 : (sane a).k = 3) (hy2 : (sane b).k = 3) :
    Calls Tryd.prog 16 #[.string ⟨#[43]⟩, .agg #[.int .i64 (a).k, .int .i64 (a).n, .string (a).s], .agg #[.int .i64 (b).k, .int .i64 (b).n, .string (b).s]] w fun e w' => e = .returned (.tuple #[.agg #[.int .i64 (plusO a b).v.k, .int .i64 (plusO a b).v.n, .string (plusO a b).v.s], .string (plusO a b).t, .int .i64 (plusO a b).f]) ∧ Below w.heap.size w w' := by
  have ha := sane_bd a hy1
  have hb := sane_bd b hy2
  have e1 : ((sane a).k == 3) = true := by simp [hy1]
  have e2 : ((sane b).k == 3) = true := by simp [hy2]
  have HP := Lib.hid (plusO_num hy1 hy2)
  clear hy1 hy2
  go_enter Tryd.func16, Tryd.ntmps16
  go_upto_region 1 with fail
  go_cut [15] (fun _ wx => Kept a b w wx)
  case first =>
    go_region_with (go_at_call 25; refine (plain_any _ _ _ _).mono ?_; rintro e wb3 ⟨rfl, b3⟩; have zb3 : w.heap.size + 3 ≤ wb3.heap.size := (by have hzz := Below.size b3; first | omega | (simp at hzz; omega)); replace b3 := Below.mono (B' := w.heap.size + 3) b3 (by first | omega | (simp <;> omega)); obtain ⟨hcb3, hfb3⟩ := bcell b3)
    all_goals (go_wp2_with fail; go_meet; exact kept_fin a b w (by assumption) (by assumption))
  case rest =>
    obtain ⟨r1, r2, r3, b0⟩ := hcut
    have c10 : wc.cell? ⟨w.heap.size, 0, none⟩ = some (.int .i64 (sane a).k) := r1.cell 0
    have c11 : wc.cell? ⟨w.heap.size, 1, none⟩ = some (.int .i64 (sane a).n) := r1.cell 1
    have c12 : wc.cell? ⟨w.heap.size, 2, none⟩ = some (.string (sane a).s) := r1.cell 2
    have c20 : wc.cell? ⟨w.heap.size + 1, 0, none⟩ = some (.int .i64 (sane b).k) := r2.cell 0
    have c21 : wc.cell? ⟨w.heap.size + 1, 1, none⟩ = some (.int .i64 (sane b).n) := r2.cell 1
    have c22 : wc.cell? ⟨w.heap.size + 1, 2, none⟩ = some (.string (sane b).s) := r2.cell 2
    have c30 : wc.cell? ⟨w.heap.size + 1 + 1, 0, none⟩ = some (.int .i64 0) := r3.cell 0
    have c31 : wc.cell? ⟨w.heap.size + 1 + 1, 1, none⟩ = some (.int .i64 0) := r3.cell 1
    have c32 : wc.cell? ⟨w.heap.size + 1 + 1, 2, none⟩ = some (.string ⟨#[]⟩) := r3.cell 2
    have f30 := r3.free 0
    have f31 := r3.free 1
    have f32 := r3.free 2
    have z0 : w.heap.size + 3 ≤ wc.heap.size := r3.lt
    clear r1 r2 r3
    go_wp2_with (first | (go_at_call 37; refine (exact_any _ _ _).mono ?_; rintro e wb4 ⟨rfl, b4⟩; have zb4 : w.heap.size + 3 ≤ wb4.heap.size := (by have hzz := Below.size b4; first | omega | (simp at hzz; omega)); replace b4 := Below.mono (B' := w.heap.size + 3) b4 (by first | omega | (simp <;> omega)); obtain ⟨hcb4, hfb4⟩ := bcell b4))
    all_goals refine bodyPost_ret (v := .tuple #[.agg #[.int .i64 (plusO a b).v.k, .int .i64 (plusO a b).v.n, .string (plusO a b).v.s], .string (plusO a b).t, .int .i64 (plusO a b).f]) ?_ rfl ⟨rfl, (by (repeat (first | (with_reducible exact Below.refl _ _) | (with_reducible assumption) | (with_reducible refine Below.setCell ?_ (by first | omega | (simp <;> omega)) _) | (with_reducible refine Below.alloc ?_ (by first | omega | (simp <;> omega)) _) | (with_reducible refine Below.drew ?_) | (with_reducible refine below_drewN ?_ _) | (with_reducible refine Below.trans ?_ (Below.mono (by with_reducible assumption) (by first | omega | (simp <;> omega)))))))⟩
    all_goals (rw [HP.out]; simp [results, Tryd.results16, go_sem, *])
set_option maxRecDepth 100000 in
set_option maxHeartbeats 2000000 in
theorem Binary_plus_no (a b : V) (w : World) (hno : ¬ ((sane a).k = 3 ∧ (sane b).k = 3)) (hnt : ¬ ((sane a).k ≠ 5 ∧ (sane b).k ≠ 5 ∧ ((sane a).k = 4 ∨ (sane b).k = 4))) :
    Calls Tryd.prog 16 #[.string ⟨#[43]⟩, .agg #[.int .i64 (a).k, .int .i64 (a).n, .string (a).s], .agg #[.int .i64 (b).k, .int .i64 (b).n, .string (b).s]] w fun e w' => e = .returned (.tuple #[.agg #[.int .i64 (plusO a b).v.k, .int .i64 (plusO a b).v.n, .string (plusO a b).v.s], .string (plusO a b).t, .int .i64 (plusO a b).f]) ∧ Below w.heap.size w w' := by
  have HP := Lib.hid (plusO_no hno hnt)
  have H1 := Lib.hid hno
  have H2 := Lib.hid hnt
  clear hno hnt
  go_enter Tryd.func16, Tryd.ntmps16
  go_upto_region 1 with fail
  go_cut [15] (fun _ wx => Kept a b w wx)
  case first =>
    go_region_with (go_at_call 25; refine (plain_any _ _ _ _).mono ?_; rintro e wb3 ⟨rfl, b3⟩; have zb3 : w.heap.size + 3 ≤ wb3.heap.size := (by have hzz := Below.size b3; first | omega | (simp at hzz; omega)); replace b3 := Below.mono (B' := w.heap.size + 3) b3 (by first | omega | (simp <;> omega)); obtain ⟨hcb3, hfb3⟩ := bcell b3)
    all_goals (go_wp2_with fail; go_meet; exact kept_fin a b w (by assumption) (by assumption))
  case rest =>
    obtain ⟨r1, r2, r3, b0⟩ := hcut
    have c10 : wc.cell? ⟨w.heap.size, 0, none⟩ = some (.int .i64 (sane a).k) := r1.cell 0
    have c11 : wc.cell? ⟨w.heap.size, 1, none⟩ = some (.int .i64 (sane a).n) := r1.cell 1
    have c12 : wc.cell? ⟨w.heap.size, 2, none⟩ = some (.string (sane a).s) := r1.cell 2
    have c20 : wc.cell? ⟨w.heap.size + 1, 0, none⟩ = some (.int .i64 (sane b).k) := r2.cell 0
    have c21 : wc.cell? ⟨w.heap.size + 1, 1, none⟩ = some (.int .i64 (sane b).n) := r2.cell 1
    have c22 : wc.cell? ⟨w.heap.size + 1, 2, none⟩ = some (.string (sane b).s) := r2.cell 2
    have c30 : wc.cell? ⟨w.heap.size + 1 + 1, 0, none⟩ = some (.int .i64 0) := r3.cell 0
    have c31 : wc.cell? ⟨w.heap.size + 1 + 1, 1, none⟩ = some (.int .i64 0) := r3.cell 1
    have c32 : wc.cell? ⟨w.heap.size + 1 + 1, 2, none⟩ = some (.string ⟨#[]⟩) := r3.cell 2
    have f30 := r3.free 0
    have f31 := r3.free 1
    have f32 := r3.free 2
    have z0 : w.heap.size + 3 ≤ wc.heap.size := r3.lt
    clear r1 r2 r3
    go_wp2_with (first | (go_at_call 28; refine (throws_any _ _).mono ?_; rintro e wb5 ⟨rfl, b5⟩; have zb5 : w.heap.size + 3 ≤ wb5.heap.size := (by have hzz := Below.size b5; first | omega | (simp at hzz; omega)); replace b5 := Below.mono (B' := w.heap.size + 3) b5 (by first | omega | (simp <;> omega)); obtain ⟨hcb5, hfb5⟩ := bcell b5))
    all_goals first
      | (exfalso; have h1 := H1.out; have h2 := H2.out; clear H1 H2; simp_all; done)
      | skip
    all_goals refine bodyPost_ret (v := .tuple #[.agg #[.int .i64 (plusO a b).v.k, .int .i64 (plusO a b).v.n, .string (plusO a b).v.s], .string (plusO a b).t, .int .i64 (plusO a b).f]) ?_ rfl ⟨rfl, (by (repeat (first | (with_reducible exact Below.refl _ _) | (with_reducible assumption) | (with_reducible refine Below.setCell ?_ (by first | omega | (simp <;> omega)) _) | (with_reducible refine Below.alloc ?_ (by first | omega | (simp <;> omega)) _) | (with_reducible refine Below.drew ?_) | (with_reducible refine below_drewN ?_ _) | (with_reducible refine Below.trans ?_ (Below.mono (by with_reducible assumption) (by first | omega | (simp <;> omega)))))))⟩
    all_goals (rw [HP.out]; simp [results, Tryd.results16, go_sem, *, thrown, ePlus, vu])
end Go.Proofs.YtkfpomkfgdkjdaaDoor
