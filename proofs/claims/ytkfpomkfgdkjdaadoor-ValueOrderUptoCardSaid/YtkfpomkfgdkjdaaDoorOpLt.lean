/- The walks of chapter 14's Binary, of the program and of the reference, at one operator. -/
import Derived.Test.YtkfpomkfgdkjdaaDoorW12
import Derived.Test.YtkfpomkfgdkjdaaDoorW9
import Derived.Deep.RegionWith
namespace Go.Proofs.YtkfpomkfgdkjdaaDoor
set_option linter.unusedVariables false
set_option linter.unusedSimpArgs false
open Go.RowKit
section
attribute [local go_sem] nfn1 nfn2 nfn3 nfn4
set_option maxRecDepth 100000 in
set_option maxHeartbeats 2000000 in
theorem Binary_lt_num (a b : V) (w : World) (hy1 : (sane a).k = 3) (hy2 : (sane b).k = 3) :
    Calls Tryd.prog 16 #[.string ⟨#[60]⟩, .agg #[.int .i64 (a).k, .int .i64 (a).n, .string (a).s], .agg #[.int .i64 (b).k, .int .i64 (b).n, .string (b).s]] w fun e w' => e = .returned (.tuple #[.agg #[.int .i64 (ordO flt cmpT a b).v.k, .int .i64 (ordO flt cmpT a b).v.n, .string (ordO flt cmpT a b).v.s], .string (ordO flt cmpT a b).t, .int .i64 (ordO flt cmpT a b).f]) ∧ Below w.heap.size w w' := by
  have ha := sane_bd a hy1
  have hb := sane_bd b hy2
  have e1 : ((sane a).k == 3) = true := by simp [hy1]
  have e2 : ((sane b).k == 3) = true := by simp [hy2]
  have HP := Lib.hid (ordO_num (f := flt) (cmp := cmpT) hy1 hy2)
  clear hy1 hy2
  go_enter Tryd.func16, Tryd.ntmps16
  go_upto_region 1 with fail
  go_cut [15] (fun _ wx => Kept a b w wx)
  case first =>
    go_region_with (go_at_call 25; refine (plain_any _ _ _ _).mono ?_; rintro e wb3 ⟨rfl, b3⟩; have zb3 : w.heap.size + 3 ≤ wb3.heap.size := (by have hzz := Below.size b3; first | omega | (simp at hzz; omega)); replace b3 := Below.mono (B' := w.heap.size + 3) b3 (by first | omega | (simp <;> omega)); obtain ⟨hcb3, hfb3⟩ := bcell b3)
    all_goals (go_wp2_with fail; go_meet; exact kept_fin a b w (by assumption) (by assumption))
  case rest =>
    obtain ⟨r1, r2, r3, b0⟩ := hcut
    have c10 : wc.cell? ⟨w.heap.size, 0, none⟩ = some (.int .i64 (sane a).k) := r1.cell 0
    have c11 : wc.cell? ⟨w.heap.size, 1, none⟩ = some (.int .i64 (sane a).n) := r1.cell 1
    have c12 : wc.cell? ⟨w.heap.size, 2, none⟩ = some (.string (sane a).s) := r1.cell 2
    have c20 : wc.cell? ⟨w.heap.size + 1, 0, none⟩ = some (.int .i64 (sane b).k) := r2.cell 0
    have c21 : wc.cell? ⟨w.heap.size + 1, 1, none⟩ = some (.int .i64 (sane b).n) := r2.cell 1
    have c22 : wc.cell? ⟨w.heap.size + 1, 2, none⟩ = some (.string (sane b).s) := r2.cell 2
    have c30 : wc.cell? ⟨w.heap.size + 1 + 1, 0, none⟩ = some (.int .i64 0) := r3.cell 0
    have c31 : wc.cell? ⟨w.heap.size + 1 + 1, 1, none⟩ = some (.int .i64 0) := r3.cell 1
    have c32 : wc.cell? ⟨w.heap.size + 1 + 1, 2, none⟩ = some (.string ⟨#[]⟩) := r3.cell 2
    have f30 := r3.free 0
    have f31 := r3.free 1
    have f32 := r3.free 2
    have z0 : w.heap.size + 3 ≤ wc.heap.size := r3.lt
    clear r1 r2 r3
    go_wp2_with (first
      | (go_at_call 38; (with_reducible refine (num_lt _).mono ?_); rintro e w3 ⟨rfl, rfl⟩)
      | (go_at_call 39; (with_reducible refine (ord_olt _).mono ?_); rintro e w4 ⟨rfl, rfl⟩)
      | (go_at_call 60; (with_reducible refine (olt_any _ _).mono ?_); rintro e w5 ⟨rfl, rfl⟩)
      | (go_at_call 27; refine (truth_any _ _).mono ?_; rintro e wb6 ⟨rfl, b6⟩; have zb6 : w.heap.size + 3 ≤ wb6.heap.size := (by have hzz := Below.size b6; first | omega | (simp at hzz; omega)); replace b6 := Below.mono (B' := w.heap.size + 3) b6 (by first | omega | (simp <;> omega)); obtain ⟨hcb6, hfb6⟩ := bcell b6)
      | (go_at_call 26; refine (done_any _ _ _ _).mono ?_; rintro e wb7 ⟨rfl, b7⟩; have zb7 : w.heap.size + 3 ≤ wb7.heap.size := (by have hzz := Below.size b7; first | omega | (simp at hzz; omega)); replace b7 := Below.mono (B' := w.heap.size + 3) b7 (by first | omega | (simp <;> omega)); obtain ⟨hcb7, hfb7⟩ := bcell b7)
      | (go_at_call 28; refine (throws_any _ _).mono ?_; rintro e wb5 ⟨rfl, b5⟩; have zb5 : w.heap.size + 3 ≤ wb5.heap.size := (by have hzz := Below.size b5; first | omega | (simp at hzz; omega)); replace b5 := Below.mono (B' := w.heap.size + 3) b5 (by first | omega | (simp <;> omega)); obtain ⟨hcb5, hfb5⟩ := bcell b5))
    all_goals refine bodyPost_ret (v := .tuple #[.agg #[.int .i64 (ordO flt cmpT a b).v.k, .int .i64 (ordO flt cmpT a b).v.n, .string (ordO flt cmpT a b).v.s], .string (ordO flt cmpT a b).t, .int .i64 (ordO flt cmpT a b).f]) ?_ rfl ⟨rfl, (by (repeat (first | (with_reducible exact Below.refl _ _) | (with_reducible assumption) | (with_reducible refine Below.setCell ?_ (by first | omega | (simp <;> omega)) _) | (with_reducible refine Below.alloc ?_ (by first | omega | (simp <;> omega)) _) | (with_reducible refine Below.drew ?_) | (with_reducible refine below_drewN ?_ _) | (with_reducible refine Below.trans ?_ (Below.mono (by with_reducible assumption) (by first | omega | (simp <;> omega)))))))⟩
    all_goals (rw [HP.out]; simp [results, Tryd.results16, go_sem, *, done, vb, flt])
set_option maxRecDepth 100000 in
set_option maxHeartbeats 2000000 in
theorem Binary_lt_txt (a b : V) (w : World) (hy1 : (sane a).k = 4) (hy2 : (sane b).k = 4) (hs1 : (sane a).s.size ≤ 1099511627776) (hs2 : (sane b).s.size ≤ 1099511627776) :
    Calls Tryd.prog 16 #[.string ⟨#[60]⟩, .agg #[.int .i64 (a).k, .int .i64 (a).n, .string (a).s], .agg #[.int .i64 (b).k, .int .i64 (b).n, .string (b).s]] w fun e w' => e = .returned (.tuple #[.agg #[.int .i64 (ordO flt cmpT a b).v.k, .int .i64 (ordO flt cmpT a b).v.n, .string (ordO flt cmpT a b).v.s], .string (ordO flt cmpT a b).t, .int .i64 (ordO flt cmpT a b).f]) ∧ Below w.heap.size w w' := by
  have e1 : ((sane a).k == 3) = false := by simp [hy1]
  have e2 : ((sane b).k == 3) = false := by simp [hy2]
  have e3 : ((sane a).k == 4) = true := by simp [hy1]
  have e4 : ((sane b).k == 4) = true := by simp [hy2]
  have HP := Lib.hid (ordO_txt (f := flt) (cmp := cmpT) hy1 hy2)
  clear hy1 hy2
  go_enter Tryd.func16, Tryd.ntmps16
  go_upto_region 1 with fail
  go_cut [15] (fun _ wx => Kept a b w wx)
  case first =>
    go_region_with (go_at_call 25; refine (plain_any _ _ _ _).mono ?_; rintro e wb3 ⟨rfl, b3⟩; have zb3 : w.heap.size + 3 ≤ wb3.heap.size := (by have hzz := Below.size b3; first | omega | (simp at hzz; omega)); replace b3 := Below.mono (B' := w.heap.size + 3) b3 (by first | omega | (simp <;> omega)); obtain ⟨hcb3, hfb3⟩ := bcell b3)
    all_goals (go_wp2_with fail; go_meet; exact kept_fin a b w (by assumption) (by assumption))
  case rest =>
    obtain ⟨r1, r2, r3, b0⟩ := hcut
    have c10 : wc.cell? ⟨w.heap.size, 0, none⟩ = some (.int .i64 (sane a).k) := r1.cell 0
    have c11 : wc.cell? ⟨w.heap.size, 1, none⟩ = some (.int .i64 (sane a).n) := r1.cell 1
    have c12 : wc.cell? ⟨w.heap.size, 2, none⟩ = some (.string (sane a).s) := r1.cell 2
    have c20 : wc.cell? ⟨w.heap.size + 1, 0, none⟩ = some (.int .i64 (sane b).k) := r2.cell 0
    have c21 : wc.cell? ⟨w.heap.size + 1, 1, none⟩ = some (.int .i64 (sane b).n) := r2.cell 1
    have c22 : wc.cell? ⟨w.heap.size + 1, 2, none⟩ = some (.string (sane b).s) := r2.cell 2
    have c30 : wc.cell? ⟨w.heap.size + 1 + 1, 0, none⟩ = some (.int .i64 0) := r3.cell 0
    have c31 : wc.cell? ⟨w.heap.size + 1 + 1, 1, none⟩ = some (.int .i64 0) := r3.cell 1
    have c32 : wc.cell? ⟨w.heap.size + 1 + 1, 2, none⟩ = some (.string ⟨#[]⟩) := r3.cell 2
    have f30 := r3.free 0
    have f31 := r3.free 1
    have f32 := r3.free 2
    have z0 : w.heap.size + 3 ≤ wc.heap.size := r3.lt
    clear r1 r2 r3
    go_wp2_with (first
      | (go_at_call 38; (with_reducible refine (num_lt _).mono ?_); rintro e w3 ⟨rfl, rfl⟩)
      | (go_at_call 39; (with_reducible refine (ord_olt _).mono ?_); rintro e w4 ⟨rfl, rfl⟩)
      | (go_at_call 60; (with_reducible refine (olt_any _ _).mono ?_); rintro e w5 ⟨rfl, rfl⟩)
      | (go_at_call 27; refine (truth_any _ _).mono ?_; rintro e wb6 ⟨rfl, b6⟩; have zb6 : w.heap.size + 3 ≤ wb6.heap.size := (by have hzz := Below.size b6; first | omega | (simp at hzz; omega)); replace b6 := Below.mono (B' := w.heap.size + 3) b6 (by first | omega | (simp <;> omega)); obtain ⟨hcb6, hfb6⟩ := bcell b6)
      | (go_at_call 26; refine (done_any _ _ _ _).mono ?_; rintro e wb7 ⟨rfl, b7⟩; have zb7 : w.heap.size + 3 ≤ wb7.heap.size := (by have hzz := Below.size b7; first | omega | (simp at hzz; omega)); replace b7 := Below.mono (B' := w.heap.size + 3) b7 (by first | omega | (simp <;> omega)); obtain ⟨hcb7, hfb7⟩ := bcell b7)
      | (go_at_call 28; refine (throws_any _ _).mono ?_; rintro e wb5 ⟨rfl, b5⟩; have zb5 : w.heap.size + 3 ≤ wb5.heap.size := (by have hzz := Below.size b5; first | omega | (simp at hzz; omega)); replace b5 := Below.mono (B' := w.heap.size + 3) b5 (by first | omega | (simp <;> omega)); obtain ⟨hcb5, hfb5⟩ := bcell b5)
      | (go_at_call 40; refine (compared_any _ _ hs1 hs2 _).mono ?_; rintro e wb8 ⟨rfl, b8⟩; have zb8 : w.heap.size + 3 ≤ wb8.heap.size := (by have hzz := Below.size b8; first | omega | (simp at hzz; omega)); replace b8 := Below.mono (B' := w.heap.size + 3) b8 (by first | omega | (simp <;> omega)); obtain ⟨hcb8, hfb8⟩ := bcell b8))
    all_goals refine bodyPost_ret (v := .tuple #[.agg #[.int .i64 (ordO flt cmpT a b).v.k, .int .i64 (ordO flt cmpT a b).v.n, .string (ordO flt cmpT a b).v.s], .string (ordO flt cmpT a b).t, .int .i64 (ordO flt cmpT a b).f]) ?_ rfl ⟨rfl, (by (repeat (first | (with_reducible exact Below.refl _ _) | (with_reducible assumption) | (with_reducible refine Below.setCell ?_ (by first | omega | (simp <;> omega)) _) | (with_reducible refine Below.alloc ?_ (by first | omega | (simp <;> omega)) _) | (with_reducible refine Below.drew ?_) | (with_reducible refine below_drewN ?_ _) | (with_reducible refine Below.trans ?_ (Below.mono (by with_reducible assumption) (by first | omega | (simp <;> omega)))))))⟩
    all_goals (rw [HP.out]; simp [results, Tryd.results16, go_sem, *, done, vb, flt])
set_option maxRecDepth 100000 in
set_option maxHeartbeats 2000000 in
theorem Binary_lt_no (a b : V) (w : World) (hno : ¬ ((sane a).k = 3 ∧ (sane b).k = 3)) (hnt : ¬ ((sane a).k = 4 ∧ (sane b).k = 4)) :
    Calls Tryd.prog 16 #[.string ⟨#[60]⟩, .agg #[.int .i64 (a).k, .int .i64 (a).n, .string (a).s], .agg #[.int .i64 (b).k, .int .i64 (b).n, .string (b).s]] w fun e w' => e = .returned (.tuple #[.agg #[.int .i64 (ordO flt cmpT a b).v.k, .int .i64 (ordO flt cmpT a b).v.n, .string (ordO flt cmpT a b).v.s], .string (ordO flt cmpT a b).t, .int .i64 (ordO flt cmpT a b).f]) ∧ Below w.heap.size w w' := by
  have HP := Lib.hid (ordO_no (f := flt) (cmp := cmpT) hno hnt)
  have H1 := Lib.hid hno
  have H2 := Lib.hid hnt
  clear hno hnt
  go_enter Tryd.func16, Tryd.ntmps16
  go_upto_region 1 with fail
  go_cut [15] (fun _ wx => Kept a b w wx)
  case first =>
    go_region_with (go_at_call 25; refine (plain_any _ _ _ _).mono ?_; rintro e wb3 ⟨rfl, b3⟩; have zb3 : w.heap.size + 3 ≤ wb3.heap.size := (by have hzz := Below.size b3; first | omega | (simp at hzz; omega)); replace b3 := Below.mono (B' := w.heap.size + 3) b3 (by first | omega | (simp <;> omega)); obtain ⟨hcb3, hfb3⟩ := bcell b3)
    all_goals (go_wp2_with fail; go_meet; exact kept_fin a b w (by assumption) (by assumption))
  case rest =>
    obtain ⟨r1, r2, r3, b0⟩ := hcut
    have c10 : wc.cell? ⟨w.heap.size, 0, none⟩ = some (.int .i64 (sane a).k) := r1.cell 0
    have c11 : wc.cell? ⟨w.heap.size, 1, none⟩ = some (.int .i64 (sane a).n) := r1.cell 1
    have c12 : wc.cell? ⟨w.heap.size, 2, none⟩ = some (.string (sane a).s) := r1.cell 2
    have c20 : wc.cell? ⟨w.heap.size + 1, 0, none⟩ = some (.int .i64 (sane b).k) := r2.cell 0
    have c21 : wc.cell? ⟨w.heap.size + 1, 1, none⟩ = some (.int .i64 (sane b).n) := r2.cell 1
    have c22 : wc.cell? ⟨w.heap.size + 1, 2, none⟩ = some (.string (sane b).s) := r2.cell 2
    have c30 : wc.cell? ⟨w.heap.size + 1 + 1, 0, none⟩ = some (.int .i64 0) := r3.cell 0
    have c31 : wc.cell? ⟨w.heap.size + 1 + 1, 1, none⟩ = some (.int .i64 0) := r3.cell 1
    have c32 : wc.cell? ⟨w.heap.size + 1 + 1, 2, none⟩ = some (.string ⟨#[]⟩) := r3.cell 2
    have f30 := r3.free 0
    have f31 := r3.free 1
    have f32 := r3.free 2
    have z0 : w.heap.size + 3 ≤ wc.heap.size := r3.lt
    clear r1 r2 r3
    go_wp2_with (first
      | (go_at_call 38; (with_reducible refine (num_lt _).mono ?_); rintro e w3 ⟨rfl, rfl⟩)
      | (go_at_call 39; (with_reducible refine (ord_olt _).mono ?_); rintro e w4 ⟨rfl, rfl⟩)
      | (go_at_call 60; (with_reducible refine (olt_any _ _).mono ?_); rintro e w5 ⟨rfl, rfl⟩)
      | (go_at_call 27; refine (truth_any _ _).mono ?_; rintro e wb6 ⟨rfl, b6⟩; have zb6 : w.heap.size + 3 ≤ wb6.heap.size := (by have hzz := Below.size b6; first | omega | (simp at hzz; omega)); replace b6 := Below.mono (B' := w.heap.size + 3) b6 (by first | omega | (simp <;> omega)); obtain ⟨hcb6, hfb6⟩ := bcell b6)
      | (go_at_call 26; refine (done_any _ _ _ _).mono ?_; rintro e wb7 ⟨rfl, b7⟩; have zb7 : w.heap.size + 3 ≤ wb7.heap.size := (by have hzz := Below.size b7; first | omega | (simp at hzz; omega)); replace b7 := Below.mono (B' := w.heap.size + 3) b7 (by first | omega | (simp <;> omega)); obtain ⟨hcb7, hfb7⟩ := bcell b7)
      | (go_at_call 28; refine (throws_any _ _).mono ?_; rintro e wb5 ⟨rfl, b5⟩; have zb5 : w.heap.size + 3 ≤ wb5.heap.size := (by have hzz := Below.size b5; first | omega | (simp at hzz; omega)); replace b5 := Below.mono (B' := w.heap.size + 3) b5 (by first | omega | (simp <;> omega)); obtain ⟨hcb5, hfb5⟩ := bcell b5))
    all_goals first
      | (exfalso; have h1 := H1.out; have h2 := H2.out; clear H1 H2; simp_all; done)
      | skip
    all_goals refine bodyPost_ret (v := .tuple #[.agg #[.int .i64 (ordO flt cmpT a b).v.k, .int .i64 (ordO flt cmpT a b).v.n, .string (ordO flt cmpT a b).v.s], .string (ordO flt cmpT a b).t, .int .i64 (ordO flt cmpT a b).f]) ?_ rfl ⟨rfl, (by (repeat (first | (with_reducible exact Below.refl _ _) | (with_reducible assumption) | (with_reducible refine Below.setCell ?_ (by first | omega | (simp <;> omega)) _) | (with_reducible refine Below.alloc ?_ (by first | omega | (simp <;> omega)) _) | (with_reducible refine Below.drew ?_) | (with_reducible refine below_drewN ?_ _) | (with_reducible refine Below.trans ?_ (Below.mono (by with_reducible assumption) (by first | omega | (simp <;> omega)))))))⟩
    all_goals (rw [HP.out]; simp [results, Tryd.results16, go_sem, *, thrown, eOrder, vu])
end
section
attribute [local go_sem] valEq
set_option maxRecDepth 100000 in
set_option maxHeartbeats 2000000 in
theorem rBinary_lt_num (a b : V) (w : World) (hy1 : (sane a).k = 3) (hy2 : (sane b).k = 3) :
    Calls Tryd.prog 17 #[.string ⟨#[60]⟩, .agg #[.int .i64 (a).k, .int .i64 (a).n, .string (a).s], .agg #[.int .i64 (b).k, .int .i64 (b).n, .string (b).s]] w fun e w' => e = .returned (.agg #[.int .i64 (ordO flt cmpT a b).v.k, .int .i64 (ordO flt cmpT a b).v.n, .string (ordO flt cmpT a b).v.s, .string (ordO flt cmpT a b).t, .int .i64 (ordO flt cmpT a b).f]) ∧ Below w.heap.size w w' := by
  have ha := sane_bd a hy1
  have hb := sane_bd b hy2
  have e1 : ((sane a).k == 3) = true := by simp [hy1]
  have e2 : ((sane b).k == 3) = true := by simp [hy2]
  have HP := Lib.hid (ordO_num (f := flt) (cmp := cmpT) hy1 hy2)
  clear hy1 hy2
  go_enter Tryd.func17, Tryd.ntmps17
  go_upto_region 2 with (first | (go_at_call 31; refine (Sane_any _ _ _ _).mono ?_; rintro e wb1 ⟨rfl, b1⟩; have zb1 : w.heap.size + 3 ≤ wb1.heap.size := (by have hzz := Below.size b1; first | omega | (simp at hzz; omega)); replace b1 := Below.mono (B' := w.heap.size + 3) b1 (by first | omega | (simp <;> omega)); obtain ⟨hcb1, hfb1⟩ := bcell b1))
  have lt0 : w.heap.size < wb1.heap.size := by omega
  have lt1 : w.heap.size + 1 < wb1.heap.size := by omega
  have lt2 : w.heap.size + 1 + 1 < wb1.heap.size := by omega
  go_cut [8] (fun p wx => ∃ gb, p = .pointer (some ⟨gb, 0, none⟩) ∧ Row wx wb1.heap.size 23 (cellsOf (sane a)) ∧ Row wx gb 23 (cellsOf (sane b)) ∧ Row wx (w.heap.size + 1 + 1) 28 zeroO ∧ Below w.heap.size w wx)
  case first =>
    go_wp2_with (first | (go_at_call 31; refine (Sane_any _ _ _ _).mono ?_; rintro e wb2 ⟨rfl, b2⟩))
    go_meet
    exact ⟨_, rfl, rb_fin a b b1 b2⟩
  case rest =>
    obtain ⟨gb, rfl, r1, r2, r3, b0⟩ := hcut
    have c10 : wc.cell? ⟨wb1.heap.size, 0, none⟩ = some (.int .i64 (sane a).k) := r1.cell 0
    have c11 : wc.cell? ⟨wb1.heap.size, 1, none⟩ = some (.int .i64 (sane a).n) := r1.cell 1
    have c12 : wc.cell? ⟨wb1.heap.size, 2, none⟩ = some (.string (sane a).s) := r1.cell 2
    have l1 : wb1.heap.size < wc.heap.size := r1.lt
    have c20 : wc.cell? ⟨gb, 0, none⟩ = some (.int .i64 (sane b).k) := r2.cell 0
    have c21 : wc.cell? ⟨gb, 1, none⟩ = some (.int .i64 (sane b).n) := r2.cell 1
    have c22 : wc.cell? ⟨gb, 2, none⟩ = some (.string (sane b).s) := r2.cell 2
    have l2 : gb < wc.heap.size := r2.lt
    have c30 : wc.cell? ⟨w.heap.size + 1 + 1, 0, none⟩ = some (.int .i64 0) := r3.cell 0
    have c31 : wc.cell? ⟨w.heap.size + 1 + 1, 1, none⟩ = some (.int .i64 0) := r3.cell 1
    have c32 : wc.cell? ⟨w.heap.size + 1 + 1, 2, none⟩ = some (.string ⟨#[]⟩) := r3.cell 2
    have c33 : wc.cell? ⟨w.heap.size + 1 + 1, 3, none⟩ = some (.string ⟨#[]⟩) := r3.cell 3
    have c34 : wc.cell? ⟨w.heap.size + 1 + 1, 4, none⟩ = some (.int .i64 0) := r3.cell 4
    have f30 := r3.free 0
    have f31 := r3.free 1
    have f32 := r3.free 2
    have f33 := r3.free 3
    have f34 := r3.free 4
    have l3 : w.heap.size + 1 + 1 < wc.heap.size := r3.lt
    clear r1 r2 r3 b1 hcb1 hfb1 lt0 lt1 lt2 zb1
    go_wp2_with (first
      | (go_at_call 43; refine (rord_olt _ _).mono ?_; rintro e wq ⟨rfl, hwq⟩; obtain rfl := hwq.symm)
      | (go_at_call 32; refine (rBool_any _ _).mono ?_; rintro e wb5 ⟨rfl, b5⟩; have zb5 : wc.heap.size ≤ wb5.heap.size := (by have hzz := Below.size b5; first | omega | (simp at hzz; omega)); replace b5 := Below.mono (B' := wc.heap.size) b5 (by first | omega | (simp <;> omega)); obtain ⟨hcb5, hfb5⟩ := bcell b5)
      | (go_at_call 33; refine (rThrow_any _ _).mono ?_; rintro e wb4 ⟨rfl, b4⟩; have zb4 : wc.heap.size ≤ wb4.heap.size := (by have hzz := Below.size b4; first | omega | (simp at hzz; omega)); replace b4 := Below.mono (B' := wc.heap.size) b4 (by first | omega | (simp <;> omega)); obtain ⟨hcb4, hfb4⟩ := bcell b4))
    all_goals refine bodyPost_ret (v := .agg #[.int .i64 (ordO flt cmpT a b).v.k, .int .i64 (ordO flt cmpT a b).v.n, .string (ordO flt cmpT a b).v.s, .string (ordO flt cmpT a b).t, .int .i64 (ordO flt cmpT a b).f]) ?_ rfl ⟨rfl, (by (repeat (first | (with_reducible exact Below.refl _ _) | (with_reducible assumption) | (with_reducible refine Below.setCell ?_ (by first | omega | (simp <;> omega)) _) | (with_reducible refine Below.alloc ?_ (by first | omega | (simp <;> omega)) _) | (with_reducible refine Below.drew ?_) | (with_reducible refine below_drewN ?_ _) | (with_reducible refine Below.trans ?_ (Below.mono (by with_reducible assumption) (by first | omega | (simp <;> omega)))))))⟩
    all_goals (rw [HP.out]; simp [results, Tryd.results17, go_sem, *, done, vb, flt])
set_option maxRecDepth 100000 in
set_option maxHeartbeats 2000000 in
theorem rBinary_lt_txt (a b : V) (w : World) (hy1 : (sane a).k = 4) (hy2 : (sane b).k = 4) (hs1 : (sane a).s.size ≤ 1099511627776) (hs2 : (sane b).s.size ≤ 1099511627776) :
    Calls Tryd.prog 17 #[.string ⟨#[60]⟩, .agg #[.int .i64 (a).k, .int .i64 (a).n, .string (a).s], .agg #[.int .i64 (b).k, .int .i64 (b).n, .string (b).s]] w fun e w' => e = .returned (.agg #[.int .i64 (ordO flt cmpT a b).v.k, .int .i64 (ordO flt cmpT a b).v.n, .string (ordO flt cmpT a b).v.s, .string (ordO flt cmpT a b).t, .int .i64 (ordO flt cmpT a b).f]) ∧ Below w.heap.size w w' := by
  have e1 : ((sane a).k == 3) = false := by simp [hy1]
  have e2 : ((sane b).k == 3) = false := by simp [hy2]
  have e3 : ((sane a).k == 4) = true := by simp [hy1]
  have e4 : ((sane b).k == 4) = true := by simp [hy2]
  have HP := Lib.hid (ordO_txt (f := flt) (cmp := cmpT) hy1 hy2)
  clear hy1 hy2
  go_enter Tryd.func17, Tryd.ntmps17
  go_upto_region 2 with (first | (go_at_call 31; refine (Sane_any _ _ _ _).mono ?_; rintro e wb1 ⟨rfl, b1⟩; have zb1 : w.heap.size + 3 ≤ wb1.heap.size := (by have hzz := Below.size b1; first | omega | (simp at hzz; omega)); replace b1 := Below.mono (B' := w.heap.size + 3) b1 (by first | omega | (simp <;> omega)); obtain ⟨hcb1, hfb1⟩ := bcell b1))
  have lt0 : w.heap.size < wb1.heap.size := by omega
  have lt1 : w.heap.size + 1 < wb1.heap.size := by omega
  have lt2 : w.heap.size + 1 + 1 < wb1.heap.size := by omega
  go_cut [8] (fun p wx => ∃ gb, p = .pointer (some ⟨gb, 0, none⟩) ∧ Row wx wb1.heap.size 23 (cellsOf (sane a)) ∧ Row wx gb 23 (cellsOf (sane b)) ∧ Row wx (w.heap.size + 1 + 1) 28 zeroO ∧ Below w.heap.size w wx)
  case first =>
    go_wp2_with (first | (go_at_call 31; refine (Sane_any _ _ _ _).mono ?_; rintro e wb2 ⟨rfl, b2⟩))
    go_meet
    exact ⟨_, rfl, rb_fin a b b1 b2⟩
  case rest =>
    obtain ⟨gb, rfl, r1, r2, r3, b0⟩ := hcut
    have c10 : wc.cell? ⟨wb1.heap.size, 0, none⟩ = some (.int .i64 (sane a).k) := r1.cell 0
    have c11 : wc.cell? ⟨wb1.heap.size, 1, none⟩ = some (.int .i64 (sane a).n) := r1.cell 1
    have c12 : wc.cell? ⟨wb1.heap.size, 2, none⟩ = some (.string (sane a).s) := r1.cell 2
    have l1 : wb1.heap.size < wc.heap.size := r1.lt
    have c20 : wc.cell? ⟨gb, 0, none⟩ = some (.int .i64 (sane b).k) := r2.cell 0
    have c21 : wc.cell? ⟨gb, 1, none⟩ = some (.int .i64 (sane b).n) := r2.cell 1
    have c22 : wc.cell? ⟨gb, 2, none⟩ = some (.string (sane b).s) := r2.cell 2
    have l2 : gb < wc.heap.size := r2.lt
    have c30 : wc.cell? ⟨w.heap.size + 1 + 1, 0, none⟩ = some (.int .i64 0) := r3.cell 0
    have c31 : wc.cell? ⟨w.heap.size + 1 + 1, 1, none⟩ = some (.int .i64 0) := r3.cell 1
    have c32 : wc.cell? ⟨w.heap.size + 1 + 1, 2, none⟩ = some (.string ⟨#[]⟩) := r3.cell 2
    have c33 : wc.cell? ⟨w.heap.size + 1 + 1, 3, none⟩ = some (.string ⟨#[]⟩) := r3.cell 3
    have c34 : wc.cell? ⟨w.heap.size + 1 + 1, 4, none⟩ = some (.int .i64 0) := r3.cell 4
    have f30 := r3.free 0
    have f31 := r3.free 1
    have f32 := r3.free 2
    have f33 := r3.free 3
    have f34 := r3.free 4
    have l3 : w.heap.size + 1 + 1 < wc.heap.size := r3.lt
    clear r1 r2 r3 b1 hcb1 hfb1 lt0 lt1 lt2 zb1
    go_wp2_with (first
      | (go_at_call 43; refine (rord_olt _ _).mono ?_; rintro e wq ⟨rfl, hwq⟩; obtain rfl := hwq.symm)
      | (go_at_call 32; refine (rBool_any _ _).mono ?_; rintro e wb5 ⟨rfl, b5⟩; have zb5 : wc.heap.size ≤ wb5.heap.size := (by have hzz := Below.size b5; first | omega | (simp at hzz; omega)); replace b5 := Below.mono (B' := wc.heap.size) b5 (by first | omega | (simp <;> omega)); obtain ⟨hcb5, hfb5⟩ := bcell b5)
      | (go_at_call 33; refine (rThrow_any _ _).mono ?_; rintro e wb4 ⟨rfl, b4⟩; have zb4 : wc.heap.size ≤ wb4.heap.size := (by have hzz := Below.size b4; first | omega | (simp at hzz; omega)); replace b4 := Below.mono (B' := wc.heap.size) b4 (by first | omega | (simp <;> omega)); obtain ⟨hcb4, hfb4⟩ := bcell b4)
      | (go_at_call 44; refine (less_any _ _ hs1 hs2 _).mono ?_; rintro e wb8 ⟨rfl, b8⟩; have zb8 : wc.heap.size ≤ wb8.heap.size := (by have hzz := Below.size b8; first | omega | (simp at hzz; omega)); replace b8 := Below.mono (B' := wc.heap.size) b8 (by first | omega | (simp <;> omega)); obtain ⟨hcb8, hfb8⟩ := bcell b8))
    all_goals refine bodyPost_ret (v := .agg #[.int .i64 (ordO flt cmpT a b).v.k, .int .i64 (ordO flt cmpT a b).v.n, .string (ordO flt cmpT a b).v.s, .string (ordO flt cmpT a b).t, .int .i64 (ordO flt cmpT a b).f]) ?_ rfl ⟨rfl, (by (repeat (first | (with_reducible exact Below.refl _ _) | (with_reducible assumption) | (with_reducible refine Below.setCell ?_ (by first | omega | (simp <;> omega)) _) | (with_reducible refine Below.alloc ?_ (by first | omega | (simp <;> omega)) _) | (with_reducible refine Below.drew ?_) | (with_reducible refine below_drewN ?_ _) | (with_reducible refine Below.trans ?_ (Below.mono (by with_reducible assumption) (by first | omega | (simp <;> omega)))))))⟩
    all_goals (rw [HP.out]; simp [results, Tryd.results17, go_sem, *, done, vb, flt])
set_option maxRecDepth 100000 in
set_option maxHeartbeats 2000000 in
theorem rBinary_lt_no (a b : V) (w : World) (hno : ¬ ((sane a).k = 3 ∧ (sane b).k = 3)) (hnt : ¬ ((sane a).k = 4 ∧ (sane b).k = 4)) :
    Calls Tryd.prog 17 #[.string ⟨#[60]⟩, .agg #[.int .i64 (a).k, .int .i64 (a).n, .string (a).s], .agg #[.int .i64 (b).k, .int .i64 (b).n, .string (b).s]] w fun e w' => e = .returned (.agg #[.int .i64 (ordO flt cmpT a b).v.k, .int .i64 (ordO flt cmpT a b).v.n, .string (ordO flt cmpT a b).v.s, .string (ordO flt cmpT a b).t, .int .i64 (ordO flt cmpT a b).f]) ∧ Below w.heap.size w w' := by
  have HP := Lib.hid (ordO_no (f := flt) (cmp := cmpT) hno hnt)
  have H1 := Lib.hid hno
  have H2 := Lib.hid hnt
  clear hno hnt
  go_enter Tryd.func17, Tryd.ntmps17
  go_upto_region 2 with (first | (go_at_call 31; refine (Sane_any _ _ _ _).mono ?_; rintro e wb1 ⟨rfl, b1⟩; have zb1 : w.heap.size + 3 ≤ wb1.heap.size := (by have hzz := Below.size b1; first | omega | (simp at hzz; omega)); replace b1 := Below.mono (B' := w.heap.size + 3) b1 (by first | omega | (simp <;> omega)); obtain ⟨hcb1, hfb1⟩ := bcell b1))
  have lt0 : w.heap.size < wb1.heap.size := by omega
  have lt1 : w.heap.size + 1 < wb1.heap.size := by omega
  have lt2 : w.heap.size + 1 + 1 < wb1.heap.size := by omega
  go_cut [8] (fun p wx => ∃ gb, p = .pointer (some ⟨gb, 0, none⟩) ∧ Row wx wb1.heap.size 23 (cellsOf (sane a)) ∧ Row wx gb 23 (cellsOf (sane b)) ∧ Row wx (w.heap.size + 1 + 1) 28 zeroO ∧ Below w.heap.size w wx)
  case first =>
    go_wp2_with (first | (go_at_call 31; refine (Sane_any _ _ _ _).mono ?_; rintro e wb2 ⟨rfl, b2⟩))
    go_meet
    exact ⟨_, rfl, rb_fin a b b1 b2⟩
  case rest =>
    obtain ⟨gb, rfl, r1, r2, r3, b0⟩ := hcut
    have c10 : wc.cell? ⟨wb1.heap.size, 0, none⟩ = some (.int .i64 (sane a).k) := r1.cell 0
    have c11 : wc.cell? ⟨wb1.heap.size, 1, none⟩ = some (.int .i64 (sane a).n) := r1.cell 1
    have c12 : wc.cell? ⟨wb1.heap.size, 2, none⟩ = some (.string (sane a).s) := r1.cell 2
    have l1 : wb1.heap.size < wc.heap.size := r1.lt
    have c20 : wc.cell? ⟨gb, 0, none⟩ = some (.int .i64 (sane b).k) := r2.cell 0
    have c21 : wc.cell? ⟨gb, 1, none⟩ = some (.int .i64 (sane b).n) := r2.cell 1
    have c22 : wc.cell? ⟨gb, 2, none⟩ = some (.string (sane b).s) := r2.cell 2
    have l2 : gb < wc.heap.size := r2.lt
    have c30 : wc.cell? ⟨w.heap.size + 1 + 1, 0, none⟩ = some (.int .i64 0) := r3.cell 0
    have c31 : wc.cell? ⟨w.heap.size + 1 + 1, 1, none⟩ = some (.int .i64 0) := r3.cell 1
    have c32 : wc.cell? ⟨w.heap.size + 1 + 1, 2, none⟩ = some (.string ⟨#[]⟩) := r3.cell 2
    have c33 : wc.cell? ⟨w.heap.size + 1 + 1, 3, none⟩ = some (.string ⟨#[]⟩) := r3.cell 3
    have c34 : wc.cell? ⟨w.heap.size + 1 + 1, 4, none⟩ = some (.int .i64 0) := r3.cell 4
    have f30 := r3.free 0
    have f31 := r3.free 1
    have f32 := r3.free 2
    have f33 := r3.free 3
    have f34 := r3.free 4
    have l3 : w.heap.size + 1 + 1 < wc.heap.size := r3.lt
    clear r1 r2 r3 b1 hcb1 hfb1 lt0 lt1 lt2 zb1
    go_wp2_with (first
      | (go_at_call 43; refine (rord_olt _ _).mono ?_; rintro e wq ⟨rfl, hwq⟩; obtain rfl := hwq.symm)
      | (go_at_call 32; refine (rBool_any _ _).mono ?_; rintro e wb5 ⟨rfl, b5⟩; have zb5 : wc.heap.size ≤ wb5.heap.size := (by have hzz := Below.size b5; first | omega | (simp at hzz; omega)); replace b5 := Below.mono (B' := wc.heap.size) b5 (by first | omega | (simp <;> omega)); obtain ⟨hcb5, hfb5⟩ := bcell b5)
      | (go_at_call 33; refine (rThrow_any _ _).mono ?_; rintro e wb4 ⟨rfl, b4⟩; have zb4 : wc.heap.size ≤ wb4.heap.size := (by have hzz := Below.size b4; first | omega | (simp at hzz; omega)); replace b4 := Below.mono (B' := wc.heap.size) b4 (by first | omega | (simp <;> omega)); obtain ⟨hcb4, hfb4⟩ := bcell b4))
    all_goals first
      | (exfalso; have h1 := H1.out; have h2 := H2.out; clear H1 H2; simp_all; done)
      | skip
    all_goals refine bodyPost_ret (v := .agg #[.int .i64 (ordO flt cmpT a b).v.k, .int .i64 (ordO flt cmpT a b).v.n, .string (ordO flt cmpT a b).v.s, .string (ordO flt cmpT a b).t, .int .i64 (ordO flt cmpT a b).f]) ?_ rfl ⟨rfl, (by (repeat (first | (with_reducible exact Below.refl _ _) | (with_reducible assumption) | (with_reducible refine Below.setCell ?_ (by first | omega | (simp <;> omega)) _) | (with_reducible refine Below.alloc ?_ (by first | omega | (simp <;> omega)) _) | (with_reducible refine Below.drew ?_) | (with_reducible refine below_drewN ?_ _) | (with_reducible refine Below.trans ?_ (Below.mono (by with_reducible assumption) (by first | omega | (simp <;> omega)))))))⟩
    all_goals (rw [HP.out]; simp [results, Tryd.results17, go_sem, *, thrown, eOrder, vu])
end
end Go.Proofs.YtkfpomkfgdkjdaaDoor
