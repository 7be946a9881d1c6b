/- The walks of chapter 14's Binary, of the program and of the reference, at one operator. -/
import Derived.Test.YtkfpomkfgdkjdaaDoorW5
import Derived.Test.YtkfpomkfgdkjdaaDoorW9
import Derived.Deep.RegionWith
namespace Go.Proofs.YtkfpomkfgdkjdaaDoor
set_option linter.unusedVariables false
set_option linter.unusedSimpArgs false
open Go.RowKit
section
attribute [local go_sem] nfn1 nfn2 nfn3 nfn4
set_option maxRecDepth 100000 in
set_option maxHeartbeats 4000000 in
theorem Binary_plus_text3 (a b : V) (w : World) (ht : Tab w) (h5 : (sane a).k ≠ 5) (h5' : (sane b).k ≠ 5) (h4 : (sane a).k = 4 ∨ (sane b).k = 4) (hs1 : (textOf a).size ≤ 1000000) (hs2 : (textOf b).size ≤ 1000000) (k1 : ((sane a).k == 3) = true) (k2 : ((sane a).k == 4) = false) (k3 : ((sane b).k == 3) = false) (k4 : ((sane b).k == 4) = true) :
    Calls Tryd.prog 16 #[.string ⟨#[43]⟩, .agg #[.int .i64 (a).k, .int .i64 (a).n, .string (a).s], .agg #[.int .i64 (b).k, .int .i64 (b).n, .string (b).s]] w fun e w' => e = .returned (.tuple #[.agg #[.int .i64 (plusO a b).v.k, .int .i64 (plusO a b).v.n, .string (plusO a b).v.s], .string (plusO a b).t, .int .i64 (plusO a b).f]) ∧ Below w.heap.size w w' := by
  have HP := Lib.hid (plusO_text h5 h5' h4)
  clear h4
  go_enter Tryd.func16, Tryd.ntmps16
  go_upto_region 1 with fail
  go_cut [15] (fun _ wx => Kept a b w wx)
  case first =>
    go_region_with (go_at_call 25; refine (plain_any _ _ _ _).mono ?_; rintro e wb3 ⟨rfl, b3⟩; have zb3 : w.heap.size + 3 ≤ wb3.heap.size := (by have hzz := Below.size b3; first | omega | (simp at hzz; omega)); replace b3 := Below.mono (B' := w.heap.size + 3) b3 (by first | omega | (simp <;> omega)); obtain ⟨hcb3, hfb3⟩ := bcell b3)
    all_goals (go_wp2_with fail; go_meet; exact kept_fin a b w (by assumption) (by assumption))
  case rest =>
    obtain ⟨r1, r2, r3, b0⟩ := hcut
    have c10 : wc.cell? ⟨w.heap.size, 0, none⟩ = some (.int .i64 (sane a).k) := r1.cell 0
    have c11 : wc.cell? ⟨w.heap.size, 1, none⟩ = some (.int .i64 (sane a).n) := r1.cell 1
    have c12 : wc.cell? ⟨w.heap.size, 2, none⟩ = some (.string (sane a).s) := r1.cell 2
    have c20 : wc.cell? ⟨w.heap.size + 1, 0, none⟩ = some (.int .i64 (sane b).k) := r2.cell 0
    have c21 : wc.cell? ⟨w.heap.size + 1, 1, none⟩ = some (.int .i64 (sane b).n) := r2.cell 1
    have c22 : wc.cell? ⟨w.heap.size + 1, 2, none⟩ = some (.string (sane b).s) := r2.cell 2
    have c30 : wc.cell? ⟨w.heap.size + 1 + 1, 0, none⟩ = some (.int .i64 0) := r3.cell 0
    have c31 : wc.cell? ⟨w.heap.size + 1 + 1, 1, none⟩ = some (.int .i64 0) := r3.cell 1
    have c32 : wc.cell? ⟨w.heap.size + 1 + 1, 2, none⟩ = some (.string ⟨#[]⟩) := r3.cell 2
    have f30 := r3.free 0
    have f31 := r3.free 1
    have f32 := r3.free 2
    have z0 : w.heap.size + 3 ≤ wc.heap.size := r3.lt
    clear r1 r2
    have e5 : ((sane a).k != 5) = true := by simpa using h5
    have e5' : ((sane b).k != 5) = true := by simpa using h5'
    have htc : Tab wc := ht.keep b0
    clear h5 h5'
    obtain ⟨wo, rfl⟩ : ∃ wo : World, wo = wc := ⟨_, rfl⟩
    go_wp2_with fail
    go_cut [11, 12] (fun x y wx => x = .string (textOf a) ∧ y = .string (textOf b) ∧ Row wx (w.heap.size + 1 + 1) 23 (cellsOf vu) ∧ Below w.heap.size w wx)
    case first =>
      go_region_with (go_at_call 20; refine (Text_any _ _ _ _ (htc.later (B := w.heap.size + 3) (by (repeat (first | (with_reducible exact Below.refl _ _) | (with_reducible assumption) | (with_reducible refine Below.setCell ?_ (by first | omega | (simp <;> omega)) _) | (with_reducible refine Below.alloc ?_ (by first | omega | (simp <;> omega)) _) | (with_reducible refine Below.drew ?_) | (with_reducible refine below_drewN ?_ _) | (with_reducible refine Below.trans ?_ (Below.mono (by with_reducible assumption) (by first | omega | (simp <;> omega))))))) (by omega))).mono ?_; rintro e wb3 ⟨rfl, b3⟩; have zb3 : w.heap.size + 3 ≤ wb3.heap.size := (by have hzz := Below.size b3; first | omega | (simp at hzz; omega)); replace b3 := Below.mono (B' := w.heap.size + 3) b3 (by first | omega | (simp <;> omega)); obtain ⟨hcb3, hfb3⟩ := bcell b3)
      all_goals (go_wp2_with fail; go_meet; exact ⟨by simp [textOf_sane], by simp [textOf_sane], plus_fin r3 b0 (by with_reducible assumption) (by with_reducible assumption)⟩)
    case rest =>
      obtain ⟨rfl, rfl, r4, b4⟩ := hcut
      have d30 : wc.cell? ⟨w.heap.size + 1 + 1, 0, none⟩ = some (.int .i64 0) := r4.cell 0
      have d31 : wc.cell? ⟨w.heap.size + 1 + 1, 1, none⟩ = some (.int .i64 0) := r4.cell 1
      have d32 : wc.cell? ⟨w.heap.size + 1 + 1, 2, none⟩ = some (.string ⟨#[]⟩) := r4.cell 2
      have g30 := r4.free 0
      have g31 := r4.free 1
      have g32 := r4.free 2
      have z1 : w.heap.size + 3 ≤ wc.heap.size := r4.lt
      clear c10 c11 c12 c20 c21 c22 c30 c31 c32 f30 f31 f32 r3 r4
      generalize textOf a = x at *
      generalize textOf b = y at *
      go_wp2_with (first | (go_at_call 26; refine (done_any _ _ _ _).mono ?_; rintro e wb7 ⟨rfl, b7⟩; have zb7 : w.heap.size + 3 ≤ wb7.heap.size := (by have hzz := Below.size b7; first | omega | (simp at hzz; omega)); replace b7 := Below.mono (B' := w.heap.size + 3) b7 (by first | omega | (simp <;> omega)); obtain ⟨hcb7, hfb7⟩ := bcell b7))
      all_goals refine bodyPost_ret (v := .tuple #[.agg #[.int .i64 (plusO a b).v.k, .int .i64 (plusO a b).v.n, .string (plusO a b).v.s], .string (plusO a b).t, .int .i64 (plusO a b).f]) ?_ rfl ⟨rfl, (by (repeat (first | (with_reducible exact Below.refl _ _) | (with_reducible assumption) | (with_reducible refine Below.setCell ?_ (by first | omega | (simp <;> omega)) _) | (with_reducible refine Below.alloc ?_ (by first | omega | (simp <;> omega)) _) | (with_reducible refine Below.drew ?_) | (with_reducible refine below_drewN ?_ _) | (with_reducible refine Below.trans ?_ (Below.mono (by with_reducible assumption) (by first | omega | (simp <;> omega)))))))⟩
      all_goals (rw [HP.out])
      all_goals first
        | (rw [if_pos (by omega)]; simp [results, Tryd.results16, go_sem, *, vu]; done)
        | (rw [if_neg (by omega)]; simp [results, Tryd.results16, go_sem, *, done, vs])

end
section
attribute [local go_sem] valEq
set_option maxRecDepth 100000 in
set_option maxHeartbeats 2000000 in
theorem rBinary_plus_text3 (a b : V) (w : World) (h5 : (sane a).k ≠ 5) (h5' : (sane b).k ≠ 5) (h4 : (sane a).k = 4 ∨ (sane b).k = 4) (hs1 : (textOf a).size ≤ 1000000) (hs2 : (textOf b).size ≤ 1000000) (k1 : ((sane a).k == 3) = true) (k2 : ((sane a).k == 4) = false) (k3 : ((sane b).k == 3) = false) (k4 : ((sane b).k == 4) = true) :
    Calls Tryd.prog 17 #[.string ⟨#[43]⟩, .agg #[.int .i64 (a).k, .int .i64 (a).n, .string (a).s], .agg #[.int .i64 (b).k, .int .i64 (b).n, .string (b).s]] w fun e w' => e = .returned (.agg #[.int .i64 (plusO a b).v.k, .int .i64 (plusO a b).v.n, .string (plusO a b).v.s, .string (plusO a b).t, .int .i64 (plusO a b).f]) ∧ Below w.heap.size w w' := by
  have HP := Lib.hid (plusO_text h5 h5' h4)
  clear h4
  go_enter Tryd.func17, Tryd.ntmps17
  go_upto_region 2 with (first | (go_at_call 31; refine (Sane_any _ _ _ _).mono ?_; rintro e wb1 ⟨rfl, b1⟩; have zb1 : w.heap.size + 3 ≤ wb1.heap.size := (by have hzz := Below.size b1; first | omega | (simp at hzz; omega)); replace b1 := Below.mono (B' := w.heap.size + 3) b1 (by first | omega | (simp <;> omega)); obtain ⟨hcb1, hfb1⟩ := bcell b1))
  have lt0 : w.heap.size < wb1.heap.size := by omega
  have lt1 : w.heap.size + 1 < wb1.heap.size := by omega
  have lt2 : w.heap.size + 1 + 1 < wb1.heap.size := by omega
  go_cut [8] (fun p wx => ∃ gb, p = .pointer (some ⟨gb, 0, none⟩) ∧ Row wx wb1.heap.size 23 (cellsOf (sane a)) ∧ Row wx gb 23 (cellsOf (sane b)) ∧ Row wx (w.heap.size + 1 + 1) 28 zeroO ∧ Below w.heap.size w wx)
  case first =>
    go_wp2_with (first | (go_at_call 31; refine (Sane_any _ _ _ _).mono ?_; rintro e wb2 ⟨rfl, b2⟩))
    go_meet
    exact ⟨_, rfl, rb_fin a b b1 b2⟩
  case rest =>
    obtain ⟨gb, rfl, r1, r2, r3, b0⟩ := hcut
    have c10 : wc.cell? ⟨wb1.heap.size, 0, none⟩ = some (.int .i64 (sane a).k) := r1.cell 0
    have c11 : wc.cell? ⟨wb1.heap.size, 1, none⟩ = some (.int .i64 (sane a).n) := r1.cell 1
    have c12 : wc.cell? ⟨wb1.heap.size, 2, none⟩ = some (.string (sane a).s) := r1.cell 2
    have l1 : wb1.heap.size < wc.heap.size := r1.lt
    have c20 : wc.cell? ⟨gb, 0, none⟩ = some (.int .i64 (sane b).k) := r2.cell 0
    have c21 : wc.cell? ⟨gb, 1, none⟩ = some (.int .i64 (sane b).n) := r2.cell 1
    have c22 : wc.cell? ⟨gb, 2, none⟩ = some (.string (sane b).s) := r2.cell 2
    have l2 : gb < wc.heap.size := r2.lt
    have c30 : wc.cell? ⟨w.heap.size + 1 + 1, 0, none⟩ = some (.int .i64 0) := r3.cell 0
    have c31 : wc.cell? ⟨w.heap.size + 1 + 1, 1, none⟩ = some (.int .i64 0) := r3.cell 1
    have c32 : wc.cell? ⟨w.heap.size + 1 + 1, 2, none⟩ = some (.string ⟨#[]⟩) := r3.cell 2
    have c33 : wc.cell? ⟨w.heap.size + 1 + 1, 3, none⟩ = some (.string ⟨#[]⟩) := r3.cell 3
    have c34 : wc.cell? ⟨w.heap.size + 1 + 1, 4, none⟩ = some (.int .i64 0) := r3.cell 4
    have f30 := r3.free 0
    have f31 := r3.free 1
    have f32 := r3.free 2
    have f33 := r3.free 3
    have f34 := r3.free 4
    have l3 : w.heap.size + 1 + 1 < wc.heap.size := r3.lt
    clear r1 r2 b1 hcb1 hfb1 lt0 lt1 lt2 zb1
    have e5 : ((sane a).k != 5) = true := by simpa using h5
    have e5' : ((sane b).k != 5) = true := by simpa using h5'
    clear h5 h5'
    obtain ⟨wo, rfl⟩ : ∃ wo : World, wo = wc := ⟨_, rfl⟩
    go_wp2_with fail
    go_cut [11] (fun x wx => x = .string (textOf a ++ textOf b) ∧ Row wx (w.heap.size + 1 + 1) 28 zeroO ∧ Below w.heap.size w wx)
    case first =>
      go_region_with (go_at_call 21; refine (rText_sane _ _).mono ?_; rintro e wb3 ⟨rfl, b3⟩; have zb3 : wo.heap.size ≤ wb3.heap.size := (by have hzz := Below.size b3; first | omega | (simp at hzz; omega)); replace b3 := Below.mono (B' := wo.heap.size) b3 (by first | omega | (simp <;> omega)); obtain ⟨hcb3, hfb3⟩ := bcell b3)
      all_goals (go_wp2_with fail; go_meet; exact ⟨by simp, plusr_fin r3 b0 (by with_reducible assumption) (by with_reducible assumption)⟩)
    case rest =>
      obtain ⟨rfl, r4, b4⟩ := hcut
      clear c10 c11 c12 c20 c21 c22 c30 c31 c32 c33 c34 f30 f31 f32 f33 f34 l1 l2 l3 r3
      have c30 : wc.cell? ⟨w.heap.size + 1 + 1, 0, none⟩ = some (.int .i64 0) := r4.cell 0
      have c31 : wc.cell? ⟨w.heap.size + 1 + 1, 1, none⟩ = some (.int .i64 0) := r4.cell 1
      have c32 : wc.cell? ⟨w.heap.size + 1 + 1, 2, none⟩ = some (.string ⟨#[]⟩) := r4.cell 2
      have c33 : wc.cell? ⟨w.heap.size + 1 + 1, 3, none⟩ = some (.string ⟨#[]⟩) := r4.cell 3
      have c34 : wc.cell? ⟨w.heap.size + 1 + 1, 4, none⟩ = some (.int .i64 0) := r4.cell 4
      have f30 := r4.free 0
      have f31 := r4.free 1
      have f32 := r4.free 2
      have f33 := r4.free 3
      have f34 := r4.free 4
      have l3 : w.heap.size + 1 + 1 < wc.heap.size := r4.lt
      clear r4
      generalize textOf a = x at *
      generalize textOf b = y at *
      go_wp2_with (first | (go_at_call 42; refine (rString_any _ _).mono ?_; rintro e wb7 ⟨rfl, b7⟩; have zb7 : wc.heap.size ≤ wb7.heap.size := (by have hzz := Below.size b7; first | omega | (simp at hzz; omega)); replace b7 := Below.mono (B' := wc.heap.size) b7 (by first | omega | (simp <;> omega)); obtain ⟨hcb7, hfb7⟩ := bcell b7))
      all_goals refine bodyPost_ret (v := .agg #[.int .i64 (plusO a b).v.k, .int .i64 (plusO a b).v.n, .string (plusO a b).v.s, .string (plusO a b).t, .int .i64 (plusO a b).f]) ?_ rfl ⟨rfl, (by (repeat (first | (with_reducible exact Below.refl _ _) | (with_reducible assumption) | (with_reducible refine Below.setCell ?_ (by first | omega | (simp <;> omega)) _) | (with_reducible refine Below.alloc ?_ (by first | omega | (simp <;> omega)) _) | (with_reducible refine Below.drew ?_) | (with_reducible refine below_drewN ?_ _) | (with_reducible refine Below.trans ?_ (Below.mono (by with_reducible assumption) (by first | omega | (simp <;> omega)))))))⟩
      all_goals (rw [HP.out])
      all_goals first
        | (rw [if_pos (by omega)]; simp [results, Tryd.results17, go_sem, *, vu]; done)
        | (rw [if_neg (by omega)]; simp [results, Tryd.results17, go_sem, *, done, vs])
end
section
attribute [local go_sem] nfn1 nfn2 nfn3 nfn4
set_option maxRecDepth 100000 in
set_option maxHeartbeats 4000000 in
theorem Binary_plus_text4 (a b : V) (w : World) (ht : Tab w) (h5 : (sane a).k ≠ 5) (h5' : (sane b).k ≠ 5) (h4 : (sane a).k = 4 ∨ (sane b).k = 4) (hs1 : (textOf a).size ≤ 1000000) (hs2 : (textOf b).size ≤ 1000000) (k1 : ((sane a).k == 3) = false) (k2 : ((sane a).k == 4) = false) (k3 : ((sane b).k == 3) = false) (k4 : ((sane b).k == 4) = true) :
    Calls Tryd.prog 16 #[.string ⟨#[43]⟩, .agg #[.int .i64 (a).k, .int .i64 (a).n, .string (a).s], .agg #[.int .i64 (b).k, .int .i64 (b).n, .string (b).s]] w fun e w' => e = .returned (.tuple #[.agg #[.int .i64 (plusO a b).v.k, .int .i64 (plusO a b).v.n, .string (plusO a b).v.s], .string (plusO a b).t, .int .i64 (plusO a b).f]) ∧ Below w.heap.size w w' := by
  have HP := Lib.hid (plusO_text h5 h5' h4)
  clear h4
  go_enter Tryd.func16, Tryd.ntmps16
  go_upto_region 1 with fail
  go_cut [15] (fun _ wx => Kept a b w wx)
  case first =>
    go_region_with (go_at_call 25; refine (plain_any _ _ _ _).mono ?_; rintro e wb3 ⟨rfl, b3⟩; have zb3 : w.heap.size + 3 ≤ wb3.heap.size := (by have hzz := Below.size b3; first | omega | (simp at hzz; omega)); replace b3 := Below.mono (B' := w.heap.size + 3) b3 (by first | omega | (simp <;> omega)); obtain ⟨hcb3, hfb3⟩ := bcell b3)
    all_goals (go_wp2_with fail; go_meet; exact kept_fin a b w (by assumption) (by assumption))
  case rest =>
    obtain ⟨r1, r2, r3, b0⟩ := hcut
    have c10 : wc.cell? ⟨w.heap.size, 0, none⟩ = some (.int .i64 (sane a).k) := r1.cell 0
    have c11 : wc.cell? ⟨w.heap.size, 1, none⟩ = some (.int .i64 (sane a).n) := r1.cell 1
    have c12 : wc.cell? ⟨w.heap.size, 2, none⟩ = some (.string (sane a).s) := r1.cell 2
    have c20 : wc.cell? ⟨w.heap.size + 1, 0, none⟩ = some (.int .i64 (sane b).k) := r2.cell 0
    have c21 : wc.cell? ⟨w.heap.size + 1, 1, none⟩ = some (.int .i64 (sane b).n) := r2.cell 1
    have c22 : wc.cell? ⟨w.heap.size + 1, 2, none⟩ = some (.string (sane b).s) := r2.cell 2
    have c30 : wc.cell? ⟨w.heap.size + 1 + 1, 0, none⟩ = some (.int .i64 0) := r3.cell 0
    have c31 : wc.cell? ⟨w.heap.size + 1 + 1, 1, none⟩ = some (.int .i64 0) := r3.cell 1
    have c32 : wc.cell? ⟨w.heap.size + 1 + 1, 2, none⟩ = some (.string ⟨#[]⟩) := r3.cell 2
    have f30 := r3.free 0
    have f31 := r3.free 1
    have f32 := r3.free 2
    have z0 : w.heap.size + 3 ≤ wc.heap.size := r3.lt
    clear r1 r2
    have e5 : ((sane a).k != 5) = true := by simpa using h5
    have e5' : ((sane b).k != 5) = true := by simpa using h5'
    have htc : Tab wc := ht.keep b0
    clear h5 h5'
    obtain ⟨wo, rfl⟩ : ∃ wo : World, wo = wc := ⟨_, rfl⟩
    go_wp2_with fail
    go_cut [11, 12] (fun x y wx => x = .string (textOf a) ∧ y = .string (textOf b) ∧ Row wx (w.heap.size + 1 + 1) 23 (cellsOf vu) ∧ Below w.heap.size w wx)
    case first =>
      go_region_with (go_at_call 20; refine (Text_any _ _ _ _ (htc.later (B := w.heap.size + 3) (by (repeat (first | (with_reducible exact Below.refl _ _) | (with_reducible assumption) | (with_reducible refine Below.setCell ?_ (by first | omega | (simp <;> omega)) _) | (with_reducible refine Below.alloc ?_ (by first | omega | (simp <;> omega)) _) | (with_reducible refine Below.drew ?_) | (with_reducible refine below_drewN ?_ _) | (with_reducible refine Below.trans ?_ (Below.mono (by with_reducible assumption) (by first | omega | (simp <;> omega))))))) (by omega))).mono ?_; rintro e wb3 ⟨rfl, b3⟩; have zb3 : w.heap.size + 3 ≤ wb3.heap.size := (by have hzz := Below.size b3; first | omega | (simp at hzz; omega)); replace b3 := Below.mono (B' := w.heap.size + 3) b3 (by first | omega | (simp <;> omega)); obtain ⟨hcb3, hfb3⟩ := bcell b3)
      all_goals (go_wp2_with fail; go_meet; exact ⟨by simp [textOf_sane], by simp [textOf_sane], plus_fin r3 b0 (by with_reducible assumption) (by with_reducible assumption)⟩)
    case rest =>
      obtain ⟨rfl, rfl, r4, b4⟩ := hcut
      have d30 : wc.cell? ⟨w.heap.size + 1 + 1, 0, none⟩ = some (.int .i64 0) := r4.cell 0
      have d31 : wc.cell? ⟨w.heap.size + 1 + 1, 1, none⟩ = some (.int .i64 0) := r4.cell 1
      have d32 : wc.cell? ⟨w.heap.size + 1 + 1, 2, none⟩ = some (.string ⟨#[]⟩) := r4.cell 2
      have g30 := r4.free 0
      have g31 := r4.free 1
      have g32 := r4.free 2
      have z1 : w.heap.size + 3 ≤ wc.heap.size := r4.lt
      clear c10 c11 c12 c20 c21 c22 c30 c31 c32 f30 f31 f32 r3 r4
      generalize textOf a = x at *
      generalize textOf b = y at *
      go_wp2_with (first | (go_at_call 26; refine (done_any _ _ _ _).mono ?_; rintro e wb7 ⟨rfl, b7⟩; have zb7 : w.heap.size + 3 ≤ wb7.heap.size := (by have hzz := Below.size b7; first | omega | (simp at hzz; omega)); replace b7 := Below.mono (B' := w.heap.size + 3) b7 (by first | omega | (simp <;> omega)); obtain ⟨hcb7, hfb7⟩ := bcell b7))
      all_goals refine bodyPost_ret (v := .tuple #[.agg #[.int .i64 (plusO a b).v.k, .int .i64 (plusO a b).v.n, .string (plusO a b).v.s], .string (plusO a b).t, .int .i64 (plusO a b).f]) ?_ rfl ⟨rfl, (by (repeat (first | (with_reducible exact Below.refl _ _) | (with_reducible assumption) | (with_reducible refine Below.setCell ?_ (by first | omega | (simp <;> omega)) _) | (with_reducible refine Below.alloc ?_ (by first | omega | (simp <;> omega)) _) | (with_reducible refine Below.drew ?_) | (with_reducible refine below_drewN ?_ _) | (with_reducible refine Below.trans ?_ (Below.mono (by with_reducible assumption) (by first | omega | (simp <;> omega)))))))⟩
      all_goals (rw [HP.out])
      all_goals first
        | (rw [if_pos (by omega)]; simp [results, Tryd.results16, go_sem, *, vu]; done)
        | (rw [if_neg (by omega)]; simp [results, Tryd.results16, go_sem, *, done, vs])

end
section
attribute [local go_sem] valEq
set_option maxRecDepth 100000 in
set_option maxHeartbeats 2000000 in
theorem rBinary_plus_text4 (a b : V) (w : World) (h5 : (sane a).k ≠ 5) (h5' : (sane b).k ≠ 5) (h4 : (sane a).k = 4 ∨ (sane b).k = 4) (hs1 : (textOf a).size ≤ 1000000) (hs2 : (textOf b).size ≤ 1000000) (k1 : ((sane a).k == 3) = false) (k2 : ((sane a).k == 4) = false) (k3 : ((sane b).k == 3) = false) (k4 : ((sane b).k == 4) = true) :
    Calls Tryd.prog 17 #[.string ⟨#[43]⟩, .agg #[.int .i64 (a).k, .int .i64 (a).n, .string (a).s], .agg #[.int .i64 (b).k, .int .i64 (b).n, .string (b).s]] w fun e w' => e = .returned (.agg #[.int .i64 (plusO a b).v.k, .int .i64 (plusO a b).v.n, .string (plusO a b).v.s, .string (plusO a b).t, .int .i64 (plusO a b).f]) ∧ Below w.heap.size w w' := by
  have HP := Lib.hid (plusO_text h5 h5' h4)
  clear h4
  go_enter Tryd.func17, Tryd.ntmps17
  go_upto_region 2 with (first | (go_at_call 31; refine (Sane_any _ _ _ _).mono ?_; rintro e wb1 ⟨rfl, b1⟩; have zb1 : w.heap.size + 3 ≤ wb1.heap.size := (by have hzz := Below.size b1; first | omega | (simp at hzz; omega)); replace b1 := Below.mono (B' := w.heap.size + 3) b1 (by first | omega | (simp <;> omega)); obtain ⟨hcb1, hfb1⟩ := bcell b1))
  have lt0 : w.heap.size < wb1.heap.size := by omega
  have lt1 : w.heap.size + 1 < wb1.heap.size := by omega
  have lt2 : w.heap.size + 1 + 1 < wb1.heap.size := by omega
  go_cut [8] (fun p wx => ∃ gb, p = .pointer (some ⟨gb, 0, none⟩) ∧ Row wx wb1.heap.size 23 (cellsOf (sane a)) ∧ Row wx gb 23 (cellsOf (sane b)) ∧ Row wx (w.heap.size + 1 + 1) 28 zeroO ∧ Below w.heap.size w wx)
  case first =>
    go_wp2_with (first | (go_at_call 31; refine (Sane_any _ _ _ _).mono ?_; rintro e wb2 ⟨rfl, b2⟩))
    go_meet
    exact ⟨_, rfl, rb_fin a b b1 b2⟩
  case rest =>
    obtain ⟨gb, rfl, r1, r2, r3, b0⟩ := hcut
    have c10 : wc.cell? ⟨wb1.heap.size, 0, none⟩ = some (.int .i64 (sane a).k) := r1.cell 0
    have c11 : wc.cell? ⟨wb1.heap.size, 1, none⟩ = some (.int .i64 (sane a).n) := r1.cell 1
    have c12 : wc.cell? ⟨wb1.heap.size, 2, none⟩ = some (.string (sane a).s) := r1.cell 2
    have l1 : wb1.heap.size < wc.heap.size := r1.lt
    have c20 : wc.cell? ⟨gb, 0, none⟩ = some (.int .i64 (sane b).k) := r2.cell 0
    have c21 : wc.cell? ⟨gb, 1, none⟩ = some (.int .i64 (sane b).n) := r2.cell 1
    have c22 : wc.cell? ⟨gb, 2, none⟩ = some (.string (sane b).s) := r2.cell 2
    have l2 : gb < wc.heap.size := r2.lt
    have c30 : wc.cell? ⟨w.heap.size + 1 + 1, 0, none⟩ = some (.int .i64 0) := r3.cell 0
    have c31 : wc.cell? ⟨w.heap.size + 1 + 1, 1, none⟩ = some (.int .i64 0) := r3.cell 1
    have c32 : wc.cell? ⟨w.heap.size + 1 + 1, 2, none⟩ = some (.string ⟨#[]⟩) := r3.cell 2
    have c33 : wc.cell? ⟨w.heap.size + 1 + 1, 3, none⟩ = some (.string ⟨#[]⟩) := r3.cell 3
    have c34 : wc.cell? ⟨w.heap.size + 1 + 1, 4, none⟩ = some (.int .i64 0) := r3.cell 4
    have f30 := r3.free 0
    have f31 := r3.free 1
    have f32 := r3.free 2
    have f33 := r3.free 3
    have f34 := r3.free 4
    have l3 : w.heap.size + 1 + 1 < wc.heap.size := r3.lt
    clear r1 r2 b1 hcb1 hfb1 lt0 lt1 lt2 zb1
    have e5 : ((sane a).k != 5) = true := by simpa using h5
    have e5' : ((sane b).k != 5) = true := by simpa using h5'
    clear h5 h5'
    obtain ⟨wo, rfl⟩ : ∃ wo : World, wo = wc := ⟨_, rfl⟩
    go_wp2_with fail
    go_cut [11] (fun x wx => x = .string (textOf a ++ textOf b) ∧ Row wx (w.heap.size + 1 + 1) 28 zeroO ∧ Below w.heap.size w wx)
    case first =>
      go_region_with (go_at_call 21; refine (rText_sane _ _).mono ?_; rintro e wb3 ⟨rfl, b3⟩; have zb3 : wo.heap.size ≤ wb3.heap.size := (by have hzz := Below.size b3; first | omega | (simp at hzz; omega)); replace b3 := Below.mono (B' := wo.heap.size) b3 (by first | omega | (simp <;> omega)); obtain ⟨hcb3, hfb3⟩ := bcell b3)
      all_goals (go_wp2_with fail; go_meet; exact ⟨by simp, plusr_fin r3 b0 (by with_reducible assumption) (by with_reducible assumption)⟩)
    case rest =>
      obtain ⟨rfl, r4, b4⟩ := hcut
      clear c10 c11 c12 c20 c21 c22 c30 c31 c32 c33 c34 f30 f31 f32 f33 f34 l1 l2 l3 r3
      have c30 : wc.cell? ⟨w.heap.size + 1 + 1, 0, none⟩ = some (.int .i64 0) := r4.cell 0
      have c31 : wc.cell? ⟨w.heap.size + 1 + 1, 1, none⟩ = some (.int .i64 0) := r4.cell 1
      have c32 : wc.cell? ⟨w.heap.size + 1 + 1, 2, none⟩ = some (.string ⟨#[]⟩) := r4.cell 2
      have c33 : wc.cell? ⟨w.heap.size + 1 + 1, 3, none⟩ = some (.string ⟨#[]⟩) := r4.cell 3
      have c34 : wc.cell? ⟨w.heap.size + 1 + 1, 4, none⟩ = some (.int .i64 0) := r4.cell 4
      have f30 := r4.free 0
      have f31 := r4.free 1
      have f32 := r4.free 2
      have f33 := r4.free 3
      have f34 := r4.free 4
      have l3 : w.heap.size + 1 + 1 < wc.heap.size := r4.lt
      clear r4
      generalize textOf a = x at *
      generalize textOf b = y at *
      go_wp2_with (first | (go_at_call 42; refine (rString_any _ _).mono ?_; rintro e wb7 ⟨rfl, b7⟩; have zb7 : wc.heap.size ≤ wb7.heap.size := (by have hzz := Below.size b7; first | omega | (simp at hzz; omega)); replace b7 := Below.mono (B' := wc.heap.size) b7 (by first | omega | (simp <;> omega)); obtain ⟨hcb7, hfb7⟩ := bcell b7))
      all_goals refine bodyPost_ret (v := .agg #[.int .i64 (plusO a b).v.k, .int .i64 (plusO a b).v.n, .string (plusO a b).v.s, .string (plusO a b).t, .int .i64 (plusO a b).f]) ?_ rfl ⟨rfl, (by (repeat (first | (with_reducible exact Below.refl _ _) | (with_reducible assumption) | (with_reducible refine Below.setCell ?_ (by first | omega | (simp <;> omega)) _) | (with_reducible refine Below.alloc ?_ (by first | omega | (simp <;> omega)) _) | (with_reducible refine Below.drew ?_) | (with_reducible refine below_drewN ?_ _) | (with_reducible refine Below.trans ?_ (Below.mono (by with_reducible assumption) (by first | omega | (simp <;> omega)))))))⟩
      all_goals (rw [HP.out])
      all_goals first
        | (rw [if_pos (by omega)]; simp [results, Tryd.results17, go_sem, *, vu]; done)
        | (rw [if_neg (by omega)]; simp [results, Tryd.results17, go_sem, *, done, vs])
end
end Go.Proofs.YtkfpomkfgdkjdaaDoor
