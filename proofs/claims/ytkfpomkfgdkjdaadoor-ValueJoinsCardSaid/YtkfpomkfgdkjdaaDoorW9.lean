/- The walks of chapter 14's reference: Unary; the beginning of Binary. -/
import Derived.Test.YtkfpomkfgdkjdaaDoorW8
import Derived.Test.YtkfpomkfgdkjdaaDoorW5
namespace Go.Proofs.YtkfpomkfgdkjdaaDoor
set_option linter.unusedVariables false
set_option linter.unusedSimpArgs false
open Go.RowKit

set_option maxHeartbeats 1000000 in
theorem rUnary_any (op : ByteArray) (k n : Int) (s : ByteArray) (w : World) :
    Calls Tryd.prog 15 #[.string op, .agg #[.int .i64 k, .int .i64 n, .string s]] w fun e w' => e = .returned (.agg #[.int .i64 (unO op ⟨k, n, s⟩).v.k, .int .i64 (unO op ⟨k, n, s⟩).v.n, .string (unO op ⟨k, n, s⟩).v.s, .string (unO op ⟨k, n, s⟩).t, .int .i64 (unO op ⟨k, n, s⟩).f]) ∧ Below w.heap.size w w' := by
  go_enter Tryd.func15, Tryd.ntmps15
  go_upto_region 1 with fail
  go_cut [5] (fun p wx => ∃ g, p = .pointer (some ⟨g, 0, none⟩) ∧ Row wx g 23 (cellsOf (sane ⟨k, n, s⟩)) ∧ Row wx (w.heap.size + 1) 28 zeroO ∧ Below w.heap.size w wx)
  case first =>
    go_wp2_with (first | (go_at_call 31; refine (Sane_any _ _ _ _).mono ?_; rintro e wb1 ⟨rfl, b1⟩; have zb1 : w.heap.size + 2 ≤ wb1.heap.size := (by have hzz := Below.size b1; first | omega | (simp at hzz; omega)); replace b1 := Below.mono (B' := w.heap.size + 2) b1 (by first | omega | (simp <;> omega)); obtain ⟨hcb1, hfb1⟩ := bcell b1))
    go_meet
    have q := Row.new (w.alloc (.cells (cellsOf ⟨k, n, s⟩) 23)) 28 zeroO
    rw [World.size_alloc] at q
    exact ⟨_, rfl, Row.new _ _ _, (q.below b1 (by omega)).alloc _, (by (repeat (first | (with_reducible exact Below.refl _ _) | (with_reducible assumption) | (with_reducible refine Below.setCell ?_ (by first | omega | (simp <;> omega)) _) | (with_reducible refine Below.alloc ?_ (by first | omega | (simp <;> omega)) _) | (with_reducible refine Below.drew ?_) | (with_reducible refine below_drewN ?_ _) | (with_reducible refine Below.trans ?_ (Below.mono (by with_reducible assumption) (by first | omega | (simp <;> omega)))))))⟩
  case rest =>
    obtain ⟨g, rfl, r1, r2, b0⟩ := hcut
    have c10 : wc.cell? ⟨g, 0, none⟩ = some (.int .i64 (sane ⟨k, n, s⟩).k) := r1.cell 0
    have c11 : wc.cell? ⟨g, 1, none⟩ = some (.int .i64 (sane ⟨k, n, s⟩).n) := r1.cell 1
    have c12 : wc.cell? ⟨g, 2, none⟩ = some (.string (sane ⟨k, n, s⟩).s) := r1.cell 2
    have l1 : g < wc.heap.size := r1.lt
    have c20 : wc.cell? ⟨w.heap.size + 1, 0, none⟩ = some (.int .i64 0) := r2.cell 0
    have c21 : wc.cell? ⟨w.heap.size + 1, 1, none⟩ = some (.int .i64 0) := r2.cell 1
    have c22 : wc.cell? ⟨w.heap.size + 1, 2, none⟩ = some (.string ⟨#[]⟩) := r2.cell 2
    have c23 : wc.cell? ⟨w.heap.size + 1, 3, none⟩ = some (.string ⟨#[]⟩) := r2.cell 3
    have c24 : wc.cell? ⟨w.heap.size + 1, 4, none⟩ = some (.int .i64 0) := r2.cell 4
    have f20 := r2.free 0
    have f21 := r2.free 1
    have f22 := r2.free 2
    have f23 := r2.free 3
    have f24 := r2.free 4
    have l2 : w.heap.size + 1 < wc.heap.size := r2.lt
    clear r1 r2
    go_wp2_with (first
      | (go_at_call 19; refine (rTruth_any _ _ _ _).mono ?_; rintro e wb2 ⟨rfl, b2⟩; have zb2 : wc.heap.size ≤ wb2.heap.size := (by have hzz := Below.size b2; first | omega | (simp at hzz; omega)); replace b2 := Below.mono (B' := wc.heap.size) b2 (by first | omega | (simp <;> omega)); obtain ⟨hcb2, hfb2⟩ := bcell b2)
      | (go_at_call 32; refine (rBool_any _ _).mono ?_; rintro e wb3 ⟨rfl, b3⟩; have zb3 : wc.heap.size ≤ wb3.heap.size := (by have hzz := Below.size b3; first | omega | (simp at hzz; omega)); replace b3 := Below.mono (B' := wc.heap.size) b3 (by first | omega | (simp <;> omega)); obtain ⟨hcb3, hfb3⟩ := bcell b3)
      | (go_at_call 33; refine (rThrow_any _ _).mono ?_; rintro e wb4 ⟨rfl, b4⟩; have zb4 : wc.heap.size ≤ wb4.heap.size := (by have hzz := Below.size b4; first | omega | (simp at hzz; omega)); replace b4 := Below.mono (B' := wc.heap.size) b4 (by first | omega | (simp <;> omega)); obtain ⟨hcb4, hfb4⟩ := bcell b4)
      | (go_at_call 34; refine (rNumber_any _ _).mono ?_; rintro e wb5 ⟨rfl, b5⟩; have zb5 : wc.heap.size ≤ wb5.heap.size := (by have hzz := Below.size b5; first | omega | (simp at hzz; omega)); replace b5 := Below.mono (B' := wc.heap.size) b5 (by first | omega | (simp <;> omega)); obtain ⟨hcb5, hfb5⟩ := bcell b5)
      | (go_at_call 36; refine (rlow_any _ _).mono ?_; rintro e wq ⟨rfl, hwq⟩; obtain rfl := hwq.symm)
      | (go_at_call 35; refine (rsigned_any _ _).mono ?_; rintro e wb6 ⟨rfl, b6⟩; have zb6 : wc.heap.size ≤ wb6.heap.size := (by have hzz := Below.size b6; first | omega | (simp at hzz; omega)); replace b6 := Below.mono (B' := wc.heap.size) b6 (by first | omega | (simp <;> omega)); obtain ⟨hcb6, hfb6⟩ := bcell b6))
    all_goals refine bodyPost_ret (v := .agg #[.int .i64 (unO op ⟨k, n, s⟩).v.k, .int .i64 (unO op ⟨k, n, s⟩).v.n, .string (unO op ⟨k, n, s⟩).v.s, .string (unO op ⟨k, n, s⟩).t, .int .i64 (unO op ⟨k, n, s⟩).f]) ?_ rfl ⟨rfl, (by (repeat (first | (with_reducible exact Below.refl _ _) | (with_reducible assumption) | (with_reducible refine Below.setCell ?_ (by first | omega | (simp <;> omega)) _) | (with_reducible refine Below.alloc ?_ (by first | omega | (simp <;> omega)) _) | (with_reducible refine Below.drew ?_) | (with_reducible refine below_drewN ?_ _) | (with_reducible refine Below.trans ?_ (Below.mono (by with_reducible assumption) (by first | omega | (simp <;> omega)))))))⟩
    all_goals simp [results, Tryd.results15, go_sem, *]
    all_goals simp_all [unO, done, vn, vb, vu, thrown, eNum, truthy_sane, neg_sane, not_low, not_low2]
theorem rText_sane (a : V) (w : World) : Calls Tryd.prog 21 #[.agg #[.int .i64 (sane a).k, .int .i64 (sane a).n, .string (sane a).s]] w fun e w' => e = .returned (.string (textOf a)) ∧ Below w.heap.size w w' :=
  (rText_any _ _ _ w).mono fun e w' ⟨he, hb⟩ => ⟨by rw [he, textOf_sane], hb⟩
theorem plusr_fin {w w1 w2 wo : World} (r3 : Row wo (w.heap.size + 1 + 1) 28 zeroO) (b0 : Below w.heap.size w wo) (h2 : Below wo.heap.size w1 w2) (h1 : Below wo.heap.size wo.drew w1) :
    Row w2 (w.heap.size + 1 + 1) 28 zeroO ∧ Below w.heap.size w w2 :=
  ⟨(r3.drew.below h1 r3.lt).below h2 r3.lt, (b0.drew.trans (h1.mono b0.size)).trans (h2.mono b0.size)⟩
theorem rb_fin (a b : V) {w wb1 wb2 : World} (h1 : Below (w.heap.size + 3) (((w.alloc (.cells (cellsOf a) 23)).alloc (.cells (cellsOf b) 23)).alloc (.cells zeroO 28)) wb1)
    (h2 : Below (wb1.alloc (.cells (cellsOf (sane a)) 23)).heap.size (wb1.alloc (.cells (cellsOf (sane a)) 23)) wb2) :
    Row (wb2.alloc (.cells (cellsOf (sane b)) 23)) wb1.heap.size 23 (cellsOf (sane a)) ∧ Row (wb2.alloc (.cells (cellsOf (sane b)) 23)) wb2.heap.size 23 (cellsOf (sane b)) ∧
      Row (wb2.alloc (.cells (cellsOf (sane b)) 23)) (w.heap.size + 1 + 1) 28 zeroO ∧ Below w.heap.size w (wb2.alloc (.cells (cellsOf (sane b)) 23)) := by
  have q := Row.new ((w.alloc (.cells (cellsOf a) 23)).alloc (.cells (cellsOf b) 23)) 28 zeroO
  rw [World.size_alloc, World.size_alloc] at q
  have z1 := h1.size
  have z2 := h2.size
  simp at z1 z2
  refine ⟨((Row.new wb1 _ _).below h2 (by simp)).alloc _, Row.new _ _ _, (((q.below h1 (by omega)).alloc _).below h2 (by simp; omega)).alloc _, ?_⟩
  exact (((((((Below.refl _ w).alloc (Nat.le_refl _) _).alloc (by simp) _).alloc (by simp; omega) _).trans (h1.mono (by omega))).alloc (by omega) _).trans (h2.mono (by simp; omega))).alloc (by omega) _
end Go.Proofs.YtkfpomkfgdkjdaaDoor
