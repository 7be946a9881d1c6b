/- The walk of chapter 14's law ValueOps. -/
import Derived.Test.YtkfpomkfgdkjdaaDoorL8
import Derived.Deep.DeepCutAuto
import Derived.Deep.RegionHeld3
import Derived.LoopTactic
namespace Go.Proofs.YtkfpomkfgdkjdaaDoor
set_option linter.unusedVariables false
set_option linter.unusedSimpArgs false
open Go.RowKit
attribute [local go_sem] valEq
def opsL : List ByteArray := [⟨#[43]⟩, ⟨#[45]⟩, ⟨#[42]⟩, ⟨#[37]⟩, ⟨#[38]⟩, ⟨#[124]⟩, ⟨#[94]⟩, ⟨#[60, 60]⟩, ⟨#[62, 62]⟩, ⟨#[62, 62, 62]⟩, ⟨#[60]⟩, ⟨#[60, 61]⟩, ⟨#[62]⟩, ⟨#[62, 61]⟩, ⟨#[61, 61, 61]⟩, ⟨#[33, 61, 61]⟩]
theorem ops_at (k : Nat) (h : k < 16) : (#[.string ⟨#[43]⟩, .string ⟨#[45]⟩, .string ⟨#[42]⟩, .string ⟨#[37]⟩, .string ⟨#[38]⟩, .string ⟨#[124]⟩, .string ⟨#[94]⟩, .string ⟨#[60, 60]⟩, .string ⟨#[62, 62]⟩, .string ⟨#[62, 62, 62]⟩, .string ⟨#[60]⟩, .string ⟨#[60, 61]⟩, .string ⟨#[62]⟩, .string ⟨#[62, 61]⟩, .string ⟨#[61, 61, 61]⟩, .string ⟨#[33, 61, 61]⟩] : Array Value)[k]? = some (.string (opsL.getD k ⟨#[]⟩)) := by
  have e : (#[.string ⟨#[43]⟩, .string ⟨#[45]⟩, .string ⟨#[42]⟩, .string ⟨#[37]⟩, .string ⟨#[38]⟩, .string ⟨#[124]⟩, .string ⟨#[94]⟩, .string ⟨#[60, 60]⟩, .string ⟨#[62, 62]⟩, .string ⟨#[62, 62, 62]⟩, .string ⟨#[60]⟩, .string ⟨#[60, 61]⟩, .string ⟨#[62]⟩, .string ⟨#[62, 61]⟩, .string ⟨#[61, 61, 61]⟩, .string ⟨#[33, 61, 61]⟩] : Array Value) = (opsL.map Value.string).toArray := rfl
  have h2 : k < opsL.length := h
  rw [e]; simp [h2]
theorem ops_laid (a b : Int) (w : World) : ∃ wl : World, wl = ((w.alloc (.cells #[.string ⟨#[43]⟩, .string ⟨#[45]⟩, .string ⟨#[42]⟩, .string ⟨#[37]⟩, .string ⟨#[38]⟩, .string ⟨#[124]⟩, .string ⟨#[94]⟩, .string ⟨#[60, 60]⟩, .string ⟨#[62, 62]⟩, .string ⟨#[62, 62, 62]⟩, .string ⟨#[60]⟩, .string ⟨#[60, 61]⟩, .string ⟨#[62]⟩, .string ⟨#[62, 61]⟩, .string ⟨#[61, 61, 61]⟩, .string ⟨#[33, 61, 61]⟩] 9)).alloc (.cells #[.int .i64 3, .int .i64 a, .string ⟨#[]⟩] 23)).alloc (.cells #[.int .i64 3, .int .i64 b, .string ⟨#[]⟩] 23) ∧
    (∀ k, k < 16 → wl.cell? ⟨w.heap.size, k, none⟩ = some (.string (opsL.getD k ⟨#[]⟩))) ∧ Row wl (w.heap.size + 1) 23 (cellsOf ⟨3, a, ⟨#[]⟩⟩) ∧ Row wl (w.heap.size + 1 + 1) 23 (cellsOf ⟨3, b, ⟨#[]⟩⟩) ∧
    Below w.heap.size w wl ∧ wl.heap.size = w.heap.size + 1 + 1 + 1 := by
  refine ⟨_, rfl, fun k hk => ?_, ?_, ?_, (by (repeat (first | (with_reducible exact Below.refl _ _) | (with_reducible assumption) | (with_reducible refine Below.setCell ?_ (by first | omega | (simp <;> omega)) _) | (with_reducible refine Below.alloc ?_ (by first | omega | (simp <;> omega)) _) | (with_reducible refine Below.drew ?_) | (with_reducible refine below_drewN ?_ _) | (with_reducible refine Below.trans ?_ (Below.mono (by with_reducible assumption) (by first | omega | (simp <;> omega))))))), by simp⟩
  · rw [World.cell?_alloc_lt _ _ _ (by simp; omega), World.cell?_alloc_lt _ _ _ (by simp), World.cell?_alloc_mark]; exact ops_at k hk
  · have q := Row.new (w.alloc (.cells #[.string ⟨#[43]⟩, .string ⟨#[45]⟩, .string ⟨#[42]⟩, .string ⟨#[37]⟩, .string ⟨#[38]⟩, .string ⟨#[124]⟩, .string ⟨#[94]⟩, .string ⟨#[60, 60]⟩, .string ⟨#[62, 62]⟩, .string ⟨#[62, 62, 62]⟩, .string ⟨#[60]⟩, .string ⟨#[60, 61]⟩, .string ⟨#[62]⟩, .string ⟨#[62, 61]⟩, .string ⟨#[61, 61, 61]⟩, .string ⟨#[33, 61, 61]⟩] 9)) 23 (cellsOf ⟨3, a, ⟨#[]⟩⟩)
    rw [World.size_alloc] at q
    exact q.alloc _
  · have q := Row.new ((w.alloc (.cells #[.string ⟨#[43]⟩, .string ⟨#[45]⟩, .string ⟨#[42]⟩, .string ⟨#[37]⟩, .string ⟨#[38]⟩, .string ⟨#[124]⟩, .string ⟨#[94]⟩, .string ⟨#[60, 60]⟩, .string ⟨#[62, 62]⟩, .string ⟨#[62, 62, 62]⟩, .string ⟨#[60]⟩, .string ⟨#[60, 61]⟩, .string ⟨#[62]⟩, .string ⟨#[62, 61]⟩, .string ⟨#[61, 61, 61]⟩, .string ⟨#[33, 61, 61]⟩] 9)).alloc (.cells #[.int .i64 3, .int .i64 a, .string ⟨#[]⟩] 23)) 23 (cellsOf ⟨3, b, ⟨#[]⟩⟩)
    rw [World.size_alloc, World.size_alloc] at q
    exact q
set_option maxRecDepth 100000 in
set_option maxHeartbeats 4000000 in
theorem ValueOps_any (a b : Int) (wfa : -9223372036854775808 ≤ a ∧ a ≤ 9223372036854775807) (wfb : -9223372036854775808 ≤ b ∧ b ≤ 9223372036854775807) (w : World) (ht : Tab w) :
    Calls Tryd.prog 5 #[.int .i64 a, .int .i64 b] w fun e w' => e = .returned (.bool true) ∧ Below w.heap.size w w' := by
  obtain ⟨wl, hwl, hl, hx, hy, hb, hz⟩ := ops_laid a b w
  have HL := Lib.hid hl
  have htl : Tab wl := ht.keep hb
  clear hl
  go_enter Tryd.func5, Tryd.ntmps5
  go_wp2
  rw [← hwl]
  clear hwl
  go_loopw [8] (fun i wr => ∃ k : Nat, k ≤ 16 ∧ i = .int .i64 k ∧ Below wl.heap.size wl wr) (fun i _ => 16 - (intOf i).toNat)
  case atStart => exact ⟨0, by omega, rfl, Below.refl _ _⟩
  case round =>
    obtain ⟨k, hk, rfl, hbr⟩ := hrel
    have zr := hbr.size
    have x0 := (hx.below hbr (by omega)).cell 0
    have x1 := (hx.below hbr (by omega)).cell 1
    have x2 := (hx.below hbr (by omega)).cell 2
    have y0 := (hy.below hbr (by omega)).cell 0
    have y1 := (hy.below hbr (by omega)).cell 1
    have y2 := (hy.below hbr (by omega)).cell 2
    have l0 : w.heap.size < wr.heap.size := by omega
    have lx : w.heap.size + 1 < wr.heap.size := by omega
    have ly : w.heap.size + 1 + 1 < wr.heap.size := by omega
    have l0' : w.heap.size ≤ wr.heap.size := by omega
    have l0'' : w.heap.size < wr.heap.size + 1 := by omega
    have lx'' : w.heap.size + 1 < wr.heap.size + 1 := by omega
    have ly'' : w.heap.size + 1 + 1 < wr.heap.size + 1 := by omega
    have lx' : w.heap.size + 1 ≤ wr.heap.size := by omega
    have ly' : w.heap.size + 1 + 1 ≤ wr.heap.size := by omega
    have hbw := hb.trans (hbr.mono (by omega))
    have htr : Tab wr := ht.keep hbw
    by_cases hlt : k < 16
    · have c1 := (hbr.cell (p := ⟨w.heap.size, k, none⟩) (by show w.heap.size < _; omega)).trans (HL.out k hlt)
      obtain ⟨o, hp, hr⟩ := both_any (opsL.getD k ⟨#[]⟩) ⟨3, a, ⟨#[]⟩⟩ ⟨3, b, ⟨#[]⟩⟩ (Nat.zero_le _) (Nat.zero_le _)
      have HP := Lib.hid hp
      have HR := Lib.hid hr
      clear hp hr
      generalize opsL.getD k ⟨#[]⟩ = op at *
      go_upto_region 7 with fail
      go_cut [9, 10, 11] from 22 to 61 (fun p x f wx => ∃ g, p = .pointer (some ⟨g, 0, none⟩) ∧ x = .string o.t ∧ f = .int .i64 o.f ∧ Row wx g 23 (cellsOf o.v) ∧ Below wr.heap.size wr wx ∧ wr.heap.size ≤ g)
      case first =>
        have ec1 := World.new_ne wr _ c1
        have ex0 := World.new_ne wr _ x0
        have ex1 := World.new_ne wr _ x1
        have ex2 := World.new_ne wr _ x2
        have ey0 := World.new_ne wr _ y0
        have ey1 := World.new_ne wr _ y1
        have ey2 := World.new_ne wr _ y2
        go_region_held3 (fun w' => w'.cell? ⟨w.heap.size, k, none⟩ = some (.string op) ∧ w'.cell? ⟨w.heap.size + 1, 0, none⟩ = some (.int .i64 3) ∧ w'.cell? ⟨w.heap.size + 1, 1, none⟩ = some (.int .i64 a) ∧ w'.cell? ⟨w.heap.size + 1, 2, none⟩ = some (.string ⟨#[]⟩) ∧ w'.cell? ⟨w.heap.size + 1 + 1, 0, none⟩ = some (.int .i64 3) ∧ w'.cell? ⟨w.heap.size + 1 + 1, 1, none⟩ = some (.int .i64 b) ∧ w'.cell? ⟨w.heap.size + 1 + 1, 2, none⟩ = some (.string ⟨#[]⟩)) (go_keep)
          (first | (go_at_call 16; (with_reducible refine (HP.out _ (ht.keep (by (repeat (first | (with_reducible exact Below.refl _ _) | (with_reducible assumption) | (with_reducible refine Below.setCell ?_ (by first | omega | (simp <;> omega)) _) | (with_reducible refine Below.alloc ?_ (by first | omega | (simp <;> omega)) _) | (with_reducible refine Below.drew ?_) | (with_reducible refine below_drewN ?_ _) | (with_reducible refine Below.trans ?_ (Below.mono (by with_reducible assumption) (by first | omega | (simp <;> omega))))))))).mono ?_); rintro e wb1 ⟨rfl, b1⟩; have zb1 := Below.size b1; (try simp at zb1); have nb0 : wr.heap.size < wb1.heap.size + 1 := (by omega); (try have nb1 : wr.heap.size < wb1.heap.size := (by omega)); obtain ⟨hcb1, hfb1⟩ := bcell b1; (try simp only [World.size_alloc, World.size_drew] at hcb1 hfb1)))
        all_goals (go_wp2_with fail; go_meet)
        · exact ⟨_, rfl, rfl, rfl, row_new rfl, (by (repeat (first | (with_reducible exact Below.refl _ _) | (with_reducible assumption) | (with_reducible refine Below.setCell ?_ (by first | omega | (simp <;> omega)) _) | (with_reducible refine Below.alloc ?_ (by first | omega | (simp <;> omega)) _) | (with_reducible refine Below.drew ?_) | (with_reducible refine below_drewN ?_ _) | (with_reducible refine Below.trans ?_ (Below.mono (by with_reducible assumption) (by first | omega | (simp <;> omega))))))), by omega⟩
        · refine ⟨_, rfl, rfl, rfl, Row.put3 (x := .int .i64 0) (y := .int .i64 0) (z := .string ⟨#[]⟩) (Row.below ?_ b1 (by simp)), (by (repeat (first | (with_reducible exact Below.refl _ _) | (with_reducible assumption) | (with_reducible refine Below.setCell ?_ (by first | omega | (simp <;> omega)) _) | (with_reducible refine Below.alloc ?_ (by first | omega | (simp <;> omega)) _) | (with_reducible refine Below.drew ?_) | (with_reducible refine below_drewN ?_ _) | (with_reducible refine Below.trans ?_ (Below.mono (by with_reducible assumption) (by first | omega | (simp <;> omega))))))), Nat.le_refl _⟩
          first | exact row_new rfl | exact Row.drew (row_new rfl)
      case rest =>
        obtain ⟨g, rfl, rfl, rfl, rg, bx, hg⟩ := hcut
        have zx := bx.size
        have x0 := (bx.cell (p := ⟨w.heap.size + 1, 0, none⟩) lx).trans x0
        have x1 := (bx.cell (p := ⟨w.heap.size + 1, 1, none⟩) lx).trans x1
        have x2 := (bx.cell (p := ⟨w.heap.size + 1, 2, none⟩) lx).trans x2
        have y0 := (bx.cell (p := ⟨w.heap.size + 1 + 1, 0, none⟩) ly).trans y0
        have y1 := (bx.cell (p := ⟨w.heap.size + 1 + 1, 1, none⟩) ly).trans y1
        have y2 := (bx.cell (p := ⟨w.heap.size + 1 + 1, 2, none⟩) ly).trans y2
        have c1 := (bx.cell (p := ⟨w.heap.size, k, none⟩) (by show w.heap.size < _; omega)).trans c1
        have g0 := rg.cell 0
        have g1 := rg.cell 1
        have g2 := rg.cell 2
        have lg := rg.lt
        have lg' : g < wc.heap.size + 1 := by omega
        have lz : w.heap.size < wc.heap.size := by omega
        have lz1 : w.heap.size + 1 < wc.heap.size := by omega
        have lz2 : w.heap.size + 1 + 1 < wc.heap.size := by omega
        have lz' : w.heap.size < wc.heap.size + 1 := by omega
        have lz1' : w.heap.size + 1 < wc.heap.size + 1 := by omega
        have lz2' : w.heap.size + 1 + 1 < wc.heap.size + 1 := by omega
        have ec1 := World.new_ne wc _ c1
        have ex0 := World.new_ne wc _ x0
        have ex1 := World.new_ne wc _ x1
        have ex2 := World.new_ne wc _ x2
        have ey0 := World.new_ne wc _ y0
        have ey1 := World.new_ne wc _ y1
        have ey2 := World.new_ne wc _ y2
        have eg0 := World.new_ne wc _ g0
        go_wp2_with fail
        go_region_held3 (fun w' => w'.cell? ⟨w.heap.size, k, none⟩ = some (.string op) ∧ w'.cell? ⟨w.heap.size + 1, 0, none⟩ = some (.int .i64 3) ∧ w'.cell? ⟨w.heap.size + 1, 1, none⟩ = some (.int .i64 a) ∧ w'.cell? ⟨w.heap.size + 1, 2, none⟩ = some (.string ⟨#[]⟩) ∧ w'.cell? ⟨w.heap.size + 1 + 1, 0, none⟩ = some (.int .i64 3) ∧ w'.cell? ⟨w.heap.size + 1 + 1, 1, none⟩ = some (.int .i64 b) ∧ w'.cell? ⟨w.heap.size + 1 + 1, 2, none⟩ = some (.string ⟨#[]⟩)) (go_keep)
          (first | (go_at_call 17; (with_reducible refine (HR.out _).mono ?_); rintro e wb2 ⟨rfl, b2⟩; have zb2 := Below.size b2; (try simp at zb2); have nb3 : wc.heap.size < wb2.heap.size + 1 := (by omega); (try have nb4 : wc.heap.size < wb2.heap.size := (by omega)); obtain ⟨hcb2, hfb2⟩ := bcell b2; (try simp only [World.size_alloc, World.size_drew] at hcb2 hfb2)))
        all_goals have lg2 : g < wb2.heap.size := by omega
        all_goals have lg3 : g ≠ wb2.heap.size := by omega
        all_goals have lg4 : g ≠ wc.heap.size := by omega
        all_goals go_wp2
        all_goals exact ⟨⟨k + 1, by omega, by go_num, (by (repeat (first | (with_reducible exact Below.refl _ _) | (with_reducible assumption) | (with_reducible refine Below.setCell ?_ (by first | omega | (simp <;> omega)) _) | (with_reducible refine Below.alloc ?_ (by first | omega | (simp <;> omega)) _) | (with_reducible refine Below.drew ?_) | (with_reducible refine below_drewN ?_ _) | (with_reducible refine Below.trans ?_ (Below.mono (by with_reducible assumption) (by first | omega | (simp <;> omega)))))))⟩, by simp [intOf]; omega⟩
    · obtain rfl : k = 16 := by omega
      go_wp2_with (first
        | (go_at_call 14; (with_reducible refine (Unary_any _ _ _ _ _).mono ?_); rintro e wb1 ⟨rfl, b1⟩; have zb1 : wr.heap.size ≤ wb1.heap.size := (by have hzz := Below.size b1; first | omega | (simp at hzz; omega)); replace b1 := Below.mono (B' := wr.heap.size) b1 (by first | omega | (simp <;> omega)); obtain ⟨hcb1, hfb1⟩ := bcell b1; have lx1 : w.heap.size + 1 < wb1.heap.size := (by omega))
        | (go_at_call 15; (with_reducible refine (rUnary_any _ _ _ _ _).mono ?_); rintro e wb2 ⟨rfl, b2⟩; have zb2 : wb1.heap.size + 1 ≤ wb2.heap.size := (by have hzz := Below.size b2; first | omega | (simp at hzz; omega)); replace b2 := Below.mono (B' := wb1.heap.size + 1) b2 (by first | omega | (simp <;> omega)); obtain ⟨hcb2, hfb2⟩ := bcell b2; have nb22 : wb1.heap.size < wb2.heap.size := (by omega); have lx2 : w.heap.size + 1 < wb2.heap.size := (by omega))
        | (go_at_call 13; refine (known_any _ (ht.keep (by (repeat (first | (with_reducible exact Below.refl _ _) | (with_reducible assumption) | (with_reducible refine Below.setCell ?_ (by first | omega | (simp <;> omega)) _) | (with_reducible refine Below.alloc ?_ (by first | omega | (simp <;> omega)) _) | (with_reducible refine Below.drew ?_) | (with_reducible refine below_drewN ?_ _) | (with_reducible refine Below.trans ?_ (Below.mono (by with_reducible assumption) (by first | omega | (simp <;> omega))))))))).mono ?_; rintro e wb3 ⟨rfl, b3⟩))
      all_goals go_ret
      all_goals exact ⟨rfl, (by (repeat (first | (with_reducible exact Below.refl _ _) | (with_reducible assumption) | (with_reducible refine Below.setCell ?_ (by first | omega | (simp <;> omega)) _) | (with_reducible refine Below.alloc ?_ (by first | omega | (simp <;> omega)) _) | (with_reducible refine Below.drew ?_) | (with_reducible refine below_drewN ?_ _) | (with_reducible refine Below.trans ?_ (Below.mono (by with_reducible assumption) (by first | omega | (simp <;> omega)))))))⟩
end Go.Proofs.YtkfpomkfgdkjdaaDoor
