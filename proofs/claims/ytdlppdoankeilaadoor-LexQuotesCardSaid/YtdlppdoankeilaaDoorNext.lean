/- The walk of chapter 2's scanner: Next. -/
import Derived.Test.YtdlppdoankeilaaDoorNextP
namespace Go.Proofs.YtdlppdoankeilaaDoor
set_option linter.unusedVariables false
set_option linter.unusedSimpArgs false
set_option linter.unnecessarySimpa false
open Go.RowKit
attribute [local go_sem] cell_alloc_add cell_set_add lt_more
theorem size_set (w : World) (p : Addr) (u : Value) : (w.setCell p u).heap.size = w.heap.size := by simp [World.setCell]
set_option maxRecDepth 100000 in
set_option maxHeartbeats 40000000 in
theorem Next_any (s : ByteArray) (A : Option Addr) (c : Nat) (hs : s.size ≤ 1000000) (hcap : s.size ≤ c) (w : World) (hm : Mx w) (g : Nat) (hg0 : 1 < g) (h : Rd w g A s.size (byteC s)) (i : Nat) (hi : i ≤ s.size) (holes : List Bool) (hol : holes.length ≤ 4000000) (hv : Value) (hg : Scn w g A s.size c i hv) (ho : w.ownsRow (g + 1) 4 1 hv holes.length (holes.map .bool)) :
    Calls Tryd.prog 17 #[.pointer (some ⟨g, 0, none⟩)] w fun e w' => e = .returned (.tuple #[.agg (tokA (nextR s i holes).1), .bool (nextR s i holes).2.1]) ∧ After g A s.size c (nextR s i holes).2.2.1 (nextR s i holes).2.2.2 hv w w' := by
  obtain ⟨A2, c2, rfl, hc2, _⟩ := rd_own ho
  have lz := hg.lt
  have HN := Lib.hid h
  have HO := Lib.hid ho
  have HM := Lib.hid hm
  have hge := own_ge ho
  have hlt := own_lt ho
  have rz0 : Row (w.alloc (.cells #[.int .i64 0, .string ⟨#[]⟩, .int .i64 0, .int .i64 0] 29)) w.heap.size 29 #[.int .i64 0, .string ⟨#[]⟩, .int .i64 0, .int .i64 0] := row_new rfl
  have HB := blanks_any s A c (by omega) hcap (w.alloc (.cells #[.int .i64 0, .string ⟨#[]⟩, .int .i64 0, .int .i64 0] 29)) (hm.keep ((Below.refl _ w).alloc (Nat.le_refl _) _)) g hg0 (h.alloc (by omega) _) i hi _ (Row.alloc hg _)
  have HR := Lib.hid (show nextR s i holes = if (skip s i).2 = false then (⟨0, ⟨#[]⟩, (skip s i).1, 0⟩, false, (skip s i).1, holes) else if (skip s i).1 = s.size then (⟨10, ⟨#[]⟩, s.size, s.size⟩, true, s.size, holes) else match tokAt s (skip s i).1 holes with | none => (⟨0, ⟨#[]⟩, (skip s i).1, 0⟩, false, (skip s i).1, holes) | some (t, h) => (t, true, t.hi, h) from rfl)
  have hkb := skip_bd s _ i (Nat.le_refl _) hi
  obtain ⟨k, fine, hk⟩ : ∃ k fine, skip s i = (k, fine) := ⟨_, _, rfl⟩
  rw [hk] at HB HR hkb
  have HB := Lib.hid HB
  simp only at HR hkb
  obtain ⟨hik, hks⟩ := hkb
  clear hk h ho hm
  cases fine
  · have HX : nextR s i holes = (⟨0, ⟨#[]⟩, k, 0⟩, false, k, holes) := HR.out
    have HX := Lib.hid HX
    go_enter Tryd.func17, Tryd.ntmps17
    go_wp2_with (go_at_call 23; (with_reducible refine (HB.out).mono ?_); rintro e wb ⟨rfl, rgb, kpb⟩; have zb := kpb.size; have hzb : w.heap.size < wb.heap.size := (by simp at zb; omega); have kpw : Kept g (Value.slice A2 holes.length c2).ownBlock w wb := (Kept.of_below ((Below.refl _ w).alloc (Nat.le_refl _) _)).trans kpb (.inr (by simp)); have owb := kpb.own (HO.out.alloc _) (fun e => by have := hge _ e; omega) (Classical.em _); have rzb := kpb.row rz0 (by omega) (by simp); have z1 := rgb.cell 1; have fz1 := rgb.free 1; have y0 := rzb.cell 0; have y1 := rzb.cell 1; have y2 := rzb.cell 2; have y3 := rzb.cell 3; have fy0 := rzb.free 0; have fy1 := rzb.free 1; have fy2 := rzb.free 2; have fy3 := rzb.free 3; simp at z1)
    refine bodyPost_ret (v := .tuple #[.agg (tokA ⟨0, ⟨#[]⟩, k, 0⟩), .bool false]) (by simp [results, Tryd.results17, go_sem, tokA, *]) rfl ⟨by rw [HX.out], ?_⟩
    rw [HX.out]
    have nb : (Value.slice A2 holes.length c2).ownBlock ≠ some w.heap.size := fun e => by have := hlt _ e; omega
    exact ⟨_, by (unfold Scn at *; repeat (first | with_reducible assumption | with_reducible refine Row.far ?_ (by simp; omega) _ | with_reducible refine Row.alloc ?_ _ | with_reducible refine Row.drewN ?_ _)), by (repeat (first | with_reducible assumption | with_reducible refine ownsRow_setCell_other ?_ nb _ | with_reducible refine World.ownsRow.alloc ?_ _)), by (repeat (first | with_reducible assumption | with_reducible refine Kept.setNew ?_ (by simp; try omega) _ | with_reducible refine Kept.alloc ?_ _ | with_reducible refine Kept.drewN ?_ _)), .inl rfl⟩
  · by_cases hke : k = s.size
    · have HX : nextR s i holes = (⟨10, ⟨#[]⟩, k, k⟩, true, k, holes) := by rw [HR.out, if_neg (by decide), if_pos hke, hke]
      have HX := Lib.hid HX
      have hke1 : ((k : Int) == (s.size : Int)) = true := by simp; omega
      clear hke
      go_enter Tryd.func17, Tryd.ntmps17
      go_wp2_with (go_at_call 23; (with_reducible refine (HB.out).mono ?_); rintro e wb ⟨rfl, rgb, kpb⟩; have zb := kpb.size; have hzb : w.heap.size < wb.heap.size := (by simp at zb; omega); have kpw : Kept g (Value.slice A2 holes.length c2).ownBlock w wb := (Kept.of_below ((Below.refl _ w).alloc (Nat.le_refl _) _)).trans kpb (.inr (by simp)); have owb := kpb.own (HO.out.alloc _) (fun e => by have := hge _ e; omega) (Classical.em _); have rzb := kpb.row rz0 (by omega) (by simp); have z1 := rgb.cell 1; have fz1 := rgb.free 1; have y0 := rzb.cell 0; have y1 := rzb.cell 1; have y2 := rzb.cell 2; have y3 := rzb.cell 3; have fy0 := rzb.free 0; have fy1 := rzb.free 1; have fy2 := rzb.free 2; have fy3 := rzb.free 3; simp at z1)
      clear y0 y1 y2 y3 fy0 fy1 fy2 fy3 z1 fz1; obtain ⟨w5, hw5⟩ : ∃ q : World, q = wb.alloc (.cells #[.int .i64 0, .string ⟨#[]⟩, .int .i64 (k : Int), .int .i64 0] 29) := ⟨_, rfl⟩; rw [← hw5]; have rg : Scn w5 g A s.size c k (.slice A2 holes.length c2) := (by rw [hw5]; exact Row.alloc rgb _); have ry : Row w5 wb.heap.size 29 #[.int .i64 0, .string ⟨#[]⟩, .int .i64 (k : Int), .int .i64 0] := (by rw [hw5]; exact row_new rfl); have rz : Row w5 w.heap.size 29 #[.int .i64 0, .string ⟨#[]⟩, .int .i64 0, .int .i64 0] := (by rw [hw5]; exact Row.alloc rzb _); have kp : Kept g (Value.slice A2 holes.length c2).ownBlock w w5 := (by rw [hw5]; exact kpw.alloc _); have ow : w5.ownsRow (g + 1) 4 1 (.slice A2 holes.length c2) holes.length (holes.map .bool) := (by rw [hw5]; exact owb.alloc _); clear hw5; have z0 := rg.cell 0; have z1 := rg.cell 1; have z2 := rg.cell 2; have fz0 := rg.free 0; have fz1 := rg.free 1; have fz2 := rg.free 2; simp at z0 z1 z2; have y0 := ry.cell 0; have y1 := ry.cell 1; have y2 := ry.cell 2; have y3 := ry.cell 3; have fy0 := ry.free 0; have fy1 := ry.free 1; have fy2 := ry.free 2; have fy3 := ry.free 3; simp at y0 y1 y2 y3; have x0 := rz.cell 0; have x1 := rz.cell 1; have x2 := rz.cell 2; have x3 := rz.cell 3; have fx0 := rz.free 0; have fx1 := rz.free 1; have fx2 := rz.free 2; have fx3 := rz.free 3; simp at x0 x1 x2 x3; have ly := ry.lt; have lx := rz.lt; have lg := rg.lt
      go_quiet (fail)
      obtain ⟨w6, hw6⟩ : ∃ q : World, q = (w5).drewN nq := ⟨_, rfl⟩; rw [← hw6]; clear z0 z1 z2 fz0 fz1 fz2 y0 y1 y2 y3 fy0 fy1 fy2 fy3 x0 x1 x2 x3 fx0 fx1 fx2 fx3 ly lx lg; replace rg : Scn w6 g A s.size c k (.slice A2 holes.length c2) := (by rw [hw6]; exact rg); replace ry : Row w6 wb.heap.size 29 #[.int .i64 0, .string ⟨#[]⟩, .int .i64 (k : Int), .int .i64 0] := (by rw [hw6]; exact ry); replace rz : Row w6 w.heap.size 29 #[.int .i64 0, .string ⟨#[]⟩, .int .i64 0, .int .i64 0] := (by rw [hw6]; exact rz); replace kp : Kept g (Value.slice A2 holes.length c2).ownBlock w w6 := (by rw [hw6]; exact kp.drewN _); replace ow : World.ownsRow w6 (g + 1) 4 1 (.slice A2 holes.length c2) holes.length (holes.map .bool) := (by rw [hw6]; exact ow); clear hw6; have z0 := rg.cell 0; have z1 := rg.cell 1; have z2 := rg.cell 2; have fz0 := rg.free 0; have fz1 := rg.free 1; have fz2 := rg.free 2; simp at z0 z1 z2; have y0 := ry.cell 0; have y1 := ry.cell 1; have y2 := ry.cell 2; have y3 := ry.cell 3; have fy0 := ry.free 0; have fy1 := ry.free 1; have fy2 := ry.free 2; have fy3 := ry.free 3; simp at y0 y1 y2 y3; have x0 := rz.cell 0; have x1 := rz.cell 1; have x2 := rz.cell 2; have x3 := rz.cell 3; have fx0 := rz.free 0; have fx1 := rz.free 1; have fx2 := rz.free 2; have fx3 := rz.free 3; simp at x0 x1 x2 x3; have ly := ry.lt; have lx := rz.lt; have lg := rg.lt
      go_wp2_with fail
      refine wp_region_still_tail 9 (by kernel_rfl) (by kernel_rfl) ?_; simp only [List.take_succ_cons, List.take_zero, List.drop_succ_cons, List.drop_zero]; obtain ⟨w7, hw6⟩ : ∃ q : World, q = { w6 with drawn := w6.drawn + 1 } := ⟨_, rfl⟩; rw [← hw6]; clear z0 z1 z2 fz0 fz1 fz2 y0 y1 y2 y3 fy0 fy1 fy2 fy3 x0 x1 x2 x3 fx0 fx1 fx2 fx3 ly lx lg; replace rg : Scn w7 g A s.size c k (.slice A2 holes.length c2) := (by rw [hw6]; exact rg); replace ry : Row w7 wb.heap.size 29 #[.int .i64 0, .string ⟨#[]⟩, .int .i64 (k : Int), .int .i64 0] := (by rw [hw6]; exact ry); replace rz : Row w7 w.heap.size 29 #[.int .i64 0, .string ⟨#[]⟩, .int .i64 0, .int .i64 0] := (by rw [hw6]; exact rz); replace kp : Kept g (Value.slice A2 holes.length c2).ownBlock w w7 := (by rw [hw6]; exact kp.drew); replace ow : World.ownsRow w7 (g + 1) 4 1 (.slice A2 holes.length c2) holes.length (holes.map .bool) := (by rw [hw6]; exact ow.drew); clear hw6; have z0 := rg.cell 0; have z1 := rg.cell 1; have z2 := rg.cell 2; have fz0 := rg.free 0; have fz1 := rg.free 1; have fz2 := rg.free 2; simp at z0 z1 z2; have y0 := ry.cell 0; have y1 := ry.cell 1; have y2 := ry.cell 2; have y3 := ry.cell 3; have fy0 := ry.free 0; have fy1 := ry.free 1; have fy2 := ry.free 2; have fy3 := ry.free 3; simp at y0 y1 y2 y3; have x0 := rz.cell 0; have x1 := rz.cell 1; have x2 := rz.cell 2; have x3 := rz.cell 3; have fx0 := rz.free 0; have fx1 := rz.free 1; have fx2 := rz.free 2; have fx3 := rz.free 3; simp at x0 x1 x2 x3; have ly := ry.lt; have lx := rz.lt; have lg := rg.lt; repeat still_step
      refine wpStill_nil ?_
      go_wp2
      refine bodyPost_ret (v := .tuple #[.agg (tokA ⟨10, ⟨#[]⟩, k, k⟩), .bool true]) (by simp [results, Tryd.results17, go_sem, tokA, *]) rfl ⟨by rw [HX.out], ?_⟩
      rw [HX.out]
      have nb : (Value.slice A2 holes.length c2).ownBlock ≠ some w.heap.size := fun e => by have := hlt _ e; omega
      exact ⟨_, by (unfold Scn at *; repeat (first | with_reducible assumption | with_reducible refine Row.far ?_ (by simp; omega) _ | with_reducible refine Row.alloc ?_ _ | with_reducible refine Row.drewN ?_ _)), by (repeat (first | with_reducible assumption | with_reducible refine ownsRow_setCell_other ?_ nb _ | with_reducible refine World.ownsRow.alloc ?_ _)), by (repeat (first | with_reducible assumption | with_reducible refine Kept.setNew ?_ (by simp; try omega) _ | with_reducible refine Kept.alloc ?_ _ | with_reducible refine Kept.drewN ?_ _)), .inl rfl⟩
    · have hk1 : k < s.size := by omega
      have hke1 : ((k : Int) == (s.size : Int)) = false := by simp; omega
      obtain ⟨ad, rfl, hadB, c1⟩ := HN.out k hk1
      unfold byteC at c1
      have hR := HR.out
      rw [if_neg (by decide), if_neg hke] at hR
      have HR := Lib.hid hR
      clear hR hke
      go_enter Tryd.func17, Tryd.ntmps17
      go_wp2_with (go_at_call 23; (with_reducible refine (HB.out).mono ?_); rintro e wb ⟨rfl, rgb, kpb⟩; have zb := kpb.size; have hzb : w.heap.size < wb.heap.size := (by simp at zb; omega); have kpw : Kept g (Value.slice A2 holes.length c2).ownBlock w wb := (Kept.of_below ((Below.refl _ w).alloc (Nat.le_refl _) _)).trans kpb (.inr (by simp)); have owb := kpb.own (HO.out.alloc _) (fun e => by have := hge _ e; omega) (Classical.em _); have rzb := kpb.row rz0 (by omega) (by simp); have z1 := rgb.cell 1; have fz1 := rgb.free 1; have y0 := rzb.cell 0; have y1 := rzb.cell 1; have y2 := rzb.cell 2; have y3 := rzb.cell 3; have fy0 := rzb.free 0; have fy1 := rzb.free 1; have fy2 := rzb.free 2; have fy3 := rzb.free 3; simp at z1)
      clear y0 y1 y2 y3 fy0 fy1 fy2 fy3 z1 fz1; obtain ⟨w5, hw5⟩ : ∃ q : World, q = wb.alloc (.cells #[.int .i64 0, .string ⟨#[]⟩, .int .i64 (k : Int), .int .i64 0] 29) := ⟨_, rfl⟩; rw [← hw5]; have rg : Scn w5 g (some ad) s.size c k (.slice A2 holes.length c2) := (by rw [hw5]; exact Row.alloc rgb _); have ry : Row w5 wb.heap.size 29 #[.int .i64 0, .string ⟨#[]⟩, .int .i64 (k : Int), .int .i64 0] := (by rw [hw5]; exact row_new rfl); have rz : Row w5 w.heap.size 29 #[.int .i64 0, .string ⟨#[]⟩, .int .i64 0, .int .i64 0] := (by rw [hw5]; exact Row.alloc rzb _); have kp : Kept g (Value.slice A2 holes.length c2).ownBlock w w5 := (by rw [hw5]; exact kpw.alloc _); have ow : w5.ownsRow (g + 1) 4 1 (.slice A2 holes.length c2) holes.length (holes.map .bool) := (by rw [hw5]; exact owb.alloc _); clear hw5; have z0 := rg.cell 0; have z1 := rg.cell 1; have z2 := rg.cell 2; have fz0 := rg.free 0; have fz1 := rg.free 1; have fz2 := rg.free 2; simp at z0 z1 z2; have y0 := ry.cell 0; have y1 := ry.cell 1; have y2 := ry.cell 2; have y3 := ry.cell 3; have fy0 := ry.free 0; have fy1 := ry.free 1; have fy2 := ry.free 2; have fy3 := ry.free 3; simp at y0 y1 y2 y3; have x0 := rz.cell 0; have x1 := rz.cell 1; have x2 := rz.cell 2; have x3 := rz.cell 3; have fx0 := rz.free 0; have fx1 := rz.free 1; have fx2 := rz.free 2; have fx3 := rz.free 3; simp at x0 x1 x2 x3; have ly := ry.lt; have lx := rz.lt; have lg := rg.lt
      have d1 := ((kp.below (B := g) (Nat.le_refl _) (by omega) (fun b e => by have := hge _ e; omega)).cell (p := ad.add k) (by rw [block_add]; omega)).trans c1
      clear c1
      go_quiet (fail)
      obtain ⟨w6, hw6⟩ : ∃ q : World, q = (w5).drewN nq := ⟨_, rfl⟩; rw [← hw6]; clear z0 z1 z2 fz0 fz1 fz2 y0 y1 y2 y3 fy0 fy1 fy2 fy3 x0 x1 x2 x3 fx0 fx1 fx2 fx3 ly lx lg; replace rg : Scn w6 g (some ad) s.size c k (.slice A2 holes.length c2) := (by rw [hw6]; exact rg); replace ry : Row w6 wb.heap.size 29 #[.int .i64 0, .string ⟨#[]⟩, .int .i64 (k : Int), .int .i64 0] := (by rw [hw6]; exact ry); replace rz : Row w6 w.heap.size 29 #[.int .i64 0, .string ⟨#[]⟩, .int .i64 0, .int .i64 0] := (by rw [hw6]; exact rz); replace kp : Kept g (Value.slice A2 holes.length c2).ownBlock w w6 := (by rw [hw6]; exact kp.drewN _); replace ow : World.ownsRow w6 (g + 1) 4 1 (.slice A2 holes.length c2) holes.length (holes.map .bool) := (by rw [hw6]; exact ow); clear hw6; have z0 := rg.cell 0; have z1 := rg.cell 1; have z2 := rg.cell 2; have fz0 := rg.free 0; have fz1 := rg.free 1; have fz2 := rg.free 2; simp at z0 z1 z2; have y0 := ry.cell 0; have y1 := ry.cell 1; have y2 := ry.cell 2; have y3 := ry.cell 3; have fy0 := ry.free 0; have fy1 := ry.free 1; have fy2 := ry.free 2; have fy3 := ry.free 3; simp at y0 y1 y2 y3; have x0 := rz.cell 0; have x1 := rz.cell 1; have x2 := rz.cell 2; have x3 := rz.cell 3; have fx0 := rz.free 0; have fx1 := rz.free 1; have fx2 := rz.free 2; have fx3 := rz.free 3; simp at x0 x1 x2 x3; have ly := ry.lt; have lx := rz.lt; have lg := rg.lt
      replace d1 := ((kp.below (B := g) (Nat.le_refl _) (by omega) (fun b e => by have := hge _ e; omega)).cell (p := ad.add k) (by rw [block_add]; omega)).trans (by have hh := HN.out k hk1; obtain ⟨ad2, e2, _, c2⟩ := hh; injection e2 with e2; subst e2; exact c2)
      unfold byteC at d1
      go_wp2_with fail
      go_quiet (fail)
      obtain ⟨w7, hw6⟩ : ∃ q : World, q = (w6).drewN nq := ⟨_, rfl⟩; rw [← hw6]; clear z0 z1 z2 fz0 fz1 fz2 y0 y1 y2 y3 fy0 fy1 fy2 fy3 x0 x1 x2 x3 fx0 fx1 fx2 fx3 ly lx lg; replace rg : Scn w7 g (some ad) s.size c k (.slice A2 holes.length c2) := (by rw [hw6]; exact rg); replace ry : Row w7 wb.heap.size 29 #[.int .i64 0, .string ⟨#[]⟩, .int .i64 (k : Int), .int .i64 0] := (by rw [hw6]; exact ry); replace rz : Row w7 w.heap.size 29 #[.int .i64 0, .string ⟨#[]⟩, .int .i64 0, .int .i64 0] := (by rw [hw6]; exact rz); replace kp : Kept g (Value.slice A2 holes.length c2).ownBlock w w7 := (by rw [hw6]; exact kp.drewN _); replace ow : World.ownsRow w7 (g + 1) 4 1 (.slice A2 holes.length c2) holes.length (holes.map .bool) := (by rw [hw6]; exact ow); clear hw6; have z0 := rg.cell 0; have z1 := rg.cell 1; have z2 := rg.cell 2; have fz0 := rg.free 0; have fz1 := rg.free 1; have fz2 := rg.free 2; simp at z0 z1 z2; have y0 := ry.cell 0; have y1 := ry.cell 1; have y2 := ry.cell 2; have y3 := ry.cell 3; have fy0 := ry.free 0; have fy1 := ry.free 1; have fy2 := ry.free 2; have fy3 := ry.free 3; simp at y0 y1 y2 y3; have x0 := rz.cell 0; have x1 := rz.cell 1; have x2 := rz.cell 2; have x3 := rz.cell 3; have fx0 := rz.free 0; have fx1 := rz.free 1; have fx2 := rz.free 2; have fx3 := rz.free 3; simp at x0 x1 x2 x3; have ly := ry.lt; have lx := rz.lt; have lg := rg.lt
      go_upto_block 0 with (fail)
      go_cut [] (fun wx => ∃ (tk : Tok) (holes' : List Bool) (A3 : Option Addr) (c3 : Nat), TSpec s k holes tk holes' ∧ Row wx wb.heap.size 29 (tokA tk) ∧ Row wx w.heap.size 29 #[.int .i64 0, .string ⟨#[]⟩, .int .i64 0, .int .i64 0] ∧ Scn wx g (some ad) s.size c k (.slice A3 holes'.length c3) ∧ wx.ownsRow (g + 1) 4 1 (.slice A3 holes'.length c3) holes'.length (holes'.map .bool) ∧ Kept g (Value.slice A2 holes.length c2).ownBlock w wx ∧ ((Value.slice A3 holes'.length c3).ownBlock = (Value.slice A2 holes.length c2).ownBlock ∨ ∀ b, (Value.slice A3 holes'.length c3).ownBlock = some b → wb.heap.size < b))
      case first =>
        have hm7 := kp.mx HM.out hg0 (fun e => by have := hge _ e; omega)
        have hrd := kp.rd HN.out (Nat.le_refl _) (by omega) (fun b e => by have := hge _ e; omega)
        have nbb : (Value.slice A2 holes.length c2).ownBlock ≠ some wb.heap.size := fun e => by have := hlt _ e; omega
        have HL := Lib.hid (Letter_any (bt s k))
        have HD := Lib.hid (Digit_any (bt s k))
        cases hl : letterB (bt s k)
        · rw [hl] at HL
          cases hd : digitB (bt s k)
          · rw [hd] at HD
            by_cases h34 : bt s k = 34 ∨ bt s k = 39
            · have HW := quoted_any s (some ad) c hs hcap w7 (hrd.more (by omega)) g k _ rg hk1
              have HS := Lib.hid (tk_quoted (holes := holes) hl hd h34)
              generalize tokQ s k = tk at *
              unfold tokA at HW
              have HW := Lib.hid HW
              clear hl hd HR
              generalize bt s k = u at *
              rcases h34 with rfl | rfl
              all_goals
                simp only [Int.cast_ofNat_Int] at HL HD HW
                go_wp2_with (first | (first | (go_at_call 24; (with_reducible refine (HL.out _).mono ?_); rintro e wq ⟨rfl, hwq⟩; obtain rfl := hwq.symm) | (go_at_call 26; (with_reducible refine (HD.out _).mono ?_); rintro e wq ⟨rfl, hwq⟩; obtain rfl := hwq.symm)) | (go_at_call 28; (with_reducible refine (HW.out).mono ?_); rintro e w8 ⟨rfl, b1⟩; have ry8 := ry.below b1 ly; have rz8 := rz.below b1 lx; have rg8 := Row.below rg b1 lg; have ow8 := own_below ow b1; have kp8 := kp.below_next b1; have gz2 := Row.cell rg8 2; have fgz2 := Row.free rg8 2; simp at gz2; have v0 := ry8.cell 0; have v1 := ry8.cell 1; have v2 := ry8.cell 2; have v3 := ry8.cell 3; have fv0 := ry8.free 0; have fv1 := ry8.free 1; have fv2 := ry8.free 2; have fv3 := ry8.free 3; have lv := ry8.lt; simp at v0 v1 v2 v3))
                go_meet
                exact ⟨tk, holes, A2, c2, HS.out, by (unfold tokA; exact Row.put4 ry8), by (repeat (first | with_reducible assumption | with_reducible refine Row.far ?_ (by simp; omega) _)), by (unfold Scn at *; repeat (first | with_reducible assumption | with_reducible refine Row.far ?_ (by simp; omega) _ | with_reducible refine Row.alloc ?_ _ | with_reducible refine Row.drewN ?_ _)), by (repeat (first | with_reducible assumption | with_reducible refine ownsRow_setCell_other ?_ nbb _ | with_reducible refine World.ownsRow.alloc ?_ _)), by (repeat (first | with_reducible assumption | with_reducible refine Kept.setNew ?_ (by simp; try omega) _ | with_reducible refine Kept.alloc ?_ _ | with_reducible refine Kept.drewN ?_ _)), .inl rfl⟩
            · by_cases h96 : bt s k = 96
              · have HW := piece_any s (some ad) c hs hcap w7 (hrd.more (by omega)) g k _ rg hk1 5 6
                have hat := at_tick (holes := holes) h96
                cases hp : pieceOf s k with
                | none =>
                  rw [hp] at hat
                  rw [tokP_no hp] at HW
                  have HS := Lib.hid (TSpec.no (tk := tokZ) hat rfl)
                  unfold tokA tokZ at HW
                  have HW := Lib.hid HW
                  clear hl hd HR hat hp h34
                  generalize bt s k = u at *
                  subst h96
                  simp only [Int.cast_ofNat_Int] at HL HD HW
                  go_wp2_with (first | (first | (go_at_call 24; (with_reducible refine (HL.out _).mono ?_); rintro e wq ⟨rfl, hwq⟩; obtain rfl := hwq.symm) | (go_at_call 26; (with_reducible refine (HD.out _).mono ?_); rintro e wq ⟨rfl, hwq⟩; obtain rfl := hwq.symm)) | (go_at_call 29; (with_reducible refine (HW.out).mono ?_); rintro e w8 ⟨rfl, b1⟩; have ry8 := ry.below b1 ly; have rz8 := rz.below b1 lx; have rg8 := Row.below rg b1 lg; have ow8 := own_below ow b1; have kp8 := kp.below_next b1; have gz2 := Row.cell rg8 2; have fgz2 := Row.free rg8 2; simp at gz2; have v0 := ry8.cell 0; have v1 := ry8.cell 1; have v2 := ry8.cell 2; have v3 := ry8.cell 3; have fv0 := ry8.free 0; have fv1 := ry8.free 1; have fv2 := ry8.free 2; have fv3 := ry8.free 3; have lv := ry8.lt; simp at v0 v1 v2 v3))
                  go_meet
                  exact ⟨tokZ, holes, A2, c2, HS.out, by (unfold tokA; exact Row.put4 ry8), by (repeat (first | with_reducible assumption | with_reducible refine Row.far ?_ (by simp; omega) _)), by (unfold Scn at *; repeat (first | with_reducible assumption | with_reducible refine Row.far ?_ (by simp; omega) _ | with_reducible refine Row.alloc ?_ _ | with_reducible refine Row.drewN ?_ _)), by (repeat (first | with_reducible assumption | with_reducible refine ownsRow_setCell_other ?_ nbb _ | with_reducible refine World.ownsRow.alloc ?_ _)), by (repeat (first | with_reducible assumption | with_reducible refine Kept.setNew ?_ (by simp; try omega) _ | with_reducible refine Kept.alloc ?_ _ | with_reducible refine Kept.drewN ?_ _)), .inl rfl⟩
                | some p =>
                  obtain ⟨tx, n, m⟩ := p
                  rw [hp] at hat
                  rw [tokP_yes hp] at HW
                  unfold tokA at HW
                  cases m
                  · have HS := Lib.hid (TSpec.yes (tk := ⟨5, tx, k, n⟩) hat)
                    simp only [↓reduceIte, Bool.false_eq_true] at HW
                    have HW := Lib.hid HW
                    clear hl hd HR hat hp h34
                    generalize bt s k = u at *
                    subst h96
                    simp only [Int.cast_ofNat_Int] at HL HD
                    go_wp2_with (first | (first | (go_at_call 24; (with_reducible refine (HL.out _).mono ?_); rintro e wq ⟨rfl, hwq⟩; obtain rfl := hwq.symm) | (go_at_call 26; (with_reducible refine (HD.out _).mono ?_); rintro e wq ⟨rfl, hwq⟩; obtain rfl := hwq.symm)) | (go_at_call 29; (with_reducible refine (HW.out).mono ?_); rintro e w8 ⟨rfl, b1⟩; have ry8 := ry.below b1 ly; have rz8 := rz.below b1 lx; have rg8 := Row.below rg b1 lg; have ow8 := own_below ow b1; have kp8 := kp.below_next b1; have gz2 := Row.cell rg8 2; have fgz2 := Row.free rg8 2; simp at gz2; have v0 := ry8.cell 0; have v1 := ry8.cell 1; have v2 := ry8.cell 2; have v3 := ry8.cell 3; have fv0 := ry8.free 0; have fv1 := ry8.free 1; have fv2 := ry8.free 2; have fv3 := ry8.free 3; have lv := ry8.lt; simp at v0 v1 v2 v3))
                    go_meet
                    exact ⟨⟨5, tx, k, n⟩, holes, A2, c2, HS.out, by (unfold tokA; exact Row.put4 ry8), by (repeat (first | with_reducible assumption | with_reducible refine Row.far ?_ (by simp; omega) _)), by (unfold Scn at *; repeat (first | with_reducible assumption | with_reducible refine Row.far ?_ (by simp; omega) _ | with_reducible refine Row.alloc ?_ _ | with_reducible refine Row.drewN ?_ _)), by (repeat (first | with_reducible assumption | with_reducible refine ownsRow_setCell_other ?_ nbb _ | with_reducible refine World.ownsRow.alloc ?_ _)), by (repeat (first | with_reducible assumption | with_reducible refine Kept.setNew ?_ (by simp; try omega) _ | with_reducible refine Kept.alloc ?_ _ | with_reducible refine Kept.drewN ?_ _)), .inl rfl⟩
                  · have HS := Lib.hid (TSpec.yes (tk := ⟨6, tx, k, n⟩) hat)
                    simp only [↓reduceIte] at HW
                    have HW := Lib.hid HW
                    clear hl hd HR hat hp h34
                    generalize bt s k = u at *
                    subst h96
                    simp only [Int.cast_ofNat_Int] at HL HD
                    obtain ⟨i0, hif, hz0, hz1, hz2⟩ := info_parts infoBool
                    go_wp2_with (first | (first | (go_at_call 24; (with_reducible refine (HL.out _).mono ?_); rintro e wq ⟨rfl, hwq⟩; obtain rfl := hwq.symm) | (go_at_call 26; (with_reducible refine (HD.out _).mono ?_); rintro e wq ⟨rfl, hwq⟩; obtain rfl := hwq.symm)) | (go_at_call 29; (with_reducible refine (HW.out).mono ?_); rintro e w8 ⟨rfl, b1⟩; have ry8 := ry.below b1 ly; have rz8 := rz.below b1 lx; have rg8 := Row.below rg b1 lg; have ow8 := own_below ow b1; have kp8 := kp.below_next b1; have gz2 := Row.cell rg8 2; have fgz2 := Row.free rg8 2; simp at gz2; have v0 := ry8.cell 0; have v1 := ry8.cell 1; have v2 := ry8.cell 2; have v3 := ry8.cell 3; have fv0 := ry8.free 0; have fv1 := ry8.free 1; have fv2 := ry8.free 2; have fv3 := ry8.free 3; have lv := ry8.lt; simp at v0 v1 v2 v3) | (at_builtin; have owc : World.ownsRow ((((w8.setCell ⟨wb.heap.size, 0, none⟩ (.int .i64 6)).setCell ⟨wb.heap.size, 1, none⟩ (.string tx)).setCell ⟨wb.heap.size, 2, none⟩ (.int .i64 (k : Int))).setCell ⟨wb.heap.size, 3, none⟩ (.int .i64 (n : Int))) (g + 1) 4 1 (.slice A2 holes.length c2) holes.length (holes.map .bool) := (by (repeat (first | with_reducible assumption | with_reducible refine ownsRow_setCell_other ?_ nbb _ | with_reducible refine World.ownsRow.alloc ?_ _))); refine wpList_append_rd _ rfl (.tmp 80) (.tmp 81) _ rfl (g + 1) 4 i0 _ 1 Tryd.underlying61 hif hz0 hz1 hz2 rfl (.slice A2 holes.length c2) holes.length (holes.map .bool) rfl (owc.alloc _) (w8.heap.size + 1) (some ⟨w8.heap.size, 0, none⟩) 1 1 (fun _ => .bool true) rfl (by have hh := rd_one ((((w8.setCell ⟨wb.heap.size, 0, none⟩ (.int .i64 6)).setCell ⟨wb.heap.size, 1, none⟩ (.string tx)).setCell ⟨wb.heap.size, 2, none⟩ (.int .i64 (k : Int))).setCell ⟨wb.heap.size, 3, none⟩ (.int .i64 (n : Int))) 4 (.bool true); simp only [size_set] at hh; exact hh) (fun _ => rfl) (by simp only [maxLen]; omega) (by omega) (by simp; omega) ?_; intro v2 w2 hown2 hg2 hob; obtain ⟨A3, c3, hv3, hc3, _⟩ := rd_own hown2; subst hv3; have ry9 : Row w2 wb.heap.size 29 #[.int .i64 6, .string tx, .int .i64 (k : Int), .int .i64 (n : Int)] := row_grown (by exact Row.alloc (Row.put4 ry8) _) hg2 nbb; have rz9 : Row w2 w.heap.size 29 #[.int .i64 0, .string ⟨#[]⟩, .int .i64 0, .int .i64 0] := row_grown (by exact Row.alloc ((((rz8.far (by simp; omega) _).far (by simp; omega) _).far (by simp; omega) _).far (by simp; omega) _) _) hg2 (fun e => by have := hlt _ e; omega); have rg9 : Scn w2 g (some ad) s.size c k (.slice A2 holes.length c2) := row_grown (by exact Row.alloc ((((Row.far rg8 (by simp; omega) _).far (by simp; omega) _).far (by simp; omega) _).far (by simp; omega) _) _) hg2 (fun e => by have := hge _ e; omega); have kp9 : Kept g (Value.slice A2 holes.length c2).ownBlock w w2 := Kept.grown (by exact ((((kp8.setNew (by simp; omega) _).setNew (by simp; omega) _).setNew (by simp; omega) _).setNew (by simp; omega) _).alloc _) hg2 (.inl rfl); have hob9 : (Value.slice A3 (holes.length + 1) c3).ownBlock = (Value.slice A2 holes.length c2).ownBlock ∨ ∀ b, (Value.slice A3 (holes.length + 1) c3).ownBlock = some b → wb.heap.size < b := hob.imp_right (fun q b e => by rw [q] at e; injection e with e; simp at e; omega); have s0 := ry9.cell 0; have s1 := ry9.cell 1; have s2 := ry9.cell 2; have s3 := ry9.cell 3; have cg2 := Row.cell rg9 2; have fg2 := Row.free rg9 2; simp at cg2 s0 s1 s2 s3))
                    go_meet
                    have hln : (holes ++ [true]).length = holes.length + 1 := by simp
                    refine ⟨⟨6, tx, k, n⟩, holes ++ [true], A3, c3, HS.out, ?_, ?_, ?_, ?_, ?_, ?_⟩
                    · exact ry9.far (by simp; omega) _
                    · exact rz9.far (by simp; omega) _
                    · rw [hln]; exact Scn.open rg9 _
                    · rw [hln, List.map_append]; exact ownsRow_setCell_other hown2 (fun e => by have := own_ge hown2 _ e; simp at this; omega) _
                    · exact Kept.set kp9 rfl _
                    · rw [hln]; exact hob9
              · by_cases h125 : bt s k = 125
                · obtain rfl | ⟨l, b, rfl⟩ : holes = [] ∨ ∃ l b, holes = l ++ [b] := by
                    rcases List.eq_nil_or_concat holes with e | ⟨l, b, e⟩
                    · exact .inl e
                    · exact .inr ⟨l, b, by rw [e, List.concat_eq_append]⟩
                  · have HSg := Lib.hid (tk_sign (holes := []) hl hd h34 h96 (fun e => by simp at e))
                    clear hl hd h34 h96 HR
                    generalize bt s k = u at *
                    subst h125
                    simp only [Int.cast_ofNat_Int] at HL HD
                    go_wp2_with (first | (go_at_call 24; (with_reducible refine (HL.out _).mono ?_); rintro e wq ⟨rfl, hwq⟩; obtain rfl := hwq.symm) | (go_at_call 26; (with_reducible refine (HD.out _).mono ?_); rintro e wq ⟨rfl, hwq⟩; obtain rfl := hwq.symm))
                    go_quiet (fail)
                    obtain ⟨w9, hw6⟩ : ∃ q : World, q = (w7).drewN nq := ⟨_, rfl⟩; rw [← hw6]; clear z0 z1 z2 fz0 fz1 fz2 y0 y1 y2 y3 fy0 fy1 fy2 fy3 x0 x1 x2 x3 fx0 fx1 fx2 fx3 ly lx lg; replace rg : Scn w9 g (some ad) s.size c k (.slice A2 (([] : List Bool)).length c2) := (by rw [hw6]; exact rg); replace ry : Row w9 wb.heap.size 29 #[.int .i64 0, .string ⟨#[]⟩, .int .i64 (k : Int), .int .i64 0] := (by rw [hw6]; exact ry); replace rz : Row w9 w.heap.size 29 #[.int .i64 0, .string ⟨#[]⟩, .int .i64 0, .int .i64 0] := (by rw [hw6]; exact rz); replace kp : Kept g (Value.slice A2 (([] : List Bool)).length c2).ownBlock w w9 := (by rw [hw6]; exact kp.drewN _); replace ow : World.ownsRow w9 (g + 1) 4 1 (.slice A2 (([] : List Bool)).length c2) (([] : List Bool)).length ((([] : List Bool)).map .bool) := (by rw [hw6]; exact ow); clear hw6; have z0 := rg.cell 0; have z1 := rg.cell 1; have z2 := rg.cell 2; have fz0 := rg.free 0; have fz1 := rg.free 1; have fz2 := rg.free 2; simp at z0 z1 z2; have y0 := ry.cell 0; have y1 := ry.cell 1; have y2 := ry.cell 2; have y3 := ry.cell 3; have fy0 := ry.free 0; have fy1 := ry.free 1; have fy2 := ry.free 2; have fy3 := ry.free 3; simp at y0 y1 y2 y3; have x0 := rz.cell 0; have x1 := rz.cell 1; have x2 := rz.cell 2; have x3 := rz.cell 3; have fx0 := rz.free 0; have fx1 := rz.free 1; have fx2 := rz.free 2; have fx3 := rz.free 3; simp at x0 x1 x2 x3; have ly := ry.lt; have lx := rz.lt; have lg := rg.lt
                    have hm9 := kp.mx HM.out hg0 (fun e => by have := hge _ e; omega); have hrd9 := kp.rd HN.out (Nat.le_refl _) (by omega) (fun b e => by have := hge _ e; omega); have HW := Lib.hid (sign_any s (some ad) c hs hcap w9 hm9 g hg0 hrd9 k hk1 (([] : List Bool)) hol _ rg ow); have HT := Lib.hid (rfl : tokS s k = tokS s k); unfold tokA at HW; clear HR; generalize tokS s k = tk at *; generalize holesS s k (([] : List Bool)) = hs9 at *; go_wp2_with (go_at_call 30; (with_reducible refine (HW.out).mono ?_); rintro e w8 ⟨rfl, hv9, rg8, ow8, kp8, hob8⟩; obtain ⟨A3, c3, rfl, hc3, _⟩ := rd_own ow8; have ry8 := kp8.row ry (by omega) (fun e => nbb e.symm); have rz8 := kp8.row rz (by omega) (fun e => by have := hlt _ e.symm; omega); have v0 := ry8.cell 0; have v1 := ry8.cell 1; have v2 := ry8.cell 2; have v3 := ry8.cell 3; have fv0 := ry8.free 0; have fv1 := ry8.free 1; have fv2 := ry8.free 2; have fv3 := ry8.free 3; have lv := ry8.lt; simp at v0 v1 v2 v3); go_meet; have nb9 : (Value.slice A3 hs9.length c3).ownBlock ≠ some wb.heap.size := (fun e => by rcases hob8 with q | q; exact nbb (q ▸ e); (have := q _ e; omega)); have kpx := kp.trans kp8 (.inl rfl); exact ⟨tk, hs9, A3, c3, HSg.out, by (unfold tokA; exact Row.put4 ry8), by (repeat (first | with_reducible assumption | with_reducible refine Row.far ?_ (by simp; omega) _)), by (unfold Scn at *; repeat (first | with_reducible assumption | with_reducible refine Row.far ?_ (by simp; omega) _ | with_reducible refine Row.alloc ?_ _ | with_reducible refine Row.drewN ?_ _)), by (repeat (first | with_reducible assumption | with_reducible refine ownsRow_setCell_other ?_ nb9 _ | with_reducible refine World.ownsRow.alloc ?_ _)), by (repeat (first | with_reducible assumption | with_reducible refine Kept.setNew ?_ (by simp; try omega) _ | with_reducible refine Kept.alloc ?_ _ | with_reducible refine Kept.drewN ?_ _)), hob8.imp_right (fun q b e => by have := q b e; omega)⟩
                  · obtain ⟨gb, cap, hvv, _, hgl⟩ := ow.form (by simp)
                    injection hvv with e1 e2 e3
                    subst e1
                    clear e2 e3
                    have cl := ow.cells (g := gb) rfl l.length (.bool b) (by simp)
                    rw [add_row, Nat.zero_add] at cl
                    have hl4 : l.length + 1 ≤ 4000000 := by simp at hol; omega
                    have hlc : l.length + 1 ≤ c2 := by simp at hc2; omega
                    have HL4 := Lib.hid hlc
                    cases b
                    · have HSg := Lib.hid (tk_sign (holes := l ++ [false]) hl hd h34 h96 (fun e => by simp at e))
                      clear hl hd h34 h96 HR
                      generalize bt s k = u at *
                      subst h125
                      simp only [Int.cast_ofNat_Int] at HL HD
                      go_wp2_with (first | (go_at_call 24; (with_reducible refine (HL.out _).mono ?_); rintro e wq ⟨rfl, hwq⟩; obtain rfl := hwq.symm) | (go_at_call 26; (with_reducible refine (HD.out _).mono ?_); rintro e wq ⟨rfl, hwq⟩; obtain rfl := hwq.symm))
                      go_quiet (fail)
                      obtain ⟨w9, hw6⟩ : ∃ q : World, q = (w7).drewN nq := ⟨_, rfl⟩; rw [← hw6]; clear z0 z1 z2 fz0 fz1 fz2 y0 y1 y2 y3 fy0 fy1 fy2 fy3 x0 x1 x2 x3 fx0 fx1 fx2 fx3 ly lx lg; replace rg : Scn w9 g (some ad) s.size c k (.slice (some ⟨gb, 0, none⟩) (l ++ [false]).length c2) := (by rw [hw6]; exact rg); replace ry : Row w9 wb.heap.size 29 #[.int .i64 0, .string ⟨#[]⟩, .int .i64 (k : Int), .int .i64 0] := (by rw [hw6]; exact ry); replace rz : Row w9 w.heap.size 29 #[.int .i64 0, .string ⟨#[]⟩, .int .i64 0, .int .i64 0] := (by rw [hw6]; exact rz); replace kp : Kept g (Value.slice (some ⟨gb, 0, none⟩) (l ++ [false]).length c2).ownBlock w w9 := (by rw [hw6]; exact kp.drewN _); replace ow : World.ownsRow w9 (g + 1) 4 1 (.slice (some ⟨gb, 0, none⟩) (l ++ [false]).length c2) (l ++ [false]).length ((l ++ [false]).map .bool) := (by rw [hw6]; exact ow); clear hw6; have z0 := rg.cell 0; have z1 := rg.cell 1; have z2 := rg.cell 2; have fz0 := rg.free 0; have fz1 := rg.free 1; have fz2 := rg.free 2; simp at z0 z1 z2; have y0 := ry.cell 0; have y1 := ry.cell 1; have y2 := ry.cell 2; have y3 := ry.cell 3; have fy0 := ry.free 0; have fy1 := ry.free 1; have fy2 := ry.free 2; have fy3 := ry.free 3; simp at y0 y1 y2 y3; have x0 := rz.cell 0; have x1 := rz.cell 1; have x2 := rz.cell 2; have x3 := rz.cell 3; have fx0 := rz.free 0; have fx1 := rz.free 1; have fx2 := rz.free 2; have fx3 := rz.free 3; simp at x0 x1 x2 x3; have ly := ry.lt; have lx := rz.lt; have lg := rg.lt
                      have hm9 := kp.mx HM.out hg0 (fun e => by have := hge _ e; omega); have hrd9 := kp.rd HN.out (Nat.le_refl _) (by omega) (fun b e => by have := hge _ e; omega); have HW := Lib.hid (sign_any s (some ad) c hs hcap w9 hm9 g hg0 hrd9 k hk1 (l ++ [false]) hol _ rg ow); have HT := Lib.hid (rfl : tokS s k = tokS s k); unfold tokA at HW; clear HR; generalize tokS s k = tk at *; generalize holesS s k (l ++ [false]) = hs9 at *; go_wp2_with (go_at_call 30; (with_reducible refine (HW.out).mono ?_); rintro e w8 ⟨rfl, hv9, rg8, ow8, kp8, hob8⟩; obtain ⟨A3, c3, rfl, hc3, _⟩ := rd_own ow8; have ry8 := kp8.row ry (by omega) (fun e => nbb e.symm); have rz8 := kp8.row rz (by omega) (fun e => by have := hlt _ e.symm; omega); have v0 := ry8.cell 0; have v1 := ry8.cell 1; have v2 := ry8.cell 2; have v3 := ry8.cell 3; have fv0 := ry8.free 0; have fv1 := ry8.free 1; have fv2 := ry8.free 2; have fv3 := ry8.free 3; have lv := ry8.lt; simp at v0 v1 v2 v3); go_meet; have nb9 : (Value.slice A3 hs9.length c3).ownBlock ≠ some wb.heap.size := (fun e => by rcases hob8 with q | q; exact nbb (q ▸ e); (have := q _ e; omega)); have kpx := kp.trans kp8 (.inl rfl); exact ⟨tk, hs9, A3, c3, HSg.out, by (unfold tokA; exact Row.put4 ry8), by (repeat (first | with_reducible assumption | with_reducible refine Row.far ?_ (by simp; omega) _)), by (unfold Scn at *; repeat (first | with_reducible assumption | with_reducible refine Row.far ?_ (by simp; omega) _ | with_reducible refine Row.alloc ?_ _ | with_reducible refine Row.drewN ?_ _)), by (repeat (first | with_reducible assumption | with_reducible refine ownsRow_setCell_other ?_ nb9 _ | with_reducible refine World.ownsRow.alloc ?_ _)), by (repeat (first | with_reducible assumption | with_reducible refine Kept.setNew ?_ (by simp; try omega) _ | with_reducible refine Kept.alloc ?_ _ | with_reducible refine Kept.drewN ?_ _)), hob8.imp_right (fun q b e => by have := q b e; omega)⟩
                    · have hat := at_hole (holes := l ++ [true]) h125 (by simp)
                      have HP := Lib.hid (fun W (hrd : Rd W g (some ad) s.size (byteC s)) (hgW : g < W.heap.size) (rg : Scn W g (some ad) s.size c k (.slice (some ⟨gb, 0, none⟩) (l ++ [true]).length c2)) => piece_any s (some ad) c hs hcap W (hrd.more (by omega)) g k _ rg hk1 8 7)
                      clear hl hd h34 h96 HR
                      generalize bt s k = u at *
                      subst h125
                      simp only [Int.cast_ofNat_Int] at HL HD
                      go_wp2_with (first | (go_at_call 24; (with_reducible refine (HL.out _).mono ?_); rintro e wq ⟨rfl, hwq⟩; obtain rfl := hwq.symm) | (go_at_call 26; (with_reducible refine (HD.out _).mono ?_); rintro e wq ⟨rfl, hwq⟩; obtain rfl := hwq.symm))
                      go_quiet (fail)
                      obtain ⟨w9, hw6⟩ : ∃ q : World, q = (w7).drewN nq := ⟨_, rfl⟩; rw [← hw6]; clear z0 z1 z2 fz0 fz1 fz2 y0 y1 y2 y3 fy0 fy1 fy2 fy3 x0 x1 x2 x3 fx0 fx1 fx2 fx3 ly lx lg; replace rg : Scn w9 g (some ad) s.size c k (.slice (some ⟨gb, 0, none⟩) (l ++ [true]).length c2) := (by rw [hw6]; exact rg); replace ry : Row w9 wb.heap.size 29 #[.int .i64 0, .string ⟨#[]⟩, .int .i64 (k : Int), .int .i64 0] := (by rw [hw6]; exact ry); replace rz : Row w9 w.heap.size 29 #[.int .i64 0, .string ⟨#[]⟩, .int .i64 0, .int .i64 0] := (by rw [hw6]; exact rz); replace kp : Kept g (Value.slice (some ⟨gb, 0, none⟩) (l ++ [true]).length c2).ownBlock w w9 := (by rw [hw6]; exact kp.drewN _); replace ow : World.ownsRow w9 (g + 1) 4 1 (.slice (some ⟨gb, 0, none⟩) (l ++ [true]).length c2) (l ++ [true]).length ((l ++ [true]).map .bool) := (by rw [hw6]; exact ow); clear hw6; have z0 := rg.cell 0; have z1 := rg.cell 1; have z2 := rg.cell 2; have fz0 := rg.free 0; have fz1 := rg.free 1; have fz2 := rg.free 2; simp at z0 z1 z2; have y0 := ry.cell 0; have y1 := ry.cell 1; have y2 := ry.cell 2; have y3 := ry.cell 3; have fy0 := ry.free 0; have fy1 := ry.free 1; have fy2 := ry.free 2; have fy3 := ry.free 3; simp at y0 y1 y2 y3; have x0 := rz.cell 0; have x1 := rz.cell 1; have x2 := rz.cell 2; have x3 := rz.cell 3; have fx0 := rz.free 0; have fx1 := rz.free 1; have fx2 := rz.free 2; have fx3 := rz.free 3; simp at x0 x1 x2 x3; have ly := ry.lt; have lx := rz.lt; have lg := rg.lt
                      have hrd9 := kp.rd HN.out (Nat.le_refl _) (by omega) (fun b e => by have := hge _ e; omega)
                      have HW := HP.out w9 hrd9 lg rg
                      clear HP
                      cases hp : pieceOf s k with
                      | none =>
                        rw [hp] at hat
                        rw [tokP_no hp] at HW
                        have HS := Lib.hid (TSpec.no (tk := tokZ) hat rfl)
                        unfold tokA tokZ at HW
                        have HW := Lib.hid HW
                        clear hat hp
                        go_wp2_with (go_at_call 29; (with_reducible refine (HW.out).mono ?_); rintro e w8 ⟨rfl, b1⟩; have ry8 := ry.below b1 ly; have rz8 := rz.below b1 lx; have rg8 := Row.below rg b1 lg; have ow8 := own_below ow b1; have kp8 := kp.below_next b1; have gz2 := Row.cell rg8 2; have fgz2 := Row.free rg8 2; simp at gz2; have v0 := ry8.cell 0; have v1 := ry8.cell 1; have v2 := ry8.cell 2; have v3 := ry8.cell 3; have fv0 := ry8.free 0; have fv1 := ry8.free 1; have fv2 := ry8.free 2; have fv3 := ry8.free 3; have lv := ry8.lt; simp at v0 v1 v2 v3)
                        go_meet
                        exact ⟨tokZ, l ++ [true], some ⟨gb, 0, none⟩, c2, HS.out, by (unfold tokA; exact Row.put4 ry8), by (repeat (first | with_reducible assumption | with_reducible refine Row.far ?_ (by simp; omega) _)), by (unfold Scn at *; repeat (first | with_reducible assumption | with_reducible refine Row.far ?_ (by simp; omega) _ | with_reducible refine Row.alloc ?_ _ | with_reducible refine Row.drewN ?_ _)), by (repeat (first | with_reducible assumption | with_reducible refine ownsRow_setCell_other ?_ nbb _ | with_reducible refine World.ownsRow.alloc ?_ _)), by (repeat (first | with_reducible assumption | with_reducible refine Kept.setNew ?_ (by simp; try omega) _ | with_reducible refine Kept.alloc ?_ _ | with_reducible refine Kept.drewN ?_ _)), .inl rfl⟩
                      | some p =>
                        obtain ⟨tx, n, m⟩ := p
                        rw [hp] at hat
                        rw [tokP_yes hp] at HW
                        unfold tokA at HW
                        cases m
                        · have HS := Lib.hid (TSpec.yes (tk := ⟨8, tx, k, n⟩) (by rw [hat]; simp : tokAt s k (l ++ [true]) = some (⟨8, tx, k, n⟩, l)))
                          simp only [↓reduceIte, Bool.false_eq_true] at HW
                          have HW := Lib.hid HW
                          clear hat hp
                          go_wp2_with (go_at_call 29; (with_reducible refine (HW.out).mono ?_); rintro e w8 ⟨rfl, b1⟩; have ry8 := ry.below b1 ly; have rz8 := rz.below b1 lx; have rg8 := Row.below rg b1 lg; have ow8 := own_below ow b1; have kp8 := kp.below_next b1; have gz2 := Row.cell rg8 2; have fgz2 := Row.free rg8 2; simp at gz2; have v0 := ry8.cell 0; have v1 := ry8.cell 1; have v2 := ry8.cell 2; have v3 := ry8.cell 3; have fv0 := ry8.free 0; have fv1 := ry8.free 1; have fv2 := ry8.free 2; have fv3 := ry8.free 3; have lv := ry8.lt; simp at v0 v1 v2 v3)
                          obtain ⟨wc, hwc⟩ : ∃ q : World, q = ((((w8.setCell ⟨wb.heap.size, 0, none⟩ (.int .i64 8)).setCell ⟨wb.heap.size, 1, none⟩ (.string tx)).setCell ⟨wb.heap.size, 2, none⟩ (.int .i64 (k : Int))).setCell ⟨wb.heap.size, 3, none⟩ (.int .i64 (n : Int))) := ⟨_, rfl⟩
                          rw [← hwc]
                          have ry9 : Row wc wb.heap.size 29 #[.int .i64 8, .string tx, .int .i64 (k : Int), .int .i64 (n : Int)] := by rw [hwc]; exact Row.put4 ry8
                          have rz9 : Row wc w.heap.size 29 #[.int .i64 0, .string ⟨#[]⟩, .int .i64 0, .int .i64 0] := by rw [hwc]; exact ((((rz8.far (by simp; omega) _).far (by simp; omega) _).far (by simp; omega) _).far (by simp; omega) _)
                          have rg9 : Scn wc g (some ad) s.size c k (.slice (some ⟨gb, 0, none⟩) (l ++ [true]).length c2) := by rw [hwc]; exact ((((Row.far rg8 (by simp; omega) _).far (by simp; omega) _).far (by simp; omega) _).far (by simp; omega) _)
                          have ow9 : wc.ownsRow (g + 1) 4 1 (.slice (some ⟨gb, 0, none⟩) (l ++ [true]).length c2) (l ++ [true]).length ((l ++ [true]).map .bool) := by rw [hwc]; (repeat (first | with_reducible assumption | with_reducible refine ownsRow_setCell_other ?_ nbb _ | with_reducible refine World.ownsRow.alloc ?_ _))
                          have kp9 : Kept g (Value.slice (some ⟨gb, 0, none⟩) (l ++ [true]).length c2).ownBlock w wc := by rw [hwc]; exact ((((kp8.setNew (by simp; omega) _).setNew (by simp; omega) _).setNew (by simp; omega) _).setNew (by simp; omega) _)
                          clear hwc
                          refine wp_region_still_tail 14 (by kernel_rfl) (by kernel_rfl) ?_
                          simp only [List.take_succ_cons, List.take_zero, List.drop_succ_cons, List.drop_zero]
                          obtain ⟨wd, hwd⟩ : ∃ q : World, q = { wc with drawn := wc.drawn + 1 } := ⟨_, rfl⟩
                          rw [← hwd]
                          replace ry9 : Row wd wb.heap.size 29 #[.int .i64 8, .string tx, .int .i64 (k : Int), .int .i64 (n : Int)] := by rw [hwd]; exact ry9
                          replace rz9 : Row wd w.heap.size 29 #[.int .i64 0, .string ⟨#[]⟩, .int .i64 0, .int .i64 0] := by rw [hwd]; exact rz9
                          replace rg9 : Scn wd g (some ad) s.size c k (.slice (some ⟨gb, 0, none⟩) (l ++ [true]).length c2) := by rw [hwd]; exact rg9
                          replace ow9 : wd.ownsRow (g + 1) 4 1 (.slice (some ⟨gb, 0, none⟩) (l ++ [true]).length c2) (l ++ [true]).length ((l ++ [true]).map .bool) := by rw [hwd]; exact ow9.drew
                          replace kp9 : Kept g (Value.slice (some ⟨gb, 0, none⟩) (l ++ [true]).length c2).ownBlock w wd := by rw [hwd]; exact kp9.drew
                          clear hwd
                          have gc2 := Row.cell rg9 2
                          have gf2 := Row.free rg9 2
                          simp at gc2
                          have hlc2 : (l.length ≤ c2) = True := by simp; omega
                          have hwr : IntKind.i64.wrap (l.length : Int) = (l.length : Int) := by rw [IntKind.wrap_i64]; omega
                          repeat still_step
                          refine wpStill_nil ?_
                          go_wp2
                          go_meet
                          refine ⟨⟨8, tx, k, n⟩, l, some ⟨gb, 0, none⟩, c2, HS.out, ?_, ?_, ?_, ?_, ?_, .inl (ob_len _ _ _ _)⟩
                          · exact ry9.far (by simp; omega) _
                          · exact rz9.far (by simp; omega) _
                          · exact Scn.open rg9 _
                          · have how := own_drop ow9 (m := l.length) (by simp)
                            rw [List.dropLast_concat] at how
                            exact ownsRow_setCell_other how (fun e => by have := own_ge how _ e; simp at this; omega) _
                          · exact Kept.set kp9 rfl _
                        · have HS := Lib.hid (TSpec.yes (tk := ⟨7, tx, k, n⟩) hat)
                          simp only [↓reduceIte] at HW
                          have HW := Lib.hid HW
                          clear hat hp
                          go_wp2_with (go_at_call 29; (with_reducible refine (HW.out).mono ?_); rintro e w8 ⟨rfl, b1⟩; have ry8 := ry.below b1 ly; have rz8 := rz.below b1 lx; have rg8 := Row.below rg b1 lg; have ow8 := own_below ow b1; have kp8 := kp.below_next b1; have gz2 := Row.cell rg8 2; have fgz2 := Row.free rg8 2; simp at gz2; have v0 := ry8.cell 0; have v1 := ry8.cell 1; have v2 := ry8.cell 2; have v3 := ry8.cell 3; have fv0 := ry8.free 0; have fv1 := ry8.free 1; have fv2 := ry8.free 2; have fv3 := ry8.free 3; have lv := ry8.lt; simp at v0 v1 v2 v3)
                          go_meet
                          exact ⟨⟨7, tx, k, n⟩, l ++ [true], some ⟨gb, 0, none⟩, c2, HS.out, by (unfold tokA; exact Row.put4 ry8), by (repeat (first | with_reducible assumption | with_reducible refine Row.far ?_ (by simp; omega) _)), by (unfold Scn at *; repeat (first | with_reducible assumption | with_reducible refine Row.far ?_ (by simp; omega) _ | with_reducible refine Row.alloc ?_ _ | with_reducible refine Row.drewN ?_ _)), by (repeat (first | with_reducible assumption | with_reducible refine ownsRow_setCell_other ?_ nbb _ | with_reducible refine World.ownsRow.alloc ?_ _)), by (repeat (first | with_reducible assumption | with_reducible refine Kept.setNew ?_ (by simp; try omega) _ | with_reducible refine Kept.alloc ?_ _ | with_reducible refine Kept.drewN ?_ _)), .inl rfl⟩
                · have HSg := Lib.hid (tk_sign (holes := holes) hl hd h34 h96 (fun e => h125 e.1))
                  have n34 : ((bt s k : Int) == 34) = false := by simp; omega
                  have n39 : ((bt s k : Int) == 39) = false := by simp; omega
                  have n96 : ((bt s k : Int) == 96) = false := by simp; omega
                  have n125 : ((bt s k : Int) == 125) = false := by simp; omega
                  clear hl hd h34 h96 h125 HR
                  generalize bt s k = u at *
                  go_wp2_with (first | (go_at_call 24; (with_reducible refine (HL.out _).mono ?_); rintro e wq ⟨rfl, hwq⟩; obtain rfl := hwq.symm) | (go_at_call 26; (with_reducible refine (HD.out _).mono ?_); rintro e wq ⟨rfl, hwq⟩; obtain rfl := hwq.symm))
                  go_quiet (fail)
                  obtain ⟨w9, hw6⟩ : ∃ q : World, q = (w7).drewN nq := ⟨_, rfl⟩; rw [← hw6]; clear z0 z1 z2 fz0 fz1 fz2 y0 y1 y2 y3 fy0 fy1 fy2 fy3 x0 x1 x2 x3 fx0 fx1 fx2 fx3 ly lx lg; replace rg : Scn w9 g (some ad) s.size c k (.slice A2 holes.length c2) := (by rw [hw6]; exact rg); replace ry : Row w9 wb.heap.size 29 #[.int .i64 0, .string ⟨#[]⟩, .int .i64 (k : Int), .int .i64 0] := (by rw [hw6]; exact ry); replace rz : Row w9 w.heap.size 29 #[.int .i64 0, .string ⟨#[]⟩, .int .i64 0, .int .i64 0] := (by rw [hw6]; exact rz); replace kp : Kept g (Value.slice A2 holes.length c2).ownBlock w w9 := (by rw [hw6]; exact kp.drewN _); replace ow : World.ownsRow w9 (g + 1) 4 1 (.slice A2 holes.length c2) holes.length (holes.map .bool) := (by rw [hw6]; exact ow); clear hw6; have z0 := rg.cell 0; have z1 := rg.cell 1; have z2 := rg.cell 2; have fz0 := rg.free 0; have fz1 := rg.free 1; have fz2 := rg.free 2; simp at z0 z1 z2; have y0 := ry.cell 0; have y1 := ry.cell 1; have y2 := ry.cell 2; have y3 := ry.cell 3; have fy0 := ry.free 0; have fy1 := ry.free 1; have fy2 := ry.free 2; have fy3 := ry.free 3; simp at y0 y1 y2 y3; have x0 := rz.cell 0; have x1 := rz.cell 1; have x2 := rz.cell 2; have x3 := rz.cell 3; have fx0 := rz.free 0; have fx1 := rz.free 1; have fx2 := rz.free 2; have fx3 := rz.free 3; simp at x0 x1 x2 x3; have ly := ry.lt; have lx := rz.lt; have lg := rg.lt
                  have hm9 := kp.mx HM.out hg0 (fun e => by have := hge _ e; omega); have hrd9 := kp.rd HN.out (Nat.le_refl _) (by omega) (fun b e => by have := hge _ e; omega); have HW := Lib.hid (sign_any s (some ad) c hs hcap w9 hm9 g hg0 hrd9 k hk1 holes hol _ rg ow); have HT := Lib.hid (rfl : tokS s k = tokS s k); unfold tokA at HW; clear HR; generalize tokS s k = tk at *; generalize holesS s k holes = hs9 at *; go_wp2_with (go_at_call 30; (with_reducible refine (HW.out).mono ?_); rintro e w8 ⟨rfl, hv9, rg8, ow8, kp8, hob8⟩; obtain ⟨A3, c3, rfl, hc3, _⟩ := rd_own ow8; have ry8 := kp8.row ry (by omega) (fun e => nbb e.symm); have rz8 := kp8.row rz (by omega) (fun e => by have := hlt _ e.symm; omega); have v0 := ry8.cell 0; have v1 := ry8.cell 1; have v2 := ry8.cell 2; have v3 := ry8.cell 3; have fv0 := ry8.free 0; have fv1 := ry8.free 1; have fv2 := ry8.free 2; have fv3 := ry8.free 3; have lv := ry8.lt; simp at v0 v1 v2 v3); go_meet; have nb9 : (Value.slice A3 hs9.length c3).ownBlock ≠ some wb.heap.size := (fun e => by rcases hob8 with q | q; exact nbb (q ▸ e); (have := q _ e; omega)); have kpx := kp.trans kp8 (.inl rfl); exact ⟨tk, hs9, A3, c3, HSg.out, by (unfold tokA; exact Row.put4 ry8), by (repeat (first | with_reducible assumption | with_reducible refine Row.far ?_ (by simp; omega) _)), by (unfold Scn at *; repeat (first | with_reducible assumption | with_reducible refine Row.far ?_ (by simp; omega) _ | with_reducible refine Row.alloc ?_ _ | with_reducible refine Row.drewN ?_ _)), by (repeat (first | with_reducible assumption | with_reducible refine ownsRow_setCell_other ?_ nb9 _ | with_reducible refine World.ownsRow.alloc ?_ _)), by (repeat (first | with_reducible assumption | with_reducible refine Kept.setNew ?_ (by simp; try omega) _ | with_reducible refine Kept.alloc ?_ _ | with_reducible refine Kept.drewN ?_ _)), hob8.imp_right (fun q b e => by have := q b e; omega)⟩
          · rw [hd] at HD
            have HW := number_any s (some ad) c (by omega) hcap w7 (hrd.more (by omega)) g k _ rg hk1
            have HS := Lib.hid (tk_num (holes := holes) hl hd)
            generalize tokN s k = tk at *
            unfold tokA at HW
            have HW := Lib.hid HW
            clear hl hd HR
            generalize bt s k = u at *
            go_wp2_with (first | (first | (go_at_call 24; (with_reducible refine (HL.out _).mono ?_); rintro e wq ⟨rfl, hwq⟩; obtain rfl := hwq.symm) | (go_at_call 26; (with_reducible refine (HD.out _).mono ?_); rintro e wq ⟨rfl, hwq⟩; obtain rfl := hwq.symm)) | (go_at_call 27; (with_reducible refine (HW.out).mono ?_); rintro e w8 ⟨rfl, b1⟩; have ry8 := ry.below b1 ly; have rz8 := rz.below b1 lx; have rg8 := Row.below rg b1 lg; have ow8 := own_below ow b1; have kp8 := kp.below_next b1; have gz2 := Row.cell rg8 2; have fgz2 := Row.free rg8 2; simp at gz2; have v0 := ry8.cell 0; have v1 := ry8.cell 1; have v2 := ry8.cell 2; have v3 := ry8.cell 3; have fv0 := ry8.free 0; have fv1 := ry8.free 1; have fv2 := ry8.free 2; have fv3 := ry8.free 3; have lv := ry8.lt; simp at v0 v1 v2 v3))
            go_meet
            exact ⟨tk, holes, A2, c2, HS.out, by (unfold tokA; exact Row.put4 ry8), by (repeat (first | with_reducible assumption | with_reducible refine Row.far ?_ (by simp; omega) _)), by (unfold Scn at *; repeat (first | with_reducible assumption | with_reducible refine Row.far ?_ (by simp; omega) _ | with_reducible refine Row.alloc ?_ _ | with_reducible refine Row.drewN ?_ _)), by (repeat (first | with_reducible assumption | with_reducible refine ownsRow_setCell_other ?_ nbb _ | with_reducible refine World.ownsRow.alloc ?_ _)), by (repeat (first | with_reducible assumption | with_reducible refine Kept.setNew ?_ (by simp; try omega) _ | with_reducible refine Kept.alloc ?_ _ | with_reducible refine Kept.drewN ?_ _)), .inl rfl⟩
        · rw [hl] at HL
          have HW := word_any s (some ad) c (by omega) hcap w7 hm7 (hrd.more (by omega)) g k _ rg hk1
          have HS := Lib.hid (tk_word (holes := holes) hl)
          generalize tokW s k = tk at *
          unfold tokA at HW
          have HW := Lib.hid HW
          clear hl HR
          generalize bt s k = u at *
          go_wp2_with (first | (first | (go_at_call 24; (with_reducible refine (HL.out _).mono ?_); rintro e wq ⟨rfl, hwq⟩; obtain rfl := hwq.symm) | (go_at_call 26; (with_reducible refine (HD.out _).mono ?_); rintro e wq ⟨rfl, hwq⟩; obtain rfl := hwq.symm)) | (go_at_call 25; (with_reducible refine (HW.out).mono ?_); rintro e w8 ⟨rfl, b1⟩; have ry8 := ry.below b1 ly; have rz8 := rz.below b1 lx; have rg8 := Row.below rg b1 lg; have ow8 := own_below ow b1; have kp8 := kp.below_next b1; have gz2 := Row.cell rg8 2; have fgz2 := Row.free rg8 2; simp at gz2; have v0 := ry8.cell 0; have v1 := ry8.cell 1; have v2 := ry8.cell 2; have v3 := ry8.cell 3; have fv0 := ry8.free 0; have fv1 := ry8.free 1; have fv2 := ry8.free 2; have fv3 := ry8.free 3; have lv := ry8.lt; simp at v0 v1 v2 v3))
          go_meet
          exact ⟨tk, holes, A2, c2, HS.out, by (unfold tokA; exact Row.put4 ry8), by (repeat (first | with_reducible assumption | with_reducible refine Row.far ?_ (by simp; omega) _)), by (unfold Scn at *; repeat (first | with_reducible assumption | with_reducible refine Row.far ?_ (by simp; omega) _ | with_reducible refine Row.alloc ?_ _ | with_reducible refine Row.drewN ?_ _)), by (repeat (first | with_reducible assumption | with_reducible refine ownsRow_setCell_other ?_ nbb _ | with_reducible refine World.ownsRow.alloc ?_ _)), by (repeat (first | with_reducible assumption | with_reducible refine Kept.setNew ?_ (by simp; try omega) _ | with_reducible refine Kept.alloc ?_ _ | with_reducible refine Kept.drewN ?_ _)), .inl rfl⟩
      case rest =>
        obtain ⟨⟨kd, tx, lo, hi2⟩, holes', A3, c3, hsp, ry, rz, rg, ow, kp, hob⟩ := hcut
        unfold tokA at ry
        clear z0 z1 z2 fz0 fz1 fz2 y0 y1 y2 y3 fy0 fy1 fy2 fy3 x0 x1 x2 x3 fx0 fx1 fx2 fx3 ly lx lg
        clear d1
        have z0 := rg.cell 0; have z1 := rg.cell 1; have z2 := rg.cell 2; have fz0 := rg.free 0; have fz1 := rg.free 1; have fz2 := rg.free 2; simp at z0 z1 z2; have y0 := ry.cell 0; have y1 := ry.cell 1; have y2 := ry.cell 2; have y3 := ry.cell 3; have fy0 := ry.free 0; have fy1 := ry.free 1; have fy2 := ry.free 2; have fy3 := ry.free 3; simp at y0 y1 y2 y3; have x0 := rz.cell 0; have x1 := rz.cell 1; have x2 := rz.cell 2; have x3 := rz.cell 3; have fx0 := rz.free 0; have fx1 := rz.free 1; have fx2 := rz.free 2; have fx3 := rz.free 3; simp at x0 x1 x2 x3; have ly := ry.lt; have lx := rz.lt; have lg := rg.lt
        have nb : (Value.slice A3 holes'.length c3).ownBlock ≠ some w.heap.size := fun e => by
          rcases hob with q | q
          · rw [q] at e; have := hlt _ e; omega
          · have := q _ e; omega
        have nb0 : (Value.slice A3 holes'.length c3).ownBlock ≠ some g := fun e => by have := own_ge ow _ e; omega
        have hob2 : (Value.slice A3 holes'.length c3).ownBlock = (Value.slice A2 holes.length c2).ownBlock ∨ ∀ b, (Value.slice A3 holes'.length c3).ownBlock = some b → w.heap.size ≤ b := hob.imp_right fun q b e => by have := q b e; omega
        clear hob
        unfold TSpec at hsp
        cases ht : tokAt s k holes with
        | none =>
          rw [ht] at hsp
          obtain ⟨hk0, rfl⟩ := hsp
          obtain rfl : kd = 0 := hk0
          have HX := Lib.hid (show nextR s i holes' = (⟨0, ⟨#[]⟩, k, 0⟩, false, k, holes') by rw [HR.out, ht])
          clear ht
          go_wp2_with fail
          refine bodyPost_ret (v := .tuple #[.agg (tokA ⟨0, ⟨#[]⟩, k, 0⟩), .bool false]) (by simp [results, Tryd.results17, go_sem, tokA, *]) rfl ⟨by rw [HX.out], ?_⟩
          rw [HX.out]
          exact ⟨_, by (unfold Scn at *; repeat (first | with_reducible assumption | with_reducible refine Row.far ?_ (by simp; omega) _ | with_reducible refine Row.alloc ?_ _ | with_reducible refine Row.drewN ?_ _)), by (repeat (first | with_reducible assumption | with_reducible refine ownsRow_setCell_other ?_ nb _ | with_reducible refine World.ownsRow.alloc ?_ _)), by (repeat (first | with_reducible assumption | with_reducible refine Kept.setNew ?_ (by simp; try omega) _ | with_reducible refine Kept.alloc ?_ _ | with_reducible refine Kept.drewN ?_ _)), hob2⟩
        | some p =>
          obtain ⟨t, h⟩ := p
          rw [ht] at hsp
          obtain ⟨rfl, rfl⟩ := hsp
          have hkn : (kd == 0) = false := by have := tokAt_kind0 ht; simpa using this
          have HX := Lib.hid (show nextR s i holes = (⟨kd, tx, lo, hi2⟩, true, hi2, holes') by rw [HR.out, ht])
          clear ht
          go_wp2_with fail
          refine bodyPost_ret (v := .tuple #[.agg (tokA ⟨kd, tx, lo, hi2⟩), .bool true]) (by simp [results, Tryd.results17, go_sem, tokA, *]) rfl ⟨by rw [HX.out], ?_⟩
          rw [HX.out]
          have rg9 := Scn.set rg hi2
          have kp9 := Kept.set kp (p := ⟨g, 1, none⟩) rfl (.int .i64 (hi2 : Int))
          exact ⟨_, by (unfold Scn at *; repeat (first | with_reducible assumption | with_reducible refine Row.far ?_ (by simp; omega) _ | with_reducible refine Row.alloc ?_ _ | with_reducible refine Row.drewN ?_ _)), by (repeat (first | with_reducible assumption | with_reducible refine ownsRow_setCell_other ?_ nb _ | with_reducible refine ownsRow_setCell_other ?_ nb0 _)), by (repeat (first | with_reducible assumption | with_reducible refine Kept.setNew ?_ (by simp; try omega) _ | with_reducible refine Kept.alloc ?_ _ | with_reducible refine Kept.drewN ?_ _)), hob2⟩
end Go.Proofs.YtdlppdoankeilaaDoor
