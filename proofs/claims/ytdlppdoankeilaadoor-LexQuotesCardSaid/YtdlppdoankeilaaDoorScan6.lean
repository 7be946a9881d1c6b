/- The walks of chapter 2's scanner: quoted. -/
import Derived.Test.YtdlppdoankeilaaDoorScan5
import Derived.WalkMore
namespace Go.Proofs.YtdlppdoankeilaaDoor
set_option linter.unusedVariables false
set_option linter.unusedSimpArgs false
set_option linter.unnecessarySimpa false
open Go.RowKit
attribute [local go_sem] cell_alloc_add cell_set_add lt_more
theorem own_text {W : World} {base : Nat} {v : Value} {t : ByteArray} (h : W.ownsRow base 5 1 v t.size (Lib.strCells t)) : (convert 26 9 v).run Tryd.prog W = .ok (.string t) W := by
  obtain ⟨A, c, rfl, hc, hr⟩ := rd_own h
  refine run_string_of 26 9 5 c Tryd.underlying26 Tryd.underlying5 Tryd.underlying9 (hr (byteC t) fun j hj => ?_)
  unfold Lib.strCells byteC
  rw [data_at hj, List.getElem?_map, List.getElem?_eq_getElem (by simpa using hj)]
  rfl
/-- The text in quotes that begins here (kind 0: none). -/
def tokQ (s : ByteArray) (i : Nat) : Tok := match quotedOf s i with
  | some (t, n) => ⟨4, t, i, n⟩
  | none => tokZ
theorem tokQ_no {s : ByteArray} {i : Nat} (h : quotedOf s i = none) : tokQ s i = tokZ := by unfold tokQ; rw [h]
set_option maxRecDepth 100000 in
set_option maxHeartbeats 8000000 in
theorem quoted_any (s : ByteArray) (A : Option Addr) (c : Nat) (hs : s.size ≤ 1000000) (hcap : s.size ≤ c) (w : World) (h : Rd w w.heap.size A s.size (byteC s)) (g i : Nat) (hv : Value) (hg : Scn w g A s.size c i hv) (hi : i < s.size) :
    Calls Tryd.prog 28 #[.pointer (some ⟨g, 0, none⟩), .int .u8 (bt s i : Int)] w fun e w' => e = .returned (.agg (tokA (tokQ s i))) ∧ Below w.heap.size w w' := by
  have HN := Lib.hid h
  obtain ⟨ad, rfl, hadB, ci⟩ := h i hi
  clear ci
  have lz := hg.lt
  have z0 := hg.cell 0
  have z1 := hg.cell 1
  have fz0 := hg.free 0
  have fz1 := hg.free 1
  simp at z0 z1
  go_enter Tryd.func28, Tryd.ntmps28
  go_wp2
  go_step3
  go_wp2
  go_step3
  go_upto_block 0 with (fail)
  obtain ⟨wo, hwo⟩ : ∃ wo : World, wo = w.alloc (.cells #[.int .i64 0, .string ⟨#[]⟩, .int .i64 0, .int .i64 0] 29) := ⟨_, rfl⟩
  rw [← hwo]
  have rz : Row wo w.heap.size 29 #[.int .i64 0, .string ⟨#[]⟩, .int .i64 0, .int .i64 0] := by rw [hwo]; exact row_new rfl
  have hbr : Below w.heap.size w wo := by rw [hwo]; (repeat (first | (with_reducible exact Below.refl _ _) | (with_reducible assumption) | (with_reducible refine Below.setCell ?_ (by first | omega | (simp <;> omega)) _) | (with_reducible refine Below.alloc ?_ (by first | omega | (simp <;> omega)) _) | (with_reducible refine Below.drew ?_) | (with_reducible refine below_drewN ?_ _) | (with_reducible refine Below.trans ?_ (Below.mono (by with_reducible assumption) (by first | omega | (simp <;> omega))))))
  have hzo : wo.heap.size = w.heap.size + 1 := by rw [hwo]; simp
  clear hwo z0 z1 fz0 fz1
  go_cut [5, 7] (fun o x wx => ∃ (k : Nat) (acc : ByteArray), x = .int .i64 k ∧ i < k ∧ k ≤ s.size ∧ Below (w.heap.size + 1) wo wx ∧ wx.ownsRow (w.heap.size + 1) 5 1 o acc.size (Lib.strCells acc) ∧ acc.size ≤ 4 * k ∧ quotedOf s i = (if k < s.size then some (acc, k + 1) else none))
  case first =>
    go_wp2_with fail
    go_loopw [5, 6, 7] (fun o y x wr => ∃ (k : Nat) (acc : ByteArray), i + 1 ≤ k ∧ k ≤ s.size ∧ x = .int .i64 k ∧ y = .bool true ∧ Below (w.heap.size + 1) wo wr ∧ wr.ownsRow (w.heap.size + 1) 5 1 o acc.size (Lib.strCells acc) ∧ acc.size ≤ 4 * k ∧ quotedOf s i = quotedGo s (bt s i) k acc) (fun _ _ x _ => s.size - (intOf x).toNat)
    case atStart => exact ⟨i + 1, ⟨#[]⟩, Nat.le_refl _, by omega, by go_num, rfl, Below.refl _ _, World.ownsRow_nil _ _ _ _, Nat.zero_le _, rfl⟩
    case round =>
      obtain ⟨k, acc, hik, hk, rfl, rfl, hb, hown, hac, hq⟩ := hrel
      have HQ := Lib.hid hq
      clear hq
      have hbw : Below w.heap.size w wr := (by (repeat (first | (with_reducible exact Below.refl _ _) | (with_reducible assumption) | (with_reducible refine Below.setCell ?_ (by first | omega | (simp <;> omega)) _) | (with_reducible refine Below.alloc ?_ (by first | omega | (simp <;> omega)) _) | (with_reducible refine Below.drew ?_) | (with_reducible refine below_drewN ?_ _) | (with_reducible refine Below.trans ?_ (Below.mono (by with_reducible assumption) (by first | omega | (simp <;> omega)))))))
      have hzr := Below.size hb
      have rg := Row.below hg hbw lz
      have z0 := rg.cell 0
      have z1 := rg.cell 1
      have fz0 := rg.free 0
      have fz1 := rg.free 1
      simp at z0 z1
      have ry := rz.below hb (by omega)
      have y0 := ry.cell 0; have y1 := ry.cell 1; have y2 := ry.cell 2; have y3 := ry.cell 3; have fy0 := ry.free 0; have fy1 := ry.free 1; have fy2 := ry.free 2; have fy3 := ry.free 3; have ly := ry.lt
      by_cases hks : k < s.size
      · obtain ⟨ad2, e2, _, c1⟩ := HN.out k hks
        obtain rfl : ad = ad2 := by injection e2
        clear e2
        unfold byteC at c1
        have d1 := (hbw.cell (p := ad.add k) (by rw [block_add]; omega)).trans c1
        clear c1
        by_cases hcl : bt s k = bt s i
        · have HX := Lib.hid (HQ.out.trans (quotedGo_close hks hcl))
          rw [hcl] at d1
          generalize bt s i = q at *
          go_wp2_with fail
          go_meet
          exact ⟨k, acc, rfl, by omega, hk, hb, hown, hac, by rw [if_pos hks]; exact HX.out⟩
        · have enq : ((bt s k : Int) == (bt s i : Int)) = false := by simp; omega
          by_cases hnl : bt s k = 10 ∨ bt s k = 13
          · have HX := Lib.hid (tokQ_no (HQ.out.trans (quotedGo_line hks hcl hnl)))
            clear hcl
            rcases hnl with g1 | g1
            all_goals
              rw [g1] at d1 enq
              clear g1
              generalize bt s i = q at *
              go_wp2_with fail
              (try rw [Exit.noGoto_ret]); exact bodyPost_ret (v := .agg (tokA tokZ)) (by simp [results, Tryd.results28, go_sem, tokA, tokZ, *]) rfl ⟨by rw [HX.out], (by (repeat (first | (with_reducible exact Below.refl _ _) | (with_reducible assumption) | (with_reducible refine Below.setCell ?_ (by first | omega | (simp <;> omega)) _) | (with_reducible refine Below.alloc ?_ (by first | omega | (simp <;> omega)) _) | (with_reducible refine Below.drew ?_) | (with_reducible refine below_drewN ?_ _) | (with_reducible refine Below.trans ?_ (Below.mono (by with_reducible assumption) (by first | omega | (simp <;> omega)))))))⟩
          · have en1 : ((bt s k : Int) == 10) = false := by simp; omega
            have en2 : ((bt s k : Int) == 13) = false := by simp; omega
            have HR := rune1_any s (some ad) c (by omega) hcap wr (base := w.heap.size + 1) (by omega) ((HN.out.below hbw).more (by omega)) g i (by omega) hv rg k hks acc (by omega) u5 hown
            cases hone : one s k with
            | none =>
              rw [hone] at HR
              simp only [RPost] at HR
              have HR := Lib.hid HR
              have HX := Lib.hid (tokQ_no (HQ.out.trans (quotedGo_bad hks hcl hone)))
              clear hcl hnl hone
              generalize bt s i = q at *
              generalize bt s k = u at *
              go_wp2_with (go_at_call 44; (with_reducible refine (HR.out).mono ?_); rintro e wb1 ⟨⟨kk, vv, rfl⟩, b1⟩; have zb1 := Below.size b1; have ry1 := ry.below b1 (by omega); have x0 := ry1.cell 0; have x1 := ry1.cell 1; have x2 := ry1.cell 2; have x3 := ry1.cell 3; have fx0 := ry1.free 0; have fx1 := ry1.free 1; have fx2 := ry1.free 2; have fx3 := ry1.free 3; have lx := ry1.lt)
              (try rw [Exit.noGoto_ret]); exact bodyPost_ret (v := .agg (tokA tokZ)) (by simp [results, Tryd.results28, go_sem, tokA, tokZ, *]) rfl ⟨by rw [HX.out], (by (repeat (first | (with_reducible exact Below.refl _ _) | (with_reducible assumption) | (with_reducible refine Below.setCell ?_ (by first | omega | (simp <;> omega)) _) | (with_reducible refine Below.alloc ?_ (by first | omega | (simp <;> omega)) _) | (with_reducible refine Below.drew ?_) | (with_reducible refine below_drewN ?_ _) | (with_reducible refine Below.trans ?_ (Below.mono (by with_reducible assumption) (by first | omega | (simp <;> omega)))))))⟩
            | some p =>
              obtain ⟨t, n⟩ := p
              rw [hone] at HR
              simp only [RPost] at HR
              have HR := Lib.hid HR
              have HX := Lib.hid (HQ.out.trans (quotedGo_step hks hcl hnl hone))
              have hbd := one_bd hks hone
              have hlen := one_len hone
              clear hcl hnl hone
              generalize bt s i = q at *
              generalize bt s k = u at *
              go_wp2_with (go_at_call 44; (with_reducible refine (HR.out).mono ?_); rintro e wb1 ⟨⟨vv, rfl, hown2⟩, b1⟩; have zb1 := Below.size b1; have ry1 := ry.below b1 (by omega); have x0 := ry1.cell 0; have x1 := ry1.cell 1; have x2 := ry1.cell 2; have x3 := ry1.cell 3; have fx0 := ry1.free 0; have fx1 := ry1.free 1; have fx2 := ry1.free 2; have fx3 := ry1.free 3; have lx := ry1.lt)
              exact ⟨⟨n, acc ++ t, by omega, hbd.2, rfl, rfl, hb.trans b1, hown2, by rw [ByteArray.size_append]; omega, HX.out⟩, by simp [intOf]; omega⟩
      · have HX := Lib.hid (HQ.out.trans (quotedGo_end hks))
        go_wp2_with fail
        go_meet
        exact ⟨k, acc, rfl, by omega, hk, hb, hown, hac, by rw [if_neg hks]; exact HX.out⟩
  case rest =>
    obtain ⟨k, acc, rfl, hik, hk, hb, hown, hac, hq⟩ := hcut
    have hbw : Below w.heap.size w wc := (by (repeat (first | (with_reducible exact Below.refl _ _) | (with_reducible assumption) | (with_reducible refine Below.setCell ?_ (by first | omega | (simp <;> omega)) _) | (with_reducible refine Below.alloc ?_ (by first | omega | (simp <;> omega)) _) | (with_reducible refine Below.drew ?_) | (with_reducible refine below_drewN ?_ _) | (with_reducible refine Below.trans ?_ (Below.mono (by with_reducible assumption) (by first | omega | (simp <;> omega)))))))
    have hzr := Below.size hb
    have rg := Row.below hg hbw lz
    have z0 := rg.cell 0
    have z1 := rg.cell 1
    have fz0 := rg.free 0
    have fz1 := rg.free 1
    simp at z0 z1
    have ry := rz.below hb (by omega)
    have y0 := ry.cell 0; have y1 := ry.cell 1; have y2 := ry.cell 2; have y3 := ry.cell 3; have fy0 := ry.free 0; have fy1 := ry.free 1; have fy2 := ry.free 2; have fy3 := ry.free 3; have ly := ry.lt
    by_cases hks : k < s.size
    · rw [if_pos hks] at hq
      have HT := Lib.hid (show tokQ s i = ⟨4, acc, i, k + 1⟩ by unfold tokQ; rw [hq])
      clear hq
      go_wp2_with fail
      refine wp_region_still_tail 9 (by kernel_rfl) (by kernel_rfl) ?_; simp only [List.take_succ_cons, List.take_zero, List.drop_succ_cons, List.drop_zero]; obtain ⟨wd, hwd⟩ : ∃ wd : World, wd = { wc with drawn := wc.drawn + 1 } := ⟨_, rfl⟩; rw [← hwd]; have kc := own_text (W := wd) (by rw [hwd]; exact hown.drew); replace rg : Scn wd g (some ad) s.size c i hv := (by rw [hwd]; exact rg); replace ry : Row wd w.heap.size 29 #[.int .i64 0, .string ⟨#[]⟩, .int .i64 0, .int .i64 0] := (by rw [hwd]; exact ry); replace hbw : Below w.heap.size w wd := (by rw [hwd]; exact hbw.drew); clear hwd; clear y0 y1 y2 y3 fy0 fy1 fy2 fy3 ly z0 z1 fz0 fz1; have z0 := rg.cell 0; have z1 := rg.cell 1; have fz0 := rg.free 0; have fz1 := rg.free 1; simp at z0 z1; have y0 := ry.cell 0; have y1 := ry.cell 1; have y2 := ry.cell 2; have y3 := ry.cell 3; have fy0 := ry.free 0; have fy1 := ry.free 1; have fy2 := ry.free 2; have fy3 := ry.free 3; have ly := ry.lt; repeat still_step
      refine wpStill_nil ?_
      go_wp2
      (try rw [Exit.noGoto_ret]); exact bodyPost_ret (v := .agg (tokA ⟨4, acc, i, k + 1⟩)) (by simp [results, Tryd.results28, go_sem, tokA, *]) rfl ⟨by rw [HT.out], (by (repeat (first | (with_reducible exact Below.refl _ _) | (with_reducible assumption) | (with_reducible refine Below.setCell ?_ (by first | omega | (simp <;> omega)) _) | (with_reducible refine Below.alloc ?_ (by first | omega | (simp <;> omega)) _) | (with_reducible refine Below.drew ?_) | (with_reducible refine below_drewN ?_ _) | (with_reducible refine Below.trans ?_ (Below.mono (by with_reducible assumption) (by first | omega | (simp <;> omega)))))))⟩
    · rw [if_neg hks] at hq
      have HX := Lib.hid (tokQ_no hq)
      clear hq
      go_wp2_with fail
      (try rw [Exit.noGoto_ret]); exact bodyPost_ret (v := .agg (tokA tokZ)) (by simp [results, Tryd.results28, go_sem, tokA, tokZ, *]) rfl ⟨by rw [HX.out], (by (repeat (first | (with_reducible exact Below.refl _ _) | (with_reducible assumption) | (with_reducible refine Below.setCell ?_ (by first | omega | (simp <;> omega)) _) | (with_reducible refine Below.alloc ?_ (by first | omega | (simp <;> omega)) _) | (with_reducible refine Below.drew ?_) | (with_reducible refine below_drewN ?_ _) | (with_reducible refine Below.trans ?_ (Below.mono (by with_reducible assumption) (by first | omega | (simp <;> omega)))))))⟩
end Go.Proofs.YtdlppdoankeilaaDoor
