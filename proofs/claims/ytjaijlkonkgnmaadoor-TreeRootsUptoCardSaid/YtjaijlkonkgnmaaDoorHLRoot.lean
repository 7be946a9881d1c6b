/- The walk of chapter 3's law TreeRoots. -/
import Derived.Test.YtjaijlkonkgnmaaDoorHBL
import Derived.Test.YtjaijlkonkgnmaaDoorHBX
namespace Go.Proofs.YtjaijlkonkgnmaaDoor
set_option linter.unusedVariables false
set_option linter.unusedSimpArgs false
set_option linter.unnecessarySimpa false
open Go.RowKit
attribute [local go_sem] cell_alloc_add cell_set_add lt_more
set_option maxRecDepth 100000 in
set_option maxHeartbeats 16000000 in
theorem TreeRoots_any (y : Nd) (S0 : Option Addr) (kc0 : Nat) (hkc : y.ks.length ≤ kc0) (hkm : kc0 ≤ maxLen) (hym : wideY y) (hyx : y.x.size ≤ 4000000) (Ls : List (List Nd)) (N : Nat) (hN : Ls.length = N) (K : Option Addr) (c : Nat) (hc : N ≤ c) (hm : c ≤ maxLen) (hfine : Fine Ls) (w : World) (h : Forest w w.heap.size K Ls) (hmx : Mx w) (hw00 : 0 < w.heap.size) :
    Calls Tryd.prog 4 #[.agg #[.int .i64 y.k, .string y.x, .int .i64 y.m, .slice S0 y.ks.length kc0, .int .i64 y.p], .slice K N c] w fun e w' => e = .returned (.bool true) ∧ Below w.heap.size w w' := by
  have hF := Lib.hid h
  have HN := Lib.hid hN
  have HFI := Lib.hid hfine
  have hX := Lib.hid hmx
  have hm2 := Lib.hid hm
  have hYM := Lib.hid hym
  clear h hN hfine hmx hym
  unfold maxLen at hm hkm
  obtain ⟨wa, hwa⟩ : ∃ wa : World, wa = w.alloc (.cells #[.int .i64 y.k, .string y.x, .int .i64 y.m, .slice S0 y.ks.length kc0, .int .i64 y.p] 24) := ⟨_, rfl⟩
  have bA : Below w.heap.size w wa := by rw [hwa]; exact (by (repeat (first | (with_reducible exact Below.refl _ _) | (with_reducible assumption) | (with_reducible refine Below.setCell ?_ (by first | omega | (simp <;> omega)) _) | (with_reducible refine Below.alloc ?_ (by first | omega | (simp <;> omega)) _) | (with_reducible refine Below.drew ?_) | (with_reducible refine below_drewN ?_ _) | (with_reducible refine Below.trans ?_ (Below.mono (by with_reducible assumption) (by first | omega | (simp <;> omega)))))))
  have rY : Row wa w.heap.size 24 #[.int .i64 y.k, .string y.x, .int .i64 y.m, .slice S0 y.ks.length kc0, .int .i64 y.p] := by rw [hwa]; exact row_new rfl
  have lY := rY.lt
  have y0 := rY.cell 0
  have y1 := rY.cell 1
  have y2 := rY.cell 2
  have y3 := rY.cell 3
  have y4 := rY.cell 4
  simp at y0 y1 y2 y3 y4
  by_cases hN6 : N ≤ 6
  · have hN6' : ¬ ((6 : Int) < (N : Int)) := by omega
    by_cases hyk : y.ks.length ≤ 3000
    · have hyk' : ¬ ((3000 : Int) < (y.ks.length : Int)) := by omega
      go_enter Tryd.func4, Tryd.ntmps4
      go_upto_region 1 with fail
      rw [← hwa]
      clear hwa
      go_wp2
      go_loopw [5] (fun t wr => ∃ q : Nat, q ≤ N ∧ t = .int .i64 (q : Int) ∧ Hid (∀ l ∈ Ls.take q, GoodT l ∧ wt l ≤ 3000) ∧ Row wr w.heap.size 24 #[.int .i64 y.k, .string y.x, .int .i64 y.m, .slice S0 y.ks.length kc0, .int .i64 y.p] ∧ Below w.heap.size w wr) (fun t _ => N - (intOf t).toNat)
      case atStart => exact ⟨0, Nat.zero_le _, rfl, Lib.hid (fun l hl => by simp at hl), rY, bA⟩
      case round =>
        obtain ⟨q, hq, rfl, HG, hrY, hb⟩ := hrel
        clear rY y0 y1 y2 y3 y4 lY
        generalize hwo : wr = wo at *
        clear hwo
        have hz := Below.size hb
        have lY := hrY.lt
        by_cases hlt : q < N
        · have hqL : q < Ls.length := by rw [HN.out]; exact hlt
          obtain ⟨ad, A, c1, rfl, hab, hcell, hl1, hl2, hTr⟩ := hF.out q hqL
          have hcw : wo.cell? (ad.add q) = some (.slice A (Ls.getD q []).length c1) := (hb.cell (by rw [block_add]; exact hab)).trans hcell
          have HTK := Lib.hid (take_L hqL)
          have hf1 := HFI.out.len q hqL
          have hf2 := HFI.out.txt q hqL
          have hf3 := HFI.out.kid q hqL
          have HC := Lib.hid (fun W (hb2 : Below w.heap.size w W) => Check_any A (Ls.getD q []) c1 hl1 hl2 (by omega) hf2 W ((hTr.below hb2).more hb2.size) (hX.out.below hb2 hw00) (by have := Below.size hb2; omega))
          have HGR := Lib.hid (fun W (hb2 : Below w.heap.size w W) => great_any A (Ls.getD q []) c1 hl1 hl2 (fun j => ⟨by have := hf3 j; omega, by have := hf2 j; omega⟩) W ((hTr.below hb2).more hb2.size))
          have HGI := Lib.hid (good_iff (L := Ls.getD q []))
          clear hf2 hf3 hTr hcell
          unfold maxLen at hl2
          generalize Ls.getD q [] = Lq at *
          rcases hR : chk Lq with ⟨ra, re⟩
          rw [hR] at HC HGI
          simp only at HC HGI
          clear hR
          by_cases hgr : 3000 < wt Lq
          · rw [decide_eq_true hgr] at HGR
            go_wp2_with (first
              | (go_at_call 16; (with_reducible refine (HC.out _ hb).mono ?_); rintro e w1 ⟨rfl, b1⟩; have q1 := hb.trans (b1.mono hz); have cc1 := (b1.cell (World.block_lt_of_cell? wo _ hcw)).trans hcw)
              | (go_at_call 8; (with_reducible refine (HGR.out _ q1).mono ?_); rintro e w2 ⟨rfl, b2⟩; have q2 := q1.trans (b2.mono q1.size))
              | (go_at_call 15; (with_reducible refine (known_any _ (hX.out.below (B := w.heap.size) q2 hw00) (by have := Below.size q2; omega)).mono ?_); rintro e wk ⟨rfl, bk⟩)
              | fail)
            go_ret
            exact ⟨rfl, q2.trans (bk.mono q2.size)⟩
          · rw [decide_eq_false hgr] at HGR
            by_cases he : re = 0
            · subst he
              have HGT := Lib.hid (HGI.out.1 rfl)
              go_wp2_with (first
                | (go_at_call 16; (with_reducible refine (HC.out _ hb).mono ?_); rintro e w1 ⟨rfl, b1⟩; have q1 := hb.trans (b1.mono hz); have cc1 := (b1.cell (World.block_lt_of_cell? wo _ hcw)).trans hcw; have z1 := Below.size b1; have r1 := hrY.below b1 lY)
                | (go_at_call 8; (with_reducible refine (HGR.out _ q1).mono ?_); rintro e w2 ⟨rfl, b2⟩; have q2 := q1.trans (b2.mono q1.size); have r2 := r1.below b2 r1.lt)
                | fail)
              refine ⟨⟨q + 1, by omega, by go_num, ?_, r2, q2⟩, by simp [intOf]; omega⟩
              refine Lib.hid (fun l hl => ?_)
              rw [HTK.out] at hl
              rcases List.mem_append.1 hl with hl | hl
              · exact HG.out l hl
              · simp at hl; subst hl; exact ⟨HGT.out, by omega⟩
            · have hre : (re != 0) = true := by simpa using he
              go_wp2_with (first
                | (go_at_call 16; (with_reducible refine (HC.out _ hb).mono ?_); rintro e w1 ⟨rfl, b1⟩; have q1 := hb.trans (b1.mono hz); have cc1 := (b1.cell (World.block_lt_of_cell? wo _ hcw)).trans hcw)
                | (go_at_call 8; (with_reducible refine (HGR.out _ q1).mono ?_); rintro e w2 ⟨rfl, b2⟩; have q2 := q1.trans (b2.mono q1.size))
                | (go_at_call 15; (with_reducible refine (known_any _ (hX.out.below (B := w.heap.size) q2 hw00) (by have := Below.size q2; omega)).mono ?_); rintro e wk ⟨rfl, bk⟩)
                | fail)
              go_ret
              exact ⟨rfl, q2.trans (bk.mono q2.size)⟩
        · obtain rfl : q = N := by omega
          have hG := HG.out
          rw [List.take_of_length_le (by rw [HN.out]; exact Nat.le_refl _)] at hG
          have hs : sumL Ls ≤ 18000 := by
            have := sumL_le (n := 3000) Ls (fun l hl => by have := (hG l hl).2; have := wt_len l; omega)
            rw [HN.out] at this
            omega
          have hg : ∀ l ∈ Ls, GoodT l := fun l hl => (hG l hl).1
          have hXL := mkL_len (y := y) (fun l hl => good_pos (hg l hl))
          have hXC := mk_chk (y := y) hg (by omega)
          have hXT := mk_text (y := y) (n := 4000000) hg hyx (fun l hl j => by have := (hG l hl).2; have := wt_nd l j; omega)
          have HMK := Lib.hid (Make_any y S0 y.ks.length kc0 Ls q HN.out K c hc hm2.out (by omega) (by omega) (fun i hi => HFI.out.kid i (by rw [HN.out]; exact hi)) hYM.out.1 wo (hF.out.later hb))
          generalize hXX : mkL y Ls = X at *
          clear hXX hG hg HG
          generalize hSS : sumL Ls = S at *
          clear hSS
          have y0 := hrY.cell 0
          have y1 := hrY.cell 1
          have y2 := hrY.cell 2
          have y3 := hrY.cell 3
          have y4 := hrY.cell 4
          simp at y0 y1 y2 y3 y4
          go_upto_region 10 with (go_at_call 10; (with_reducible refine HMK.out.mono ?_); rintro e w1 ⟨⟨v, l, rfl, hO, hl⟩, b1⟩; obtain ⟨A, c2, hv, hc2, hm3, hT⟩ := hO.tree; subst hv)
          have hlen : l.length = S + 1 := by have := congrArg List.length hl; rw [hXL] at this; simpa using this
          rw [hl] at hT
          rw [hlen] at hc2
          simp only [hlen]
          have q1 := hb.trans (b1.mono hz)
          have z1 := Below.size q1
          have bx : Below w.heap.size w (w1.alloc (.cells #[.slice A (S + 1) c2] 29)) := q1.alloc (by omega) _
          have hT2 : TreeAt (w1.alloc (.cells #[.slice A (S + 1) c2] 29)) (w1.alloc (.cells #[.slice A (S + 1) c2] 29)).heap.size A X := hT.later ((Below.refl _ _).alloc (Nat.le_refl _) _)
          have HC := Check_any A X c2 (by rw [hXL]; exact hc2) hm3 (by omega) hXT _ hT2 (hX.out.below bx hw00) (by simp)
          rw [hXL] at HC
          have HC := Lib.hid HC
          have HD := Lib.hid (fun W (hb : Below (w1.alloc (.cells #[.slice A (S + 1) c2] 29)).heap.size (w1.alloc (.cells #[.slice A (S + 1) c2] 29)) W) => by
            have := rGoodT_any A X c2 (by rw [hXL]; exact hc2) hm3 (by omega) (fun j => by have := hXT j; omega) W (hT2.later hb)
            rw [hXL] at this
            exact this)
          have HGD := Lib.hid (show goodT X = decide ((chk X).2 = 0) from rfl)
          clear HMK hT hT2 hO hl hXL hXT
          rcases hXC with hXC | hXC
          all_goals
            rw [hXC] at HC HGD
            generalize goodT X = gd at *
            have hgd := HGD.out
            simp at hgd
            subst hgd
            go_wp2_with (first
              | (go_at_call 16; (with_reducible refine HC.out.mono ?_); rintro e w2 ⟨rfl, b2⟩; have x2 : w2.cell? ⟨w1.heap.size, 0, none⟩ = some (.slice A (S + 1) c2) := (b2.cell (p := ⟨w1.heap.size, 0, none⟩) (by simp)).trans (by simp [World.cell?_alloc_mark]); have q2 := bx.trans (b2.mono bx.size))
              | (go_at_call 17; (with_reducible refine (HD.out w2 b2).mono ?_); rintro e w3 ⟨rfl, b3⟩; have q3 := bx.trans ((b2.trans (b3.mono b2.size)).mono bx.size))
              | (go_at_call 15; (with_reducible refine (known_any _ (hX.out.below (B := w.heap.size) q3 hw00) (by have := Below.size q3; omega)).mono ?_); rintro e wk ⟨rfl, bk⟩)
              | fail)
            go_ret
            exact ⟨rfl, q3.trans (bk.mono q3.size)⟩
    · have hyk' : (3000 : Int) < (y.ks.length : Int) := by omega
      go_enter Tryd.func4, Tryd.ntmps4
      go_upto_region 1 with fail
      rw [← hwa]
      clear hwa
      go_wp2
      go_ret
      exact ⟨rfl, (by (repeat (first | (with_reducible exact Below.refl _ _) | (with_reducible assumption) | (with_reducible refine Below.setCell ?_ (by first | omega | (simp <;> omega)) _) | (with_reducible refine Below.alloc ?_ (by first | omega | (simp <;> omega)) _) | (with_reducible refine Below.drew ?_) | (with_reducible refine below_drewN ?_ _) | (with_reducible refine Below.trans ?_ (Below.mono (by with_reducible assumption) (by first | omega | (simp <;> omega)))))))⟩
  · have hN6' : (6 : Int) < (N : Int) := by omega
    go_enter Tryd.func4, Tryd.ntmps4
    go_upto_region 1 with fail
    rw [← hwa]
    clear hwa
    go_wp2
    go_ret
    exact ⟨rfl, (by (repeat (first | (with_reducible exact Below.refl _ _) | (with_reducible assumption) | (with_reducible refine Below.setCell ?_ (by first | omega | (simp <;> omega)) _) | (with_reducible refine Below.alloc ?_ (by first | omega | (simp <;> omega)) _) | (with_reducible refine Below.drew ?_) | (with_reducible refine below_drewN ?_ _) | (with_reducible refine Below.trans ?_ (Below.mono (by with_reducible assumption) (by first | omega | (simp <;> omega)))))))⟩
end Go.Proofs.YtjaijlkonkgnmaaDoor
