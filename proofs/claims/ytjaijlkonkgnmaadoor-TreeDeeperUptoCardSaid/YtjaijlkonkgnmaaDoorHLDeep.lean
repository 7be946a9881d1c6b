/- The walk of chapter 3's law TreeDeeper. -/
import Derived.Test.YtjaijlkonkgnmaaDoorHBL
namespace Go.Proofs.YtjaijlkonkgnmaaDoor
set_option linter.unusedVariables false
set_option linter.unusedSimpArgs false
set_option linter.unnecessarySimpa false
open Go.RowKit
attribute [local go_sem high] max_run
attribute [local go_sem] cell_alloc_add cell_set_add lt_more
set_option maxRecDepth 100000 in
set_option maxHeartbeats 16000000 in
theorem TreeDeeper_any (Ls : List (List Nd)) (N : Nat) (hN : Ls.length = N) (K : Option Addr) (c : Nat) (hc : N ≤ c) (hm : c ≤ maxLen) (hNN : N ≤ 2000000) (hfine : Fine Ls) (w : World) (h : Forest w w.heap.size K Ls) (hmx : Mx w) (hw00 : 0 < w.heap.size) :
    Calls Tryd.prog 5 #[.slice K N c] w fun e w' => e = .returned (.bool true) ∧ Below w.heap.size w w' := by
  have hF := Lib.hid h
  have HN := Lib.hid hN
  have HFI := Lib.hid hfine
  have hX := Lib.hid hmx
  have hm2 := Lib.hid hm
  clear h hN hfine hmx
  unfold maxLen at hm
  go_enter Tryd.func5, Tryd.ntmps5
  go_wp2
  go_loopw [3, 4, 5] (fun a d t wr => ∃ q : Nat, q ≤ N ∧ t = .int .i64 (q : Int) ∧ a = .int .i64 ((1 + sumL (Ls.take q) : Nat) : Int) ∧ d = .int .i64 (deepest (Ls.take q) (-1)) ∧ Hid (∀ l ∈ Ls.take q, GoodT l ∧ wt l ≤ 3000) ∧ (q ≠ 0 → N ≤ 6) ∧ sumL (Ls.take q) ≤ 3000 * q ∧ (-1 ≤ deepest (Ls.take q) (-1) ∧ deepest (Ls.take q) (-1) ≤ 1000000) ∧ Below w.heap.size w wr) (fun _ _ t _ => N - (intOf t).toNat)
  case atStart => exact ⟨0, Nat.zero_le _, rfl, rfl, rfl, Lib.hid (fun l hl => by simp at hl), fun e => absurd rfl e, by simp [sumL], ⟨by simp [deepest], by simp [deepest]⟩, Below.refl _ _⟩
  case round =>
    obtain ⟨q, hq, rfl, rfl, rfl, HG, h6, hsum, ⟨hd1, hd2⟩, hb⟩ := hrel
    generalize hwo : wr = wo at *
    clear hwo
    have hz := Below.size hb
    by_cases hlt : q < N
    · have hqL : q < Ls.length := by rw [HN.out]; exact hlt
      obtain ⟨ad, A, c1, rfl, hab, hcell, hl1, hl2, hTr⟩ := hF.out q hqL
      have hcw : wo.cell? (ad.add q) = some (.slice A (Ls.getD q []).length c1) := (hb.cell (by rw [block_add]; exact hab)).trans hcell
      have HTK := Lib.hid (take_L hqL)
      have hf1 := HFI.out.len q hqL
      have hf2 := HFI.out.txt q hqL
      have hf3 := HFI.out.kid q hqL
      have HC := Lib.hid (fun W (hb2 : Below w.heap.size w W) => Check_any A (Ls.getD q []) c1 hl1 hl2 (by omega) hf2 W ((hTr.below hb2).more hb2.size) (hX.out.below hb2 hw00) (by have := Below.size hb2; omega))
      have HGR := Lib.hid (fun W (hb2 : Below w.heap.size w W) => great_any A (Ls.getD q []) c1 hl1 hl2 (fun j => ⟨by have := hf3 j; omega, by have := hf2 j; omega⟩) W ((hTr.below hb2).more hb2.size))
      have HDP := Lib.hid (fun W (hb2 : Below w.heap.size w W) => Depth_any A (Ls.getD q []) c1 hl1 hl2 (by omega) hf2 W ((hTr.below hb2).more hb2.size) (hX.out.below hb2 hw00) (by have := Below.size hb2; omega))
      have HGI := Lib.hid (good_iff (L := Ls.getD q []))
      have HWL := Lib.hid (wt_len (Ls.getD q []))
      have HDG := Lib.hid (fun h => depth_good (l := Ls.getD q []) h)
      have HDL := Lib.hid (fun h j hj => dp_le (L := Ls.getD q []) h j j (Nat.le_refl _) hj)
      clear hf2 hf3 hTr hcell
      unfold maxLen at hl2
      generalize Ls.getD q [] = Lq at *
      rcases hR : chk Lq with ⟨ra, re⟩
      have HR := Lib.hid hR
      rw [hR] at HC HGI
      simp only at HC HGI
      clear hR
      by_cases hgr : 3000 < wt Lq
      · rw [decide_eq_true hgr] at HGR
        go_wp2_with (first
          | (go_at_call 16; (with_reducible refine (HC.out _ hb).mono ?_); rintro e w1 ⟨rfl, b1⟩; have q1 := hb.trans (b1.mono hz); have cc1 := (b1.cell (World.block_lt_of_cell? wo _ hcw)).trans hcw)
          | (go_at_call 8; (with_reducible refine (HGR.out _ q1).mono ?_); rintro e w2 ⟨rfl, b2⟩; have q2 := q1.trans (b2.mono q1.size))
          | (go_at_call 15; (with_reducible refine (known_any _ (hX.out.below (B := w.heap.size) q2 hw00) (by have := Below.size q2; omega)).mono ?_); rintro e wk ⟨rfl, bk⟩)
          | fail)
        go_ret
        exact ⟨rfl, q2.trans (bk.mono q2.size)⟩
      · rw [decide_eq_false hgr] at HGR
        by_cases he : re = 0
        · subst he
          have HGT := Lib.hid (HGI.out.1 rfl)
          by_cases hN6 : N ≤ 6
          · have hN6' : ¬ ((6 : Int) < (N : Int)) := by omega
            have hdq : 0 ≤ depthL Lq ∧ depthL Lq ≤ 3000 := by
              obtain ⟨h1, ⟨j, h2, h3⟩, h4⟩ := HDG.out HGT.out
              have h5 := HDL.out HGT.out j h2
              have := HWL.out
              exact ⟨h4, by omega⟩
            obtain ⟨hdq1, hdq2⟩ := hdq
            have hlq : Lq.length ≤ 3000 := by have := HWL.out; omega
            have HE1 := Lib.hid (show sumL (Ls.take (q + 1)) = sumL (Ls.take q) + Lq.length by rw [HTK.out, sumL_app]; simp [sumL])
            have HE2 := Lib.hid (show deepest (Ls.take (q + 1)) (-1) = max (deepest (Ls.take q) (-1)) (depthL Lq) by rw [HTK.out, deepest_snoc])
            generalize hS : sumL (Ls.take q) = S at *
            generalize hD : deepest (Ls.take q) (-1) = D at *
            generalize hdl : depthL Lq = dl at *
            clear hS hD hdl
            go_wp2_with (first
              | (go_at_call 16; (with_reducible refine (HC.out _ hb).mono ?_); rintro e w1 ⟨rfl, b1⟩; have q1 := hb.trans (b1.mono hz); have cc1 := (b1.cell (World.block_lt_of_cell? wo _ hcw)).trans hcw)
              | (go_at_call 8; (with_reducible refine (HGR.out _ q1).mono ?_); rintro e w2 ⟨rfl, b2⟩; have q2 := q1.trans (b2.mono q1.size); have cc2 := (b2.cell (World.block_lt_of_cell? w1 _ cc1)).trans cc1)
              | (go_at_call 18; (with_reducible refine (HDP.out _ q2).mono ?_); rintro e w3 ⟨rfl, b3⟩; have q3 := q2.trans (b3.mono q2.size))
              | fail)
            refine ⟨⟨q + 1, by omega, by go_num, by rw [HE1.out]; go_num, by rw [HE2.out], ?_, fun _ => hN6, by rw [HE1.out]; omega, by rw [HE2.out]; omega, q3⟩, by simp [intOf]; omega⟩
            refine Lib.hid (fun l hl => ?_)
            rw [HTK.out] at hl
            rcases List.mem_append.1 hl with hl | hl
            · exact HG.out l hl
            · simp at hl; subst hl; exact ⟨HGT.out, by omega⟩
          · have hN6' : (6 : Int) < (N : Int) := by omega
            go_wp2_with (first
              | (go_at_call 16; (with_reducible refine (HC.out _ hb).mono ?_); rintro e w1 ⟨rfl, b1⟩; have q1 := hb.trans (b1.mono hz); have cc1 := (b1.cell (World.block_lt_of_cell? wo _ hcw)).trans hcw)
              | (go_at_call 8; (with_reducible refine (HGR.out _ q1).mono ?_); rintro e w2 ⟨rfl, b2⟩; have q2 := q1.trans (b2.mono q1.size))
              | (go_at_call 15; (with_reducible refine (known_any _ (hX.out.below (B := w.heap.size) q2 hw00) (by have := Below.size q2; omega)).mono ?_); rintro e wk ⟨rfl, bk⟩)
              | fail)
            go_ret
            exact ⟨rfl, q2.trans (bk.mono q2.size)⟩
        · have hre : (re != 0) = true := by simpa using he
          go_wp2_with (first
            | (go_at_call 16; (with_reducible refine (HC.out _ hb).mono ?_); rintro e w1 ⟨rfl, b1⟩; have q1 := hb.trans (b1.mono hz); have cc1 := (b1.cell (World.block_lt_of_cell? wo _ hcw)).trans hcw)
            | (go_at_call 8; (with_reducible refine (HGR.out _ q1).mono ?_); rintro e w2 ⟨rfl, b2⟩; have q2 := q1.trans (b2.mono q1.size))
            | (go_at_call 15; (with_reducible refine (known_any _ (hX.out.below (B := w.heap.size) q2 hw00) (by have := Below.size q2; omega)).mono ?_); rintro e wk ⟨rfl, bk⟩)
            | fail)
          go_ret
          exact ⟨rfl, q2.trans (bk.mono q2.size)⟩
    · obtain rfl : q = N := by omega
      have hG := HG.out
      rw [List.take_of_length_le (by rw [HN.out]; exact Nat.le_refl _)] at hG hsum hd1 hd2 ⊢
      have hq6 : q ≤ 6 := by
        rcases Nat.eq_zero_or_pos q with h0 | h0
        · omega
        · exact h6 (by omega)
      have hs : sumL Ls ≤ 1000000 := by omega
      have hg : ∀ l ∈ Ls, GoodT l := fun l hl => (hG l hl).1
      have hXG := list_good hg hs
      have hXL := mkL_len (y := ⟨2, ⟨#[]⟩, 0, [], 0⟩) (fun l hl => good_pos (hg l hl))
      have hXD := mk_depth hg hs hXG
      have hXT := mk_text (y := ⟨2, ⟨#[]⟩, 0, [], 0⟩) (n := 4000000) hg (Nat.zero_le _) (fun l hl j => by have := (hG l hl).2; have := wt_nd l j; omega)
      have HMK := Lib.hid (Make_any ⟨2, ⟨#[]⟩, 0, [], 0⟩ none 0 0 Ls q HN.out K c hc hm2.out hs (by omega) (fun i hi => HFI.out.kid i (by rw [HN.out]; exact hi)) ⟨by decide, by decide⟩ wo (hF.out.later hb))
      have HCX := Lib.hid (chk_good hXG)
      simp only at HMK
      generalize hXX : mkL ⟨2, ⟨#[]⟩, 0, [], 0⟩ Ls = X at *
      clear hXX hXG hG hg HG
      generalize hSS : sumL Ls = S at *
      generalize hDD : deepest Ls (-1) = D at *
      clear hSS hDD
      go_upto_region 12 with (go_at_call 10; (with_reducible refine HMK.out.mono ?_); rintro e w1 ⟨⟨v, l, rfl, hO, hl⟩, b1⟩; obtain ⟨A, c2, hv, hc2, hm3, hT⟩ := hO.tree; subst hv)
      have hlen : l.length = S + 1 := by have := congrArg List.length hl; rw [hXL] at this; simpa using this
      rw [hl] at hT
      rw [hlen] at hc2
      simp only [hlen]
      have q1 := hb.trans (b1.mono hz)
      have z1 := Below.size q1
      have bx : Below w.heap.size w (w1.alloc (.cells #[.slice A (S + 1) c2] 29)) := q1.alloc (by omega) _
      have hT2 : TreeAt (w1.alloc (.cells #[.slice A (S + 1) c2] 29)) (w1.alloc (.cells #[.slice A (S + 1) c2] 29)).heap.size A X := hT.later ((Below.refl _ _).alloc (Nat.le_refl _) _)
      have HC := Check_any A X c2 (by rw [hXL]; exact hc2) hm3 (by omega) hXT _ hT2 (hX.out.below bx hw00) (by simp)
      rw [hXL, HCX.out] at HC
      have HC := Lib.hid HC
      have HD := Lib.hid (fun W (hb : Below (w1.alloc (.cells #[.slice A (S + 1) c2] 29)).heap.size (w1.alloc (.cells #[.slice A (S + 1) c2] 29)) W) => by
        have := Depth_any A X c2 (by rw [hXL]; exact hc2) hm3 (by omega) hXT W (hT2.later hb) (hX.out.below (bx.trans (hb.mono bx.size)) hw00) (Nat.lt_of_lt_of_le (by simp) hb.size)
        rw [hXL, hXD] at this
        exact this)
      clear HMK hT hT2 hO hl hXL hXD hXT
      go_wp2_with (first
        | (go_at_call 16; (with_reducible refine HC.out.mono ?_); rintro e w2 ⟨rfl, b2⟩; have x2 : w2.cell? ⟨w1.heap.size, 0, none⟩ = some (.slice A (S + 1) c2) := (b2.cell (p := ⟨w1.heap.size, 0, none⟩) (by simp)).trans (by simp [World.cell?_alloc_mark]); have q2 := bx.trans (b2.mono bx.size))
        | (go_at_call 18; (with_reducible refine (HD.out w2 b2).mono ?_); rintro e w3 ⟨rfl, b3⟩; have q3 := bx.trans ((b2.trans (b3.mono b2.size)).mono bx.size))
        | (go_at_call 15; (with_reducible refine (known_any _ (hX.out.below (B := w.heap.size) q3 hw00) (by have := Below.size q3; omega)).mono ?_); rintro e wk ⟨rfl, bk⟩)
        | fail)
      go_ret
      exact ⟨rfl, q3.trans (bk.mono q3.size)⟩
end Go.Proofs.YtjaijlkonkgnmaaDoor
