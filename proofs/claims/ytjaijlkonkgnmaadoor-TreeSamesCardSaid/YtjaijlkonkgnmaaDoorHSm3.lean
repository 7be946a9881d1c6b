/- The walk of the reference's Same. -/
import Derived.Test.YtjaijlkonkgnmaaDoorHBY
namespace Go.Proofs.YtjaijlkonkgnmaaDoor
set_option linter.unusedVariables false
set_option linter.unusedSimpArgs false
set_option linter.unnecessarySimpa false
open Go.RowKit
attribute [local go_sem] cell_alloc_add cell_set_add lt_more
set_option maxRecDepth 100000 in
set_option maxHeartbeats 8000000 in
theorem rSame_any (A A' : Option Addr) (L M : List Nd) (n c m d : Nat) (hn : L.length = n) (hm : M.length = m) (hnc : n ≤ c) (hmd : m ≤ d) (hcm : c ≤ maxLen) (hdm : d ≤ maxLen) (w : World) (h : TreeAt w w.heap.size A L) (h' : TreeAt w w.heap.size A' M) : Calls Tryd.prog 20 #[.agg #[.slice A n c], .agg #[.slice A' m d]] w fun e w' => e = .returned (.bool (sameB L M)) ∧ Below w.heap.size w w' := by
  have HL := Lib.hid h
  have HM := Lib.hid h'
  have HN := Lib.hid hn
  have HN' := Lib.hid hm
  have HBL := Lib.hid (fun e => sameB_len (L := L) (M := M) e)
  have HBB := Lib.hid (fun i hi e => sameB_bad (L := L) (M := M) (i := i) hi e)
  have HBI := Lib.hid (sameB_iff L M)
  clear h h' hn hm
  unfold maxLen at hcm hdm
  generalize sameB L M = R at *
  obtain ⟨wa, hwa⟩ : ∃ wa : World, wa = (w.alloc (.cells #[.slice A n c] 29)).alloc (.cells #[.slice A' m d] 29) := ⟨_, rfl⟩
  have bA : Below w.heap.size w wa := by rw [hwa]; exact (by (repeat (first | (with_reducible exact Below.refl _ _) | (with_reducible assumption) | (with_reducible refine Below.setCell ?_ (by first | omega | (simp <;> omega)) _) | (with_reducible refine Below.alloc ?_ (by first | omega | (simp <;> omega)) _) | (with_reducible refine Below.drew ?_) | (with_reducible refine below_drewN ?_ _) | (with_reducible refine Below.trans ?_ (Below.mono (by with_reducible assumption) (by first | omega | (simp <;> omega)))))))
  have zA : w.heap.size + 1 < wa.heap.size := by rw [hwa]; simp
  have rA : Row wa w.heap.size 29 #[.slice A n c] := by rw [hwa]; exact (row_new rfl).alloc _
  have rB : Row wa (w.heap.size + 1) 29 #[.slice A' m d] := by rw [hwa]; exact row_new (by simp)
  have a0 := rA.cell 0
  have b0 := rB.cell 0
  simp at a0 b0
  by_cases hnm : n = m
  · subst hnm
    go_enter Tryd.func20, Tryd.ntmps20
    go_upto_region 1 with fail
    rw [← hwa]
    clear hwa
    go_wp2
    go_loopw [5] (fun t wr => ∃ q : Nat, q ≤ n ∧ t = .int .i64 (q : Int) ∧ Hid (∀ i : Nat, i < q → sameN (nd L i) (nd M i) = true) ∧ Row wr w.heap.size 29 #[.slice A n c] ∧ Row wr (w.heap.size + 1) 29 #[.slice A' n d] ∧ Below w.heap.size w wr) (fun t _ => n - (intOf t).toNat)
    case atStart => exact ⟨0, Nat.zero_le _, rfl, Lib.hid (fun i hi => by omega), rA, rB, bA⟩
    case round =>
      obtain ⟨q, hq, rfl, HT, rAo, rBo, hb⟩ := hrel
      clear rA rB bA a0 b0 zA
      generalize hwo : wr = wo at *
      clear hwo
      have hz := Below.size hb
      have lA := rAo.lt
      have lB := rBo.lt
      have a0 := rAo.cell 0
      have b0 := rBo.cell 0
      simp at a0 b0
      by_cases hlt : q < n
      · have hqL : q < L.length := by rw [HN.out]; exact hlt
        have hqM : q < M.length := by rw [HN'.out]; exact hlt
        obtain ⟨ad, rfl, hn⟩ := HL.out q hqL
        obtain ⟨ad', rfl, hn'⟩ := HM.out q hqM
        have g1 := hn.keep (W' := wo) (fun p hp => hb.cell hp)
        have g2 := hn'.keep (W' := wo) (fun p hp => hb.cell hp)
        have hb1 : (ad.add (q * 5)).block < wo.heap.size := Nat.lt_of_lt_of_le g1.blk hz
        have hb2 : (ad'.add (q * 5)).block < wo.heap.size := Nat.lt_of_lt_of_le g2.blk hz
        have hb3 : ad.block < wo.heap.size := by rw [block_add] at hb1; exact hb1
        have hb4 : ad'.block < wo.heap.size := by rw [block_add] at hb2; exact hb2
        obtain ⟨K0, kc0, c0, c1, c2, c3, c4, hK0, hkk, hkm⟩ := node_open g1
        obtain ⟨K1, kc1, d0, d1, d2, d3, d4, hK1, hkk1, hkm1⟩ := node_open g2
        have HB := Lib.hid (HBB.out q hqL)
        have HS := Lib.hid (show sameN (nd L q) (nd M q) = (decide ((nd L q).k = (nd M q).k) && decide ((nd L q).x = (nd M q).x) && decide ((nd L q).m = (nd M q).m) && eqI (nd L q).ks (nd M q).ks) from rfl)
        have HRR := Lib.hid (show sameN (nd L q) (nd M q) = true → ∀ i : Nat, i = q → sameN (nd L i) (nd M i) = true from fun h i hi => by subst hi; exact h)
        have hK0' := hK0.more hz
        have hK1' := hK1.more hz
        clear hn hn' g1 g2 hK0 hK1
        generalize sameN (nd L q) (nd M q) = r at *
        generalize nd L q = x at *
        generalize nd M q = y at *
        obtain ⟨xk, xx, xm, xks, xp⟩ := x
        obtain ⟨yk, yx, ym, yks, yp⟩ := y
        simp only at c0 c1 c2 c3 c4 d0 d1 d2 d3 d4 hkk hkk1 HS hK0' hK1'
        unfold maxLen at hkm hkm1
        by_cases e1 : xk = yk
        · by_cases e2 : xx = yx
          · by_cases e3 : xm = ym
            · subst e1 e2 e3
              have hne := Lib.hid (fun e => eqI_len (a := xks) (b := yks) e)
              have hnj := Lib.hid (fun j e => eqI_ne (a := xks) (b := yks) (j := j) e)
              have hEE := Lib.hid (fun n e1 e2 e3 => eqI_eq (a := xks) (b := yks) (n := n) e1 e2 e3)
              have hR := HS.out
              rw [decide_eq_true rfl, decide_eq_true rfl, decide_eq_true rfl, Bool.true_and, Bool.true_and, Bool.true_and] at hR
              subst hR
              clear HS
              generalize eqI xks yks = r at *
              generalize hM1 : xks.length = M1 at *
              generalize hM2 : yks.length = M2 at *
              have HM1 := Lib.hid hM1
              have HM2 := Lib.hid hM2
              clear hM1 hM2
              by_cases e4 : M1 = M2
              · subst e4
                have e4' : ((M1 : Int) != (M1 : Int)) = false := by simp
                obtain ⟨wb, hwb⟩ : ∃ wb : World, wb = (wo.alloc (.cells #[.int .i64 xk, .string xx, .int .i64 xm, .slice K0 M1 kc0, .int .i64 xp] 24)).alloc (.cells #[.int .i64 xk, .string xx, .int .i64 xm, .slice K1 M1 kc1, .int .i64 yp] 24) := ⟨_, rfl⟩
                have bB : Below wo.heap.size wo wb := by rw [hwb]; exact (((Below.refl _ wo).alloc (Nat.le_refl _) _).alloc (by simp) _)
                have r6 : Row wb wo.heap.size 24 #[.int .i64 xk, .string xx, .int .i64 xm, .slice K0 M1 kc0, .int .i64 xp] := by rw [hwb]; exact (row_new rfl).alloc _
                have r7 : Row wb (wo.heap.size + 1) 24 #[.int .i64 xk, .string xx, .int .i64 xm, .slice K1 M1 kc1, .int .i64 yp] := by rw [hwb]; exact row_new (by simp)
                have s60 := r6.cell 0
                have s61 := r6.cell 1
                have s62 := r6.cell 2
                have s63 := r6.cell 3
                have s70 := r7.cell 0
                have s71 := r7.cell 1
                have s72 := r7.cell 2
                have s73 := r7.cell 3
                simp at s60 s61 s62 s63 s70 s71 s72 s73
                have HK := Lib.hid ((hK0'.below bB).more bB.size)
                have HK' := Lib.hid ((hK1'.below bB).more bB.size)
                have z6 : wo.heap.size + 1 < wb.heap.size := by rw [hwb]; simp
                have bb := hb.trans (bB.mono hz)
                have rAb := rAo.below bB lA
                have rBb := rBo.below bB lB
                clear hK0' hK1' hne
                go_upto_region 8 with fail
                rw [← hwb]
                clear hwb a0 b0 c0 c1 c2 c3 c4 d0 d1 d2 d3 d4
                go_wp2
                go_loopw [8] (fun t wr => ∃ j : Nat, j ≤ M1 ∧ t = .int .i64 (j : Int) ∧ Hid (xks.take j = yks.take j) ∧ ∃ e, wr = wb.drewN e) (fun t _ => M1 - (intOf t).toNat)
                case atStart => exact ⟨0, Nat.zero_le _, rfl, Lib.hid rfl, 0, rfl⟩
                case round =>
                  obtain ⟨j, hj, rfl, HTJ, e, rfl⟩ := hrel
                  by_cases hjl : j < M1
                  · obtain ⟨k1, e1, hb1, kc1⟩ := HK.out j hjl
                    obtain ⟨k2, e2, hb2, kc2⟩ := HK'.out j hjl
                    subst e1 e2
                    replace kc1 : wb.cell? (k1.add j) = some (.int .i64 (xks.getD j 0)) := kc1
                    replace kc2 : wb.cell? (k2.add j) = some (.int .i64 (yks.getD j 0)) := kc2
                    have hnq := Lib.hid (fun e => hnj.out j e)
                    have hTK := Lib.hid (fun e => take_eq (a := xks) (b := yks) (j := j) HM1.out HM2.out hjl HTJ.out e)
                    generalize xks.getD j 0 = u at *
                    generalize yks.getD j 0 = v at *
                    by_cases huv : u = v
                    · have huv' : (u != v) = false := by simpa using huv
                      have hT2 := Lib.hid (hTK.out huv)
                      clear huv
                      go_wp2
                      go_quiet (fail)
                      go_wp2
                      exact ⟨⟨j + 1, by omega, by go_num, hT2, _, rfl⟩, by simp [intOf]; omega⟩
                    · have huv' : (u != v) = true := by simpa using huv
                      have hR := HB.out (hnq.out huv)
                      subst hR
                      go_wp2
                      go_quiet (fail)
                      go_wp2
                      go_ret
                      exact ⟨rfl, bb.trans (by (repeat (first | (with_reducible exact Below.refl _ _) | (with_reducible assumption) | (with_reducible refine Below.setCell ?_ (by first | omega | (simp <;> omega)) _) | (with_reducible refine Below.alloc ?_ (by first | omega | (simp <;> omega)) _) | (with_reducible refine Below.drew ?_) | (with_reducible refine below_drewN ?_ _) | (with_reducible refine Below.trans ?_ (Below.mono (by with_reducible assumption) (by first | omega | (simp <;> omega)))))))⟩
                  · obtain rfl : j = M1 := by omega
                    have hr := hEE.out j rfl rfl HTJ.out
                    subst hr
                    go_wp2
                    refine ⟨⟨q + 1, by omega, by go_num, Lib.hid (fun i hi => ?_), rAb, rBb, bb.trans (by (repeat (first | (with_reducible exact Below.refl _ _) | (with_reducible assumption) | (with_reducible refine Below.setCell ?_ (by first | omega | (simp <;> omega)) _) | (with_reducible refine Below.alloc ?_ (by first | omega | (simp <;> omega)) _) | (with_reducible refine Below.drew ?_) | (with_reducible refine below_drewN ?_ _) | (with_reducible refine Below.trans ?_ (Below.mono (by with_reducible assumption) (by first | omega | (simp <;> omega)))))))⟩, by simp [intOf]; omega⟩
                    rcases Nat.lt_or_ge i q with h1 | h1
                    · exact HT.out i h1
                    · exact HRR.out rfl i (by omega)
              · have hR := HB.out (hne.out e4)
                have e4' : ((M1 : Int) != (M2 : Int)) = true := by simp; omega
                subst hR
                clear hne hnj hEE
                go_wp2
                go_ret
                exact ⟨rfl, hb.trans (by (repeat (first | (with_reducible exact Below.refl _ _) | (with_reducible assumption) | (with_reducible refine Below.setCell ?_ (by first | omega | (simp <;> omega)) _) | (with_reducible refine Below.alloc ?_ (by first | omega | (simp <;> omega)) _) | (with_reducible refine Below.drew ?_) | (with_reducible refine below_drewN ?_ _) | (with_reducible refine Below.trans ?_ (Below.mono (by with_reducible assumption) (by first | omega | (simp <;> omega)))))))⟩
            · have hR := HB.out (by rw [HS.out, decide_eq_true e1, decide_eq_true e2, decide_eq_false e3]; rfl)
              have e3' : (xm != ym) = true := by simpa using e3
              subst hR e1 e2
              clear HS
              go_wp2
              go_ret
              exact ⟨rfl, hb.trans (by (repeat (first | (with_reducible exact Below.refl _ _) | (with_reducible assumption) | (with_reducible refine Below.setCell ?_ (by first | omega | (simp <;> omega)) _) | (with_reducible refine Below.alloc ?_ (by first | omega | (simp <;> omega)) _) | (with_reducible refine Below.drew ?_) | (with_reducible refine below_drewN ?_ _) | (with_reducible refine Below.trans ?_ (Below.mono (by with_reducible assumption) (by first | omega | (simp <;> omega)))))))⟩
          · have hR := HB.out (by rw [HS.out, decide_eq_true e1, decide_eq_false e2]; rfl)
            have e2'' : ¬ xx.toList = yx.toList := fun h => e2 (toL_inj h)
            have e2' : (xx.toList == yx.toList) = false := by simpa using e2''
            have e2b : (xx.toList != yx.toList) = true := by simpa using e2''
            subst hR e1
            clear HS
            go_wp2
            go_ret
            exact ⟨rfl, hb.trans (by (repeat (first | (with_reducible exact Below.refl _ _) | (with_reducible assumption) | (with_reducible refine Below.setCell ?_ (by first | omega | (simp <;> omega)) _) | (with_reducible refine Below.alloc ?_ (by first | omega | (simp <;> omega)) _) | (with_reducible refine Below.drew ?_) | (with_reducible refine below_drewN ?_ _) | (with_reducible refine Below.trans ?_ (Below.mono (by with_reducible assumption) (by first | omega | (simp <;> omega)))))))⟩
        · have hR := HB.out (by rw [HS.out, decide_eq_false e1]; rfl)
          have e1' : (xk != yk) = true := by simpa using e1
          subst hR
          clear HS
          go_wp2
          go_ret
          exact ⟨rfl, hb.trans (by (repeat (first | (with_reducible exact Below.refl _ _) | (with_reducible assumption) | (with_reducible refine Below.setCell ?_ (by first | omega | (simp <;> omega)) _) | (with_reducible refine Below.alloc ?_ (by first | omega | (simp <;> omega)) _) | (with_reducible refine Below.drew ?_) | (with_reducible refine below_drewN ?_ _) | (with_reducible refine Below.trans ?_ (Below.mono (by with_reducible assumption) (by first | omega | (simp <;> omega)))))))⟩
      · obtain rfl : q = n := by omega
        have hR : R = true := HBI.out.2 ⟨by rw [HN.out, HN'.out], fun i hi => HT.out i (by rw [HN.out] at hi; exact hi)⟩
        subst hR
        go_wp2
        go_ret
        exact ⟨rfl, hb⟩
  · have hR := HBL.out (by rw [HN.out, HN'.out]; exact hnm)
    subst hR
    have hnm' : ((n : Int) != (m : Int)) = true := by simp; omega
    go_enter Tryd.func20, Tryd.ntmps20
    go_upto_region 1 with fail
    rw [← hwa]
    clear hwa
    go_wp2
    go_ret
    exact ⟨rfl, bA⟩
end Go.Proofs.YtjaijlkonkgnmaaDoor
