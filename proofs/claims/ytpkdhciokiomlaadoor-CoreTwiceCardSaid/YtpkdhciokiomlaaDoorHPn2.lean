/- The walk of the program's plain. -/
import Derived.Test.YtpkdhciokiomlaaDoorHBZ19
namespace Go.Proofs.YtpkdhciokiomlaaDoor
set_option linter.unusedVariables false
set_option linter.unusedSimpArgs false
set_option linter.unnecessarySimpa false
open Go.RowKit
attribute [local go_sem] cell_alloc_add cell_set_add lt_more
theorem kid_at {L : List Nd} {n e : Nat} (h : Sp L n e) (q : Nat) (hq : q < (nd L n).ks.length) : ∃ j : Nat, (nd L n).ks.getD q 0 = (j : Int) ∧ j < L.length := by
  obtain ⟨j, m, e1, hS, -, -⟩ := kid_sp h hq
  exact ⟨j, e1, hS.1⟩
set_option maxRecDepth 100000 in
set_option maxHeartbeats 8000000 in
theorem plain_any (A : Option Addr) (L : List Nd) (N c : Nat) (hN : L.length = N) (hc : N ≤ c) (hm : c ≤ maxLen) (n e : Nat) (hS : Sp L n e) (w : World) (hT : TreeAt w w.heap.size A L) : Calls Tryd.prog 15 #[.agg #[.slice A N c], .int .i64 (n : Int)] w fun r w' => r = .returned (.bool (plainB L n)) ∧ Below w.heap.size w w' := by
  have HKD := Lib.hid (fun q hq => kid_at hS q hq)
  have HFT := Lib.hid hS.2.1
  have HBR := Lib.hid (fun j hj W (hb : Below w.heap.size w W) => bare_any A L N c hN hc hm j hj W (hT.later hb))
  have HIS := Lib.hid (fun q j z hz hq hj hjL K kc hkk hkm W (hb : Below w.heap.size w W) hK h2 h5 => plain1_any A L N c hN hc hm n q j z hz hS.1 hq hj hjL K kc w.heap.size (w.heap.size + 1) hkk hkm W (hT.later hb) hK h2 h5)
  have hnN := hS.1
  obtain ⟨ad, rfl, hn⟩ := hT n hS.1
  have hb2 := hn.blk
  have hb1 : ad.block < w.heap.size := (by rw [block_add] at hb2; exact hb2)
  obtain ⟨K, kc, c0, c1, c2, c3, c4, hK, hkk, hkm⟩ := node_open hn
  have hkm2 := Lib.hid hkm
  unfold maxLen at hm hkm
  rw [hN] at hnN
  have hni : (n : Int) < (N : Int) := by omega
  obtain ⟨R, hR⟩ : ∃ R, R = plainB L n := ⟨_, rfl⟩
  rw [← hR]
  have HR := Lib.hid hR.symm
  clear hR hn hS
  have HK := Lib.hid hK
  clear hK
  generalize hy : nd L (n : Int) = y at *
  have HY := Lib.hid hy
  clear hy
  obtain ⟨k, x, m, ks, p⟩ := y
  simp only at c0 c1 c2 c3 c4 hkk HK HKD HIS
  generalize hM : ks.length = M at *
  have HM := Lib.hid hM
  clear hM
  obtain ⟨wb, hwb⟩ : ∃ wb : World, wb = (w.alloc (.cells #[.slice (some ad) N c] 24)).alloc (.cells #[.int .i64 k, .string x, .int .i64 m, .slice K M kc, .int .i64 p] 35) := ⟨_, rfl⟩
  have bB : Below w.heap.size w wb := by rw [hwb]; exact (by (exact bl))
  have rT : Row wb w.heap.size 24 #[.slice (some ad) N c] := by rw [hwb]; exact (row_new rfl).alloc _
  have rY : Row wb (w.heap.size + 1) 35 #[.int .i64 k, .string x, .int .i64 m, .slice K M kc, .int .i64 p] := by rw [hwb]; exact row_new (by simp)
  have lT := rT.lt
  have lY := rY.lt
  by_cases h : k = 33
  · subst h
    have hR : R = false := by rw [← HR.out]; unfold plainB; rw [HY.out]; rfl
    subst hR
    go_enter Tryd.func15, Tryd.ntmps15
    go_wp2
    go_ret
    exact ⟨rfl, (by (exact bl))⟩
  have k33 : (k == 33) = false := beq_eq_false_iff_ne.2 h
  have n33 := Lib.hid h
  clear h
  by_cases h : k = 34
  · subst h
    have hR : R = false := by rw [← HR.out]; unfold plainB; rw [HY.out]; rfl
    subst hR
    go_enter Tryd.func15, Tryd.ntmps15
    go_wp2
    go_ret
    exact ⟨rfl, (by (exact bl))⟩
  have k34 : (k == 34) = false := beq_eq_false_iff_ne.2 h
  have n34 := Lib.hid h
  clear h
  by_cases h : k = 47
  · subst h
    have hR : R = false := by rw [← HR.out]; unfold plainB; rw [HY.out]; rfl
    subst hR
    go_enter Tryd.func15, Tryd.ntmps15
    go_wp2
    go_ret
    exact ⟨rfl, (by (exact bl))⟩
  have k47 : (k == 47) = false := beq_eq_false_iff_ne.2 h
  have n47 := Lib.hid h
  clear h
  by_cases h : k = 48
  · subst h
    have hR : R = false := by rw [← HR.out]; unfold plainB; rw [HY.out]; rfl
    subst hR
    go_enter Tryd.func15, Tryd.ntmps15
    go_wp2
    go_ret
    exact ⟨rfl, (by (exact bl))⟩
  have k48 : (k == 48) = false := beq_eq_false_iff_ne.2 h
  have n48 := Lib.hid h
  clear h
  by_cases h : k = 49
  · subst h
    have hR : R = false := by rw [← HR.out]; unfold plainB; rw [HY.out]; rfl
    subst hR
    go_enter Tryd.func15, Tryd.ntmps15
    go_wp2
    go_ret
    exact ⟨rfl, (by (exact bl))⟩
  have k49 : (k == 49) = false := beq_eq_false_iff_ne.2 h
  have n49 := Lib.hid h
  clear h
  by_cases h : k = 50
  · subst h
    have hR : R = false := by rw [← HR.out]; unfold plainB; rw [HY.out]; rfl
    subst hR
    go_enter Tryd.func15, Tryd.ntmps15
    go_wp2
    go_ret
    exact ⟨rfl, (by (exact bl))⟩
  have k50 : (k == 50) = false := beq_eq_false_iff_ne.2 h
  have n50 := Lib.hid h
  clear h
  by_cases h : k = 51
  · subst h
    have hR : R = false := by rw [← HR.out]; unfold plainB; rw [HY.out]; rfl
    subst hR
    go_enter Tryd.func15, Tryd.ntmps15
    go_wp2
    go_ret
    exact ⟨rfl, (by (exact bl))⟩
  have k51 : (k == 51) = false := beq_eq_false_iff_ne.2 h
  have n51 := Lib.hid h
  clear h
  by_cases h : k = 52
  · subst h
    have hR : R = false := by rw [← HR.out]; unfold plainB; rw [HY.out]; rfl
    subst hR
    go_enter Tryd.func15, Tryd.ntmps15
    go_wp2
    go_ret
    exact ⟨rfl, (by (exact bl))⟩
  have k52 : (k == 52) = false := beq_eq_false_iff_ne.2 h
  have n52 := Lib.hid h
  clear h
  by_cases h : k = 67
  · subst h
    have hR : R = false := by rw [← HR.out]; unfold plainB; rw [HY.out]; rfl
    subst hR
    go_enter Tryd.func15, Tryd.ntmps15
    go_wp2
    go_ret
    exact ⟨rfl, (by (exact bl))⟩
  have k67 : (k == 67) = false := beq_eq_false_iff_ne.2 h
  have n67 := Lib.hid h
  clear h
  have HRX := Lib.hid (show R = if k = 22 ∨ k = 43 then decide ((nd L (ks.getD 0 0)).ks.length = 0) else if k = 27 ∨ k = 28 then decide ((nd L (ks.getD 1 0)).ks.length = 0) else if k = 41 ∨ k = 45 then decide ((nd L (ks.getD 0 0)).ks.length = 0) && (nd L (ks.getD 2 0)).k == 1 else if k = 42 then decide ((nd L (ks.getD 0 0)).ks.length = 0) && decide ((nd L (ks.getD 2 0)).ks.length = 0) else if k = 40 then (nd L (ks.getD 0 0)).k == 1 else if k = 66 then (nd L (ks.getD 0 0)).k == 1 && m == 0 else if k = 44 then (nd L (ks.getD 0 0)).k == 1 && m == 0 && !((nd L (ks.getD 1 0)).k == 1) else decide (k < 80) || decide (87 < k) from by
    rw [← HR.out]
    unfold plainB bareB noneB
    rw [HY.out]
    simp only
    rw [if_neg (by have := n33.out; have := n34.out; have := n47.out; have := n48.out; have := n49.out; have := n50.out; have := n51.out; have := n52.out; have := n67.out; omega)])
  have HLEN := Lib.hid (show (k = 22 ∨ k = 43 → 0 < M) ∧ (k = 27 ∨ k = 28 → 1 < M) ∧ (k = 41 ∨ k = 45 ∨ k = 42 → 2 < M) ∧ (k = 40 ∨ k = 66 → 0 < M) ∧ (k = 44 → 1 < M) from by
    have hf := HFT.out
    have hl : ∀ ps : List Plc, tab k = some (ps, false) → k ≠ 12 → k ≠ 87 → M = ps.length := fun ps ht h12 h87 => by
      have h1 := (tab_kids hf (ps := ps) (by rw [HY.out]; exact ht) (by rw [HY.out]; exact h12) (by rw [HY.out]; exact h87)).1
      rw [HY.out] at h1
      rw [← HM.out]
      exact h1
    refine ⟨fun h => ?_, fun h => ?_, fun h => ?_, fun h => ?_, fun h => ?_⟩
    · rcases h with rfl | rfl
      · have := hl [rowsP (ofP [67]), rowsP plainP, orP (ofP [63]) exprP] rfl (by omega) (by omega); simp at this; omega
      · have := hl [rowsP typeP] rfl (by omega) (by omega); simp at this; omega
    · rcases h with rfl | rfl
      · have := hl [exprP, rowsP typeP, rowsP exprP] rfl (by omega) (by omega); simp at this; omega
      · have := hl [pathP, rowsP typeP, rowsP exprP] rfl (by omega) (by omega); simp at this; omega
    · rcases h with rfl | rfl | rfl
      · have := hl [rowsP (ofP [67]), rowsP plainP, orP typeP (ofP [1]), ofP [63]] rfl (by omega) (by omega); simp at this; omega
      · have := hl [rowsP (ofP [67]), rowsP plainP, orP typeP (ofP [1]), ofP [63]] rfl (by omega) (by omega); simp at this; omega
      · have := hl [rowsP (ofP [67]), orP (ofP [43]) (ofP [1]), rowsP (ofP [80]), memP] rfl (by omega) (by omega); simp at this; omega
    · rcases h with rfl | rfl
      · have := hl [orP typeP (ofP [1]), exprP] rfl (by omega) (by omega); simp at this; omega
      · have := hl [orP typeP (ofP [1])] rfl (by omega) (by omega); simp at this; omega
    · subst h
      have := hl [orP typeP (ofP [1]), orP exprP (ofP [1])] rfl (by omega) (by omega); simp at this; omega)
  by_cases h : k = 22 ∨ k = 43
  · have hM0 := HLEN.out.1 h
    have hRv := HRX.out
    rw [if_pos h] at hRv
    obtain ⟨j, e1, hj⟩ := HKD.out 0 hM0
    rw [e1] at hRv
    obtain ⟨kd, rfl, hkb, kcell⟩ := HK.out 0 hM0
    rw [show ksV ks 0 = .int .i64 (j : Int) from by unfold ksV; rw [e1]] at kcell
    rw [add_zero] at kcell
    have HB := Lib.hid (fun x : Later wb => HBR.out j hj x.w (bB.trans (x.h.mono bB.size)))
    have HB2 := HB
    have HI := HB
    generalize decide ((nd L (j : Int)).ks.length = 0) = r0 at *
    subst hRv
    have LK : ∀ x : Later wb, x.w.cell? kd = some (.int .i64 (j : Int)) := fun x => (x.h.cell (by have := bB.size; omega)).trans ((bB.cell hkb).trans kcell)
    have h0M : (0 : Int) < (M : Int) := by omega
    clear e1 kcell HRX HLEN hj
    rcases h with rfl | rfl
    all_goals
      have L0 : ∀ x : Later wb, x.w.cell? ⟨w.heap.size, 0, none⟩ = some (.slice (some ad) N c) := fun x => (x.cell lT).trans (rT.cell 0)
      have L3 : ∀ x : Later wb, x.w.cell? ⟨w.heap.size + 1, 3, none⟩ = some (.slice (some kd) M kc) := fun x => (x.cell lY).trans (rY.cell 3)
      have LW : Below wb.heap.size wb wb := Below.refl _ _
      clear rT rY HKD
      go_enter Tryd.func15, Tryd.ntmps15
      go_upto_region 16 with fail
      rw [← hwb]
      clear hwb c0 c1 c2 c3 c4
      refine wp_region_later wb LW (by kernel_rfl) (by kernel_rfl) ?_
      repeat (first | go_big_quiet_step (first | with_reducible exact Later.call (HB.out _) | with_reducible exact Later.call (HI.out _) | with_reducible exact Later.call (HB2.out _)) | quiet_step (first | with_reducible exact Later.call (HB.out _) | with_reducible exact Later.call (HI.out _) | with_reducible exact Later.call (HB2.out _)))
      refine wpQuiet_nil ?_
      intro _ hw'
      obtain ⟨xq, hw''⟩ := hw'
      subst hw''
      go_wp2
      go_ret
      exact ⟨rfl, bB.trans (xq.h.mono bB.size)⟩
  have m1 := Lib.hid h
  have k22 : (k == 22) = false := beq_eq_false_iff_ne.2 (fun e => h (.inl e))
  have k43 : (k == 43) = false := beq_eq_false_iff_ne.2 (fun e => h (.inr e))
  clear h
  by_cases h : k = 27 ∨ k = 28
  · have hM1 := HLEN.out.2.1 h
    have hRv := HRX.out
    rw [if_neg m1.out, if_pos h] at hRv
    obtain ⟨j1, e1, hj1⟩ := HKD.out 1 (by omega)
    rw [e1] at hRv
    obtain ⟨kd, rfl, hkb, kc1⟩ := HK.out 1 (by omega)
    rw [show ksV ks 1 = .int .i64 (j1 : Int) from by unfold ksV; rw [e1]] at kc1
    rw [show (1 : Nat) = 0 + 1 from rfl, Addr.add_succ'] at kc1
    have HB := Lib.hid (fun x : Later wb => HBR.out j1 hj1 x.w (bB.trans (x.h.mono bB.size)))
    have HB2 := HB
    have HI := HB
    generalize decide ((nd L (j1 : Int)).ks.length = 0) = r0 at *
    subst hRv
    have LK1 : ∀ x : Later wb, x.w.cell? ⟨kd.block, kd.off + 1, none⟩ = some (.int .i64 (j1 : Int)) := fun x => (x.h.cell (p := ⟨kd.block, kd.off + 1, none⟩) (by show kd.block < _; have := bB.size; omega)).trans ((bB.cell (p := ⟨kd.block, kd.off + 1, none⟩) hkb).trans kc1)
    have h1M : (1 : Int) < (M : Int) := by omega
    clear e1 kc1 HRX HLEN hj1
    rcases h with rfl | rfl
    all_goals
      have L0 : ∀ x : Later wb, x.w.cell? ⟨w.heap.size, 0, none⟩ = some (.slice (some ad) N c) := fun x => (x.cell lT).trans (rT.cell 0)
      have L3 : ∀ x : Later wb, x.w.cell? ⟨w.heap.size + 1, 3, none⟩ = some (.slice (some kd) M kc) := fun x => (x.cell lY).trans (rY.cell 3)
      have LW : Below wb.heap.size wb wb := Below.refl _ _
      clear rT rY HKD
      go_enter Tryd.func15, Tryd.ntmps15
      go_upto_region 19 with fail
      rw [← hwb]
      clear hwb c0 c1 c2 c3 c4
      refine wp_region_later wb LW (by kernel_rfl) (by kernel_rfl) ?_
      repeat (first | go_big_quiet_step (first | with_reducible exact Later.call (HB.out _) | with_reducible exact Later.call (HI.out _) | with_reducible exact Later.call (HB2.out _)) | quiet_step (first | with_reducible exact Later.call (HB.out _) | with_reducible exact Later.call (HI.out _) | with_reducible exact Later.call (HB2.out _)))
      refine wpQuiet_nil ?_
      intro _ hw'
      obtain ⟨xq, hw''⟩ := hw'
      subst hw''
      go_wp2
      go_ret
      exact ⟨rfl, bB.trans (xq.h.mono bB.size)⟩
  have m2 := Lib.hid h
  have k27 : (k == 27) = false := beq_eq_false_iff_ne.2 (fun e => h (.inl e))
  have k28 : (k == 28) = false := beq_eq_false_iff_ne.2 (fun e => h (.inr e))
  clear h
  by_cases h : k = 41 ∨ k = 45
  · have hM2 := HLEN.out.2.2.1 (by omega)
    have hRv := HRX.out
    rw [if_neg m1.out, if_neg m2.out, if_pos h] at hRv
    obtain ⟨j0, e0, hj0⟩ := HKD.out 0 (by omega)
    rw [e0] at hRv
    obtain ⟨kd, rfl, hkb, kc0⟩ := HK.out 0 (by omega)
    rw [show ksV ks 0 = .int .i64 (j0 : Int) from by unfold ksV; rw [e0]] at kc0
    rw [add_zero] at kc0
    obtain ⟨j2, e2, hj2⟩ := HKD.out 2 (by omega)
    rw [e2] at hRv
    obtain ⟨kd', ekd, hkb', kc2⟩ := HK.out 2 (by omega)
    injection ekd with ekd
    subst ekd
    rw [show ksV ks 2 = .int .i64 (j2 : Int) from by unfold ksV; rw [e2]] at kc2
    rw [show (2 : Nat) = 1 + 1 from rfl, Addr.add_succ'] at kc2
    have L0 : ∀ x : Later wb, x.w.cell? ⟨w.heap.size, 0, none⟩ = some (.slice (some ad) N c) := fun x => (x.cell lT).trans (rT.cell 0)
    have L3 : ∀ x : Later wb, x.w.cell? ⟨w.heap.size + 1, 3, none⟩ = some (.slice (some kd) M kc) := fun x => (x.cell lY).trans (rY.cell 3)
    have LW : Below wb.heap.size wb wb := Below.refl _ _
    have HB := Lib.hid (fun x : Later wb => HBR.out j0 hj0 x.w (bB.trans (x.h.mono bB.size)))
    have HB2 := HB
    have HI2 := Lib.hid (fun x : Later wb => HIS.out 2 j2 2 rfl (by omega) e2 hj2 _ kc hkk hkm2.out x.w (bB.trans (x.h.mono bB.size)) ((HK.out.below (bB.trans (x.h.mono bB.size))).more (bB.trans (x.h.mono bB.size)).size) (L0 x) (L3 x))
    have HI := HI2
    generalize decide ((nd L (j0 : Int)).ks.length = 0) = r0 at *
    generalize ((nd L (j2 : Int)).k == 1) = r2 at *
    subst hRv
    have LK0 : ∀ x : Later wb, x.w.cell? kd = some (.int .i64 (j0 : Int)) := fun x => (x.h.cell (p := kd) (by show kd.block < _; have := bB.size; omega)).trans ((bB.cell (p := kd) hkb).trans kc0)
    have LK2 : ∀ x : Later wb, x.w.cell? ⟨kd.block, kd.off + 2, none⟩ = some (.int .i64 (j2 : Int)) := fun x => (x.h.cell (p := ⟨kd.block, kd.off + 2, none⟩) (by show kd.block < _; have := bB.size; omega)).trans ((bB.cell (p := ⟨kd.block, kd.off + 2, none⟩) hkb).trans kc2)
    have h0M : (0 : Int) < (M : Int) := by omega
    have h2M : (2 : Int) < (M : Int) := by omega
    clear e0 e2 kc0 kc2 HRX HLEN hj0 hj2 rT rY HKD HI2
    rcases h with rfl | rfl
    all_goals
      cases r0
      all_goals
        go_enter Tryd.func15, Tryd.ntmps15
        go_upto_region 22 with fail
        rw [← hwb]
        clear hwb c0 c1 c2 c3 c4
        refine wp_region_later wb LW (by kernel_rfl) (by kernel_rfl) ?_
        repeat (first | go_big_quiet_step (first | with_reducible exact Later.call (HB.out _) | with_reducible exact Later.call (HI.out _) | with_reducible exact Later.call (HB2.out _)) | quiet_step (first | with_reducible exact Later.call (HB.out _) | with_reducible exact Later.call (HI.out _) | with_reducible exact Later.call (HB2.out _)))
        refine wpQuiet_nil ?_
        intro _ hw'
        obtain ⟨xq, hw''⟩ := hw'
        subst hw''
        go_wp2
        go_ret
        exact ⟨ret_bool (by first | rfl | (cases r2 <;> rfl)), bB.trans (xq.h.mono bB.size)⟩
  have m3 := Lib.hid h
  have k41 : (k == 41) = false := beq_eq_false_iff_ne.2 (fun e => h (.inl e))
  have k45 : (k == 45) = false := beq_eq_false_iff_ne.2 (fun e => h (.inr e))
  clear h
  by_cases h : k = 42
  · have hM2 := HLEN.out.2.2.1 (by omega)
    have hRv := HRX.out
    rw [if_neg m1.out, if_neg m2.out, if_neg m3.out, if_pos h] at hRv
    obtain ⟨j0, e0, hj0⟩ := HKD.out 0 (by omega)
    rw [e0] at hRv
    obtain ⟨kd, rfl, hkb, kc0⟩ := HK.out 0 (by omega)
    rw [show ksV ks 0 = .int .i64 (j0 : Int) from by unfold ksV; rw [e0]] at kc0
    rw [add_zero] at kc0
    obtain ⟨j2, e2, hj2⟩ := HKD.out 2 (by omega)
    rw [e2] at hRv
    obtain ⟨kd', ekd, hkb', kc2⟩ := HK.out 2 (by omega)
    injection ekd with ekd
    subst ekd
    rw [show ksV ks 2 = .int .i64 (j2 : Int) from by unfold ksV; rw [e2]] at kc2
    rw [show (2 : Nat) = 1 + 1 from rfl, Addr.add_succ'] at kc2
    have L0 : ∀ x : Later wb, x.w.cell? ⟨w.heap.size, 0, none⟩ = some (.slice (some ad) N c) := fun x => (x.cell lT).trans (rT.cell 0)
    have L3 : ∀ x : Later wb, x.w.cell? ⟨w.heap.size + 1, 3, none⟩ = some (.slice (some kd) M kc) := fun x => (x.cell lY).trans (rY.cell 3)
    have LW : Below wb.heap.size wb wb := Below.refl _ _
    have HB := Lib.hid (fun x : Later wb => HBR.out j0 hj0 x.w (bB.trans (x.h.mono bB.size)))
    have HB2 := Lib.hid (fun x : Later wb => HBR.out j2 hj2 x.w (bB.trans (x.h.mono bB.size)))
    have HI := HB
    generalize decide ((nd L (j0 : Int)).ks.length = 0) = r0 at *
    generalize decide ((nd L (j2 : Int)).ks.length = 0) = r2 at *
    subst hRv
    have LK0 : ∀ x : Later wb, x.w.cell? kd = some (.int .i64 (j0 : Int)) := fun x => (x.h.cell (p := kd) (by show kd.block < _; have := bB.size; omega)).trans ((bB.cell (p := kd) hkb).trans kc0)
    have LK2 : ∀ x : Later wb, x.w.cell? ⟨kd.block, kd.off + 2, none⟩ = some (.int .i64 (j2 : Int)) := fun x => (x.h.cell (p := ⟨kd.block, kd.off + 2, none⟩) (by show kd.block < _; have := bB.size; omega)).trans ((bB.cell (p := ⟨kd.block, kd.off + 2, none⟩) hkb).trans kc2)
    have h0M : (0 : Int) < (M : Int) := by omega
    have h2M : (2 : Int) < (M : Int) := by omega
    clear e0 e2 kc0 kc2 HRX HLEN hj0 hj2 rT rY HKD
    subst h
    cases r0
    all_goals
        go_enter Tryd.func15, Tryd.ntmps15
        go_upto_region 24 with fail
        rw [← hwb]
        clear hwb c0 c1 c2 c3 c4
        refine wp_region_later wb LW (by kernel_rfl) (by kernel_rfl) ?_
        repeat (first | go_big_quiet_step (first | with_reducible exact Later.call (HB.out _) | with_reducible exact Later.call (HI.out _) | with_reducible exact Later.call (HB2.out _)) | quiet_step (first | with_reducible exact Later.call (HB.out _) | with_reducible exact Later.call (HI.out _) | with_reducible exact Later.call (HB2.out _)))
        refine wpQuiet_nil ?_
        intro _ hw'
        obtain ⟨xq, hw''⟩ := hw'
        subst hw''
        go_wp2
        go_ret
        exact ⟨ret_bool (by first | rfl | (cases r2 <;> rfl)), bB.trans (xq.h.mono bB.size)⟩
  have m4 := Lib.hid h
  have k42 : (k == 42) = false := beq_eq_false_iff_ne.2 h
  clear h
  by_cases h : k = 40
  · have hM0 := HLEN.out.2.2.2.1 (by omega)
    have hRv := HRX.out
    rw [if_neg m1.out, if_neg m2.out, if_neg m3.out, if_neg m4.out, if_pos h] at hRv
    obtain ⟨j0, e0, hj0⟩ := HKD.out 0 (by omega)
    rw [e0] at hRv
    obtain ⟨kd, rfl, hkb, kc0⟩ := HK.out 0 (by omega)
    rw [show ksV ks 0 = .int .i64 (j0 : Int) from by unfold ksV; rw [e0]] at kc0
    rw [add_zero] at kc0
    have L0 : ∀ x : Later wb, x.w.cell? ⟨w.heap.size, 0, none⟩ = some (.slice (some ad) N c) := fun x => (x.cell lT).trans (rT.cell 0)
    have L3 : ∀ x : Later wb, x.w.cell? ⟨w.heap.size + 1, 3, none⟩ = some (.slice (some kd) M kc) := fun x => (x.cell lY).trans (rY.cell 3)
    have LW : Below wb.heap.size wb wb := Below.refl _ _
    have HI0 := Lib.hid (fun x : Later wb => HIS.out 0 j0 0 rfl (by omega) e0 hj0 _ kc hkk hkm2.out x.w (bB.trans (x.h.mono bB.size)) ((HK.out.below (bB.trans (x.h.mono bB.size))).more (bB.trans (x.h.mono bB.size)).size) (L0 x) (L3 x))
    generalize ((nd L (j0 : Int)).k == 1) = r0 at *
    subst hRv
    subst h
    clear e0 kc0 HRX HLEN hj0 rT rY HKD
    go_enter Tryd.func15, Tryd.ntmps15
    go_upto_region 26 with fail
    rw [← hwb]
    clear hwb c0 c1 c2 c3 c4
    go_wp2_with (first
      | (go_at_call 23; (with_reducible refine (HI0.out ⟨wb, LW⟩).mono ?_); rintro r w1 ⟨rfl, b1⟩)
      | fail)
    go_ret
    exact ⟨rfl, bB.trans (b1.mono bB.size)⟩
  have m5 := Lib.hid h
  have k40 : (k == 40) = false := beq_eq_false_iff_ne.2 h
  clear h
  by_cases h : k = 66
  · have hM0 := HLEN.out.2.2.2.1 (by omega)
    have hRv := HRX.out
    rw [if_neg m1.out, if_neg m2.out, if_neg m3.out, if_neg m4.out, if_neg m5.out, if_pos h] at hRv
    obtain ⟨j0, e0, hj0⟩ := HKD.out 0 (by omega)
    rw [e0] at hRv
    obtain ⟨kd, rfl, hkb, kc0⟩ := HK.out 0 (by omega)
    rw [show ksV ks 0 = .int .i64 (j0 : Int) from by unfold ksV; rw [e0]] at kc0
    rw [add_zero] at kc0
    have L0 : ∀ x : Later wb, x.w.cell? ⟨w.heap.size, 0, none⟩ = some (.slice (some ad) N c) := fun x => (x.cell lT).trans (rT.cell 0)
    have L3 : ∀ x : Later wb, x.w.cell? ⟨w.heap.size + 1, 3, none⟩ = some (.slice (some kd) M kc) := fun x => (x.cell lY).trans (rY.cell 3)
    have LW : Below wb.heap.size wb wb := Below.refl _ _
    have HI0 := Lib.hid (fun x : Later wb => HIS.out 0 j0 0 rfl (by omega) e0 hj0 _ kc hkk hkm2.out x.w (bB.trans (x.h.mono bB.size)) ((HK.out.below (bB.trans (x.h.mono bB.size))).more (bB.trans (x.h.mono bB.size)).size) (L0 x) (L3 x))
    generalize ((nd L (j0 : Int)).k == 1) = r0 at *
    generalize hm0 : (m == 0) = rm at *
    subst hRv
    subst h
    clear e0 kc0 HRX HLEN hj0 rT HKD
    cases r0
    all_goals
      go_enter Tryd.func15, Tryd.ntmps15
      go_upto_region 28 with fail
      rw [← hwb]
      clear hwb c0 c1 c2 c3 c4
      go_wp2_with (first
        | (go_at_call 23; (with_reducible refine (HI0.out ⟨wb, LW⟩).mono ?_); rintro r w1 ⟨rfl, b1⟩; have rY1 := rY.below b1 lY; have y2 := rY1.cell 2; simp at y2; have lY1 := rY1.lt)
        | fail)
      go_ret
      exact ⟨ret_bool (by first | rfl | exact hm0), bB.trans (b1.mono bB.size)⟩
  have m6 := Lib.hid h
  have k66 : (k == 66) = false := beq_eq_false_iff_ne.2 h
  clear h
  by_cases h : k = 44
  · have hM1 := HLEN.out.2.2.2.2 (by omega)
    have hRv := HRX.out
    rw [if_neg m1.out, if_neg m2.out, if_neg m3.out, if_neg m4.out, if_neg m5.out, if_neg m6.out, if_pos h] at hRv
    obtain ⟨j0, e0, hj0⟩ := HKD.out 0 (by omega)
    rw [e0] at hRv
    obtain ⟨kd, rfl, hkb, kc0⟩ := HK.out 0 (by omega)
    rw [show ksV ks 0 = .int .i64 (j0 : Int) from by unfold ksV; rw [e0]] at kc0
    rw [add_zero] at kc0
    obtain ⟨j1, e1, hj1⟩ := HKD.out 1 (by omega)
    rw [e1] at hRv
    obtain ⟨kd', ekd, hkb', kc1⟩ := HK.out 1 (by omega)
    injection ekd with ekd
    subst ekd
    rw [show ksV ks 1 = .int .i64 (j1 : Int) from by unfold ksV; rw [e1]] at kc1
    rw [show (1 : Nat) = 0 + 1 from rfl, Addr.add_succ'] at kc1
    have L0 : ∀ x : Later wb, x.w.cell? ⟨w.heap.size, 0, none⟩ = some (.slice (some ad) N c) := fun x => (x.cell lT).trans (rT.cell 0)
    have L3 : ∀ x : Later wb, x.w.cell? ⟨w.heap.size + 1, 3, none⟩ = some (.slice (some kd) M kc) := fun x => (x.cell lY).trans (rY.cell 3)
    have LW : Below wb.heap.size wb wb := Below.refl _ _
    have HI0 := Lib.hid (fun x : Later wb => HIS.out 0 j0 0 rfl (by omega) e0 hj0 _ kc hkk hkm2.out x.w (bB.trans (x.h.mono bB.size)) ((HK.out.below (bB.trans (x.h.mono bB.size))).more (bB.trans (x.h.mono bB.size)).size) (L0 x) (L3 x))
    have HI1 := Lib.hid (fun x : Later wb => HIS.out 1 j1 1 rfl (by omega) e1 hj1 _ kc hkk hkm2.out x.w (bB.trans (x.h.mono bB.size)) ((HK.out.below (bB.trans (x.h.mono bB.size))).more (bB.trans (x.h.mono bB.size)).size) (L0 x) (L3 x))
    generalize ((nd L (j0 : Int)).k == 1) = r0 at *
    generalize ((nd L (j1 : Int)).k == 1) = r1 at *
    generalize hm0 : (m == 0) = rm at *
    subst hRv
    subst h
    clear e0 e1 kc0 kc1 HRX HLEN hj0 hj1 rT HKD
    cases r0
    all_goals cases rm
    all_goals
      go_enter Tryd.func15, Tryd.ntmps15
      go_upto_region 30 with fail
      rw [← hwb]
      clear hwb c0 c1 c2 c3 c4
      have BX : Below wb.heap.size wb wb := Below.refl _ _
      have HI := HI0
      go_wp2_with (first
        | (go_at_call 23; (with_reducible refine (HI0.out ⟨_, BX⟩).mono ?_); rintro r w1 ⟨rfl, b1⟩; replace BX := BX.trans (b1.mono BX.size); have rY1 := rY.below BX lY; have y2 := rY1.cell 2; simp at y2; have lY1 := rY1.lt)
        | (go_at_call 23; (with_reducible refine (HI1.out ⟨_, BX⟩).mono ?_); rintro r w1 ⟨rfl, b1⟩; replace BX := BX.trans (b1.mono BX.size))
        | fail)
      go_ret
      exact ⟨ret_bool (by first | rfl | (cases r1 <;> rfl)), bB.trans (BX.mono bB.size)⟩
  have m7 := Lib.hid h
  have k44 : (k == 44) = false := beq_eq_false_iff_ne.2 h
  clear h
  have hRv := HRX.out
  rw [if_neg m1.out, if_neg m2.out, if_neg m3.out, if_neg m4.out, if_neg m5.out, if_neg m6.out, if_neg m7.out] at hRv
  clear hwb rT rY lT lY HRX HLEN HKD bB
  by_cases h80 : k < 80
  · rw [decide_eq_true h80, Bool.true_or] at hRv
    subst hRv
    go_enter Tryd.func15, Tryd.ntmps15
    go_wp2
    go_ret
    exact ⟨rfl, (by (exact bl))⟩
  · rw [decide_eq_false h80, Bool.false_or] at hRv
    by_cases h87 : 87 < k
    · have h87' : k > 87 := h87
      rw [decide_eq_true h87] at hRv
      subst hRv
      go_enter Tryd.func15, Tryd.ntmps15
      go_wp2
      go_ret
      exact ⟨rfl, (by (exact bl))⟩
    · have h87' : ¬ k > 87 := h87
      rw [decide_eq_false h87] at hRv
      subst hRv
      go_enter Tryd.func15, Tryd.ntmps15
      go_wp2
      go_ret
      exact ⟨rfl, (by (exact bl))⟩
end Go.Proofs.YtpkdhciokiomlaaDoor
