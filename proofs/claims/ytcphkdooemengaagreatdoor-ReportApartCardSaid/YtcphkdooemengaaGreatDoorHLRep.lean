/- The walks of chapter 19's laws ReportTrees and ReportApart. -/
import Derived.Test.YtcphkdooemengaaGreatDoorHPTr
import Derived.Test.YtcphkdooemengaaGreatDoorHRTr
import Derived.Test.YtcphkdooemengaaGreatDoorHLt
import Derived.Test.YtcphkdooemengaaGreatDoorHBZ27
import Derived.Test.YtcphkdooemengaaGreatDoorHBZ26
namespace Go.Proofs.YtcphkdooemengaaGreatDoor
set_option linter.unusedVariables false
set_option linter.unusedSimpArgs false
set_option linter.unnecessarySimpa false
open Go.RowKit
attribute [local go_sem] cell_alloc_add cell_set_add lt_more
theorem Tree_any (A : Option Addr) (L : List Nd) (c : Nat) (hc : L.length ≤ c) (hm : c ≤ maxLen) (hL : L.length ≤ 2500) (hx : ∀ j : Nat, (nd L j).x.size ≤ 2500) (w : World) (h : TreeAt w w.heap.size A L) (hmx : Mx w) (hw00 : 0 < w.heap.size) (hT : Tab w) (hZ : Tz w) : Calls Tryz.prog 7 #[.agg #[.slice A L.length c]] w fun r w' => r = .returned (.tuple #[.string (treeT L), .int .i64 (chk L).2]) ∧ Below w.heap.size w w' :=
  callsIn_wide.1 (Tree_in A L c hc hm hL hx w h hmx hw00 hT hZ)
/-- The library's tables stand. -/
structure Env (w : World) : Prop where
  t : Tab w
  z : Tz w
  m : Mx w
  p : 0 < w.heap.size
theorem Env.keep {w w' : World} (h : Env w) (hb : Below w.heap.size w w') : Env w' := ⟨h.t.keep hb, h.z.keep hb, h.m.below hb h.p, by have := hb.size; have := h.p; omega⟩
set_option maxRecDepth 100000 in
set_option maxHeartbeats 8000000 in
theorem ReportTrees_any (A : Option Addr) (L : List Nd) (N c : Nat) (hN : L.length = N) (hc : N ≤ c) (hm : c ≤ maxLen) (hx : ∀ j : Nat, (nd L j).ks.length ≤ 1000000000000000 ∧ (nd L j).x.size ≤ 1000000000000000) (w : World) (h : TreeAt w w.heap.size A L) (hE : Env w) : Calls Tryz.prog 3 #[.agg #[.slice A N c]] w fun r w' => r = .returned (.bool true) ∧ Below w.heap.size w w' := by
  obtain ⟨wa, hwa⟩ : ∃ wa : World, wa = w.alloc (.cells #[.slice A N c] 24) := ⟨_, rfl⟩
  have bA : Below w.heap.size w wa := by rw [hwa]; exact (by (exact bl))
  have zA : w.heap.size < wa.heap.size := by rw [hwa]; simp
  have rT : Row wa w.heap.size 24 #[.slice A N c] := by rw [hwa]; exact row_new rfl
  have t0 := rT.cell 0
  simp at t0
  have HG := Lib.hid (hN ▸ great_any A L c (by omega) hm hx wa (h.later bA))
  have HE := Lib.hid hE
  have HN := Lib.hid hN
  have HLE := Lib.hid (fun (hg : wt L ≤ 2500) W (hb : Below w.heap.size w W) => lent_any A L N hN c hc hm (by have := wt_len L; omega) (fun j => by have := wt_nd L j; omega) W (h.later hb))
  have HPT := Lib.hid (fun (hg : wt L ≤ 2500) (A1 : Option Addr) (c1 : Nat) (hc1 : N ≤ c1) (hm1 : c1 ≤ maxLen) W (hb : Below w.heap.size w W) (hT : TreeAt W W.heap.size A1 L) => hN ▸ Tree_any A1 L c1 (by omega) hm1 (by have := wt_len L; omega) (fun j => by have := wt_nd L j; omega) W hT (hE.keep hb).m (hE.keep hb).p (hE.keep hb).t (hE.keep hb).z)
  have HRT := Lib.hid (fun (hg : wt L ≤ 2500) W (hb : Below w.heap.size w W) => hN ▸ rTree_any A L c (by omega) hm (by have := wt_len L; omega) (fun j => by have := wt_nd L j; omega) W (h.later hb))
  have HBK := Lib.hid (fun (hg : wt L ≤ 2500) (l : List NdV) (hl : l.map (·.1) = L) (g c1 base : Nat) W (hb : Below w.heap.size w W) (hT : LentT W base (.slice (some ⟨g, 0, none⟩) N c1) l) => back_any l L hl g N c1 base (by rw [← hN, ← hl, List.length_map]) (by have := wt_len L; omega) (fun p hp => by
    have h1 : p.1 ∈ L := by rw [← hl]; exact List.mem_map_of_mem hp
    obtain ⟨i, hi, hi2⟩ := List.getElem_of_mem h1
    have h3 := nd_get hi
    rw [List.getElem?_eq_getElem hi] at h3
    have := wt_nd L i
    rw [← Option.some.inj h3, hi2] at this
    omega) A c hc hm W hT (h.later hb))
  clear h hx hE hN
  go_enter Tryz.func3, Tryz.ntmps3
  go_upto_region 1 with fail
  rw [← hwa]
  clear hwa
  by_cases hg1 : 2500 < wt L
  · rw [decide_eq_true hg1] at HG
    go_wp2_with (first
      | (go_at_call 5; (with_reducible refine HG.out.mono ?_); rintro e w1 ⟨rfl, b1⟩)
      | fail)
    go_ret
    exact ⟨rfl, bA.trans (b1.mono (by omega))⟩
  · rw [decide_eq_false hg1] at HG
    have hg : wt L ≤ 2500 := by omega
    have HLE := Lib.hid (HLE.out hg)
    have HPT := Lib.hid (HPT.out hg)
    have HRT := Lib.hid (HRT.out hg)
    have HBK := Lib.hid (HBK.out hg)
    clear hg hg1
    go_upto_region 4 with (first
      | (go_at_call 5; (with_reducible refine HG.out.mono ?_); rintro e w1 ⟨rfl, b1⟩; have q1 := bA.trans (b1.mono bA.size); have rT1 := rT.below b1 zA; have lT1 := rT1.lt; have e1 := rT1.cell 0; simp at e1)
      | (go_at_call 6; (with_reducible refine (HLE.out _ q1).mono ?_); rintro r w2 ⟨⟨v2, l2, rfl, hT2, hl2⟩, b2⟩; obtain ⟨A2, c2, hv2, hc2, hm2, hTT2, g2, hg2, hmk2⟩ := hT2.tree; subst hg2; subst hv2)
      | fail)
    have hn2 : l2.length = N := by rw [← HN.out, ← hl2, List.length_map]
    have q2 := q1.trans (b2.mono q1.size)
    obtain ⟨w3, hw3⟩ : ∃ w3 : World, w3 = w2.alloc (.cells #[.slice (some ⟨g2, 0, none⟩) l2.length c2] 24) := ⟨_, rfl⟩
    obtain ⟨gX, hgX⟩ : ∃ gX, gX = w2.heap.size := ⟨_, rfl⟩
    rw [← hw3, ← hgX]
    rw [hl2] at hTT2
    have rX : Row w3 gX 24 #[.slice (some ⟨g2, 0, none⟩) N c2] := by rw [hw3, hn2]; exact row_new hgX
    have rT3 : Row w3 w.heap.size 24 #[.slice A N c] := by rw [hw3]; exact (rT1.below b2 lT1).alloc _
    have q3 : Below w.heap.size w w3 := by rw [hw3]; exact q2.alloc q2.size _
    have HT3 := Lib.hid (show LentT w3 w1.heap.size (.slice (some ⟨g2, 0, none⟩) N c2) l2 from by
      rw [hw3, ← hn2]; exact hT2.below ((Below.refl _ _).alloc (Nat.le_refl _) _))
    have HTT3 := Lib.hid (show TreeAt w3 w3.heap.size (some ⟨g2, 0, none⟩) L from by rw [hw3]; exact hTT2.later ((Below.refl _ _).alloc (Nat.le_refl _) _))
    have hc2' : N ≤ c2 := by omega
    have HL2 := Lib.hid hl2
    clear hT2 hTT2 hl2 hw3 hgX hmk2 hc2 rT rT1 e1 t0 zA b1 b2 q1 q2 HLE HG hn2 lT1 bA
    have lX := rX.lt
    have lT3 := rT3.lt
    have x0 := rX.cell 0
    have t3 := rT3.cell 0
    simp at x0 t3
    have heq : ∀ a : Int, (a == a) = true := fun a => by simp
    go_wp2_with (first
      | (go_at_call 7; (with_reducible refine (HPT.out _ c2 hc2' hm2 _ q3 HTT3.out).mono ?_); rintro r w4 ⟨rfl, b4⟩; have q4 := q3.trans (b4.mono q3.size); have rX4 := rX.below b4 lX; have rT4 := rT3.below b4 lT3; have t4 := rT4.cell 0; have lX4 := rX4.lt; have lT4 := rT4.lt; simp at t4)
      | (go_at_call 8; (with_reducible refine (HRT.out _ q4).mono ?_); rintro r w5 ⟨rfl, b5⟩; have q5 := q4.trans (b5.mono q4.size); have b35 := b4.trans (b5.mono b4.size); have rX5 := rX4.below b5 lX4; have rT5 := rT4.below b5 lT4; have x5 := rX5.cell 0; have t5 := rT5.cell 0; simp at x5 t5; have HB5 := Lib.hid (HBK.out l2 HL2.out g2 c2 w1.heap.size w5 q5 (HT3.out.below b35)))
      | (go_at_call 9; (with_reducible refine HB5.out.mono ?_); rintro r w6 ⟨rfl, b6⟩; have q6 := q5.trans (b6.mono q5.size))
      | (go_at_call 10; (with_reducible refine (known_any _ (HE.out.keep q6).t).mono ?_); rintro r wk ⟨rfl, bk⟩)
      | fail)
    go_ret
    exact ⟨rfl, q6.trans (bk.mono q6.size)⟩
set_option maxRecDepth 100000 in
set_option maxHeartbeats 8000000 in
theorem ReportApart_any (A A' : Option Addr) (L M : List Nd) (n m c d : Nat) (hn : L.length = n) (hm : M.length = m) (hnc : n ≤ c) (hmd : m ≤ d) (hcm : c ≤ maxLen) (hdm : d ≤ maxLen) (hx : ∀ j : Nat, (nd L j).ks.length ≤ 1000000000000000 ∧ (nd L j).x.size ≤ 1000000000000000) (hy : ∀ j : Nat, (nd M j).ks.length ≤ 1000000000000000 ∧ (nd M j).x.size ≤ 1000000000000000) (w : World) (h : TreeAt w w.heap.size A L) (h' : TreeAt w w.heap.size A' M) (hE : Env w) : Calls Tryz.prog 4 #[.agg #[.slice A n c], .agg #[.slice A' m d]] w fun r w' => r = .returned (.bool true) ∧ Below w.heap.size w w' := by
  obtain ⟨wa, hwa⟩ : ∃ wa : World, wa = (w.alloc (.cells #[.slice A n c] 24)).alloc (.cells #[.slice A' m d] 24) := ⟨_, rfl⟩
  have bA : Below w.heap.size w wa := by rw [hwa]; exact (by (exact bl))
  have zA : w.heap.size + 1 < wa.heap.size := by rw [hwa]; simp
  have zA0 : w.heap.size < wa.heap.size := by omega
  have rA : Row wa w.heap.size 24 #[.slice A n c] := by rw [hwa]; exact (row_new rfl).alloc _
  have rB : Row wa (w.heap.size + 1) 24 #[.slice A' m d] := by rw [hwa]; exact row_new (by simp)
  have a0 := rA.cell 0
  have e0 := rB.cell 0
  simp at a0 e0
  have HE := Lib.hid hE
  have HGA := Lib.hid (fun W (hb : Below w.heap.size w W) => hn ▸ great_any A L c (by omega) hcm hx W (h.later hb))
  have HGB := Lib.hid (fun W (hb : Below w.heap.size w W) => hm ▸ great_any A' M d (by omega) hdm hy W (h'.later hb))
  have HPA := Lib.hid (fun (hg : wt L ≤ 2500) W (hb : Below w.heap.size w W) => hn ▸ Tree_any A L c (by omega) hcm (by have := wt_len L; omega) (fun j => by have := wt_nd L j; omega) W (h.later hb) (hE.keep hb).m (hE.keep hb).p (hE.keep hb).t (hE.keep hb).z)
  have HPB := Lib.hid (fun (hg : wt M ≤ 2500) W (hb : Below w.heap.size w W) => hm ▸ Tree_any A' M d (by omega) hdm (by have := wt_len M; omega) (fun j => by have := wt_nd M j; omega) W (h'.later hb) (hE.keep hb).m (hE.keep hb).p (hE.keep hb).t (hE.keep hb).z)
  have HRA := Lib.hid (fun (hg : wt L ≤ 2500) W (hb : Below w.heap.size w W) => hn ▸ rGoodT_any A L c (by omega) hcm (by have := wt_len L; omega) (fun j => by have := wt_nd L j; omega) W (h.later hb))
  have HRB := Lib.hid (fun (hg : wt M ≤ 2500) W (hb : Below w.heap.size w W) => hm ▸ rGoodT_any A' M d (by omega) hdm (by have := wt_len M; omega) (fun j => by have := wt_nd M j; omega) W (h'.later hb))
  have HSM := Lib.hid (fun W (hb : Below w.heap.size w W) => rSame_any A A' L M n c m d hn hm hnc hmd hcm hdm W (h.later hb) (h'.later hb))
  have HAP := Lib.hid (fun hL hM => trees_apart (L := L) (M := M) hL hM)
  have HDA := Lib.hid (show goodT L = decide ((chk L).2 = 0) from rfl)
  have HDB := Lib.hid (show goodT M = decide ((chk M).2 = 0) from rfl)
  rw [HDA.out] at HRA
  rw [HDB.out] at HRB
  clear h h' hx hy hE HDA HDB hn hm
  generalize treeT L = tL at *
  generalize treeT M = tM at *
  generalize (chk L).2 = eL at *
  generalize (chk M).2 = eM at *
  generalize sameB L M = sm at *
  go_enter Tryz.func4, Tryz.ntmps4
  go_upto_region 1 with fail
  rw [← hwa]
  clear hwa
  by_cases hg1 : 2500 < wt L
  · rw [decide_eq_true hg1] at HGA
    go_wp2_with (first | (go_at_call 5; (with_reducible refine (HGA.out _ bA).mono ?_); rintro e w1 ⟨rfl, b1⟩; have q1 := bA.trans (b1.mono bA.size); have rA1 := rA.below b1 zA0; have rB1 := rB.below b1 zA; have a1 := rA1.cell 0; have e1 := rB1.cell 0; have lA1 := rA1.lt; have lB1 := rB1.lt; simp at a1 e1) | fail)
    go_ret
    exact ⟨rfl, q1⟩
  · rw [decide_eq_false hg1] at HGA
    have HPA := Lib.hid (HPA.out (by omega))
    have HRA := Lib.hid (HRA.out (by omega))
    by_cases hg2 : 2500 < wt M
    · rw [decide_eq_true hg2] at HGB
      go_wp2_with (first | (go_at_call 5; (with_reducible refine (HGA.out _ bA).mono ?_); rintro e w1 ⟨rfl, b1⟩; have q1 := bA.trans (b1.mono bA.size); have rA1 := rA.below b1 zA0; have rB1 := rB.below b1 zA; have a1 := rA1.cell 0; have e1 := rB1.cell 0; have lA1 := rA1.lt; have lB1 := rB1.lt; simp at a1 e1) | (go_at_call 5; (with_reducible refine (HGB.out _ q1).mono ?_); rintro e w2 ⟨rfl, b2⟩; have q2 := q1.trans (b2.mono q1.size); have rA2 := rA1.below b2 lA1; have rB2 := rB1.below b2 lB1; have a2 := rA2.cell 0; have e2 := rB2.cell 0; have lA2 := rA2.lt; have lB2 := rB2.lt; simp at a2 e2) | fail)
      go_ret
      exact ⟨rfl, q2⟩
    · rw [decide_eq_false hg2] at HGB
      have HPB := Lib.hid (HPB.out (by omega))
      have HRB := Lib.hid (HRB.out (by omega))
      clear hg1 hg2
      by_cases hL : eL = 0
      · by_cases hM : eM = 0
        · have HQ := Lib.hid (HAP.out hL hM)
          subst hL hM
          clear HRA HRB HAP
          by_cases hts : tL = tM
          · have hsm := HQ.out.1 hts
            subst hts hsm
            clear HQ
            go_wp2_with (first | (go_at_call 5; (with_reducible refine (HGA.out _ bA).mono ?_); rintro e w1 ⟨rfl, b1⟩; have q1 := bA.trans (b1.mono bA.size); have rA1 := rA.below b1 zA0; have rB1 := rB.below b1 zA; have a1 := rA1.cell 0; have e1 := rB1.cell 0; have lA1 := rA1.lt; have lB1 := rB1.lt; simp at a1 e1) | (go_at_call 5; (with_reducible refine (HGB.out _ q1).mono ?_); rintro e w2 ⟨rfl, b2⟩; have q2 := q1.trans (b2.mono q1.size); have rA2 := rA1.below b2 lA1; have rB2 := rB1.below b2 lB1; have a2 := rA2.cell 0; have e2 := rB2.cell 0; have lA2 := rA2.lt; have lB2 := rB2.lt; simp at a2 e2) | (go_at_call 7; (with_reducible refine (HPA.out _ q2).mono ?_); rintro r w3 ⟨rfl, b3⟩; have q3 := q2.trans (b3.mono q2.size); have rA3 := rA2.below b3 lA2; have rB3 := rB2.below b3 lB2; have a3 := rA3.cell 0; have e3 := rB3.cell 0; have lA3 := rA3.lt; have lB3 := rB3.lt; simp at a3 e3) | (go_at_call 7; (with_reducible refine (HPB.out _ q3).mono ?_); rintro r w4 ⟨rfl, b4⟩; have q4 := q3.trans (b4.mono q3.size); have rA4 := rA3.below b4 lA3; have rB4 := rB3.below b4 lB3; have a4 := rA4.cell 0; have e4 := rB4.cell 0; have lA4 := rA4.lt; have lB4 := rB4.lt; simp at a4 e4) | (go_at_call 12; (with_reducible refine (HSM.out _ q4).mono ?_); rintro r w6 ⟨rfl, b6⟩; have q6 := q4.trans (b6.mono q4.size)) | (go_at_call 10; (with_reducible refine (known_any _ (HE.out.keep q6).t).mono ?_); rintro r wk ⟨rfl, bk⟩) | fail)
            go_ret
            exact ⟨rfl, q6.trans (bk.mono q6.size)⟩
          · have hsm : sm = false := by
              cases sm with
              | false => rfl
              | true => exact absurd (HQ.out.2 rfl) hts
            have hne : ¬ tL.toList = tM.toList := fun h => hts (toL_inj h)
            have hnb : (tL.toList == tM.toList) = false := by simpa using hne
            subst hsm
            clear HQ
            go_wp2_with (first | (go_at_call 5; (with_reducible refine (HGA.out _ bA).mono ?_); rintro e w1 ⟨rfl, b1⟩; have q1 := bA.trans (b1.mono bA.size); have rA1 := rA.below b1 zA0; have rB1 := rB.below b1 zA; have a1 := rA1.cell 0; have e1 := rB1.cell 0; have lA1 := rA1.lt; have lB1 := rB1.lt; simp at a1 e1) | (go_at_call 5; (with_reducible refine (HGB.out _ q1).mono ?_); rintro e w2 ⟨rfl, b2⟩; have q2 := q1.trans (b2.mono q1.size); have rA2 := rA1.below b2 lA1; have rB2 := rB1.below b2 lB1; have a2 := rA2.cell 0; have e2 := rB2.cell 0; have lA2 := rA2.lt; have lB2 := rB2.lt; simp at a2 e2) | (go_at_call 7; (with_reducible refine (HPA.out _ q2).mono ?_); rintro r w3 ⟨rfl, b3⟩; have q3 := q2.trans (b3.mono q2.size); have rA3 := rA2.below b3 lA2; have rB3 := rB2.below b3 lB2; have a3 := rA3.cell 0; have e3 := rB3.cell 0; have lA3 := rA3.lt; have lB3 := rB3.lt; simp at a3 e3) | (go_at_call 7; (with_reducible refine (HPB.out _ q3).mono ?_); rintro r w4 ⟨rfl, b4⟩; have q4 := q3.trans (b4.mono q3.size); have rA4 := rA3.below b4 lA3; have rB4 := rB3.below b4 lB3; have a4 := rA4.cell 0; have e4 := rB4.cell 0; have lA4 := rA4.lt; have lB4 := rB4.lt; simp at a4 e4) | (go_at_call 12; (with_reducible refine (HSM.out _ q4).mono ?_); rintro r w6 ⟨rfl, b6⟩; have q6 := q4.trans (b6.mono q4.size)) | (go_at_call 10; (with_reducible refine (known_any _ (HE.out.keep q6).t).mono ?_); rintro r wk ⟨rfl, bk⟩) | fail)
            go_ret
            exact ⟨rfl, q6.trans (bk.mono q6.size)⟩
        · rw [decide_eq_false hM] at HRB
          subst hL
          have hMb : (eM == 0) = false := by simpa using hM
          have hMn : (eM != 0) = true := by simpa using hM
          clear HAP
          go_wp2_with (first | (go_at_call 5; (with_reducible refine (HGA.out _ bA).mono ?_); rintro e w1 ⟨rfl, b1⟩; have q1 := bA.trans (b1.mono bA.size); have rA1 := rA.below b1 zA0; have rB1 := rB.below b1 zA; have a1 := rA1.cell 0; have e1 := rB1.cell 0; have lA1 := rA1.lt; have lB1 := rB1.lt; simp at a1 e1) | (go_at_call 5; (with_reducible refine (HGB.out _ q1).mono ?_); rintro e w2 ⟨rfl, b2⟩; have q2 := q1.trans (b2.mono q1.size); have rA2 := rA1.below b2 lA1; have rB2 := rB1.below b2 lB1; have a2 := rA2.cell 0; have e2 := rB2.cell 0; have lA2 := rA2.lt; have lB2 := rB2.lt; simp at a2 e2) | (go_at_call 7; (with_reducible refine (HPA.out _ q2).mono ?_); rintro r w3 ⟨rfl, b3⟩; have q3 := q2.trans (b3.mono q2.size); have rA3 := rA2.below b3 lA2; have rB3 := rB2.below b3 lB2; have a3 := rA3.cell 0; have e3 := rB3.cell 0; have lA3 := rA3.lt; have lB3 := rB3.lt; simp at a3 e3) | (go_at_call 7; (with_reducible refine (HPB.out _ q3).mono ?_); rintro r w4 ⟨rfl, b4⟩; have q4 := q3.trans (b4.mono q3.size); have rA4 := rA3.below b4 lA3; have rB4 := rB3.below b4 lB3; have a4 := rA4.cell 0; have e4 := rB4.cell 0; have lA4 := rA4.lt; have lB4 := rB4.lt; simp at a4 e4) | (go_at_call 11; (with_reducible refine (HRA.out _ q4).mono ?_); rintro r w5 ⟨rfl, b5⟩; have q5 := q4.trans (b5.mono q4.size); have rB5 := rB4.below b5 lB4; have e5 := rB5.cell 0; simp at e5) | (go_at_call 11; (with_reducible refine (HRB.out _ q5).mono ?_); rintro r w6 ⟨rfl, b6⟩; have q6 := q5.trans (b6.mono q5.size)) | (go_at_call 10; (with_reducible refine (known_any _ (HE.out.keep q6).t).mono ?_); rintro r wk ⟨rfl, bk⟩) | fail)
          go_ret
          exact ⟨rfl, q6.trans (bk.mono q6.size)⟩
      · rw [decide_eq_false hL] at HRA
        have hLb : (eL == 0) = false := by simpa using hL
        have hLn : (eL != 0) = true := by simpa using hL
        by_cases hM : eM = 0
        · subst hM
          clear HAP
          go_wp2_with (first | (go_at_call 5; (with_reducible refine (HGA.out _ bA).mono ?_); rintro e w1 ⟨rfl, b1⟩; have q1 := bA.trans (b1.mono bA.size); have rA1 := rA.below b1 zA0; have rB1 := rB.below b1 zA; have a1 := rA1.cell 0; have e1 := rB1.cell 0; have lA1 := rA1.lt; have lB1 := rB1.lt; simp at a1 e1) | (go_at_call 5; (with_reducible refine (HGB.out _ q1).mono ?_); rintro e w2 ⟨rfl, b2⟩; have q2 := q1.trans (b2.mono q1.size); have rA2 := rA1.below b2 lA1; have rB2 := rB1.below b2 lB1; have a2 := rA2.cell 0; have e2 := rB2.cell 0; have lA2 := rA2.lt; have lB2 := rB2.lt; simp at a2 e2) | (go_at_call 7; (with_reducible refine (HPA.out _ q2).mono ?_); rintro r w3 ⟨rfl, b3⟩; have q3 := q2.trans (b3.mono q2.size); have rA3 := rA2.below b3 lA2; have rB3 := rB2.below b3 lB2; have a3 := rA3.cell 0; have e3 := rB3.cell 0; have lA3 := rA3.lt; have lB3 := rB3.lt; simp at a3 e3) | (go_at_call 7; (with_reducible refine (HPB.out _ q3).mono ?_); rintro r w4 ⟨rfl, b4⟩; have q4 := q3.trans (b4.mono q3.size); have rA4 := rA3.below b4 lA3; have rB4 := rB3.below b4 lB3; have a4 := rA4.cell 0; have e4 := rB4.cell 0; have lA4 := rA4.lt; have lB4 := rB4.lt; simp at a4 e4) | (go_at_call 11; (with_reducible refine (HRA.out _ q4).mono ?_); rintro r w5 ⟨rfl, b5⟩; have q5 := q4.trans (b5.mono q4.size); have rB5 := rB4.below b5 lB4; have e5 := rB5.cell 0; simp at e5) | (go_at_call 11; (with_reducible refine (HRB.out _ q5).mono ?_); rintro r w6 ⟨rfl, b6⟩; have q6 := q5.trans (b6.mono q5.size)) | (go_at_call 10; (with_reducible refine (known_any _ (HE.out.keep q6).t).mono ?_); rintro r wk ⟨rfl, bk⟩) | fail)
          go_ret
          exact ⟨rfl, q6.trans (bk.mono q6.size)⟩
        · rw [decide_eq_false hM] at HRB
          have hMb : (eM == 0) = false := by simpa using hM
          clear HAP
          go_wp2_with (first | (go_at_call 5; (with_reducible refine (HGA.out _ bA).mono ?_); rintro e w1 ⟨rfl, b1⟩; have q1 := bA.trans (b1.mono bA.size); have rA1 := rA.below b1 zA0; have rB1 := rB.below b1 zA; have a1 := rA1.cell 0; have e1 := rB1.cell 0; have lA1 := rA1.lt; have lB1 := rB1.lt; simp at a1 e1) | (go_at_call 5; (with_reducible refine (HGB.out _ q1).mono ?_); rintro e w2 ⟨rfl, b2⟩; have q2 := q1.trans (b2.mono q1.size); have rA2 := rA1.below b2 lA1; have rB2 := rB1.below b2 lB1; have a2 := rA2.cell 0; have e2 := rB2.cell 0; have lA2 := rA2.lt; have lB2 := rB2.lt; simp at a2 e2) | (go_at_call 7; (with_reducible refine (HPA.out _ q2).mono ?_); rintro r w3 ⟨rfl, b3⟩; have q3 := q2.trans (b3.mono q2.size); have rA3 := rA2.below b3 lA2; have rB3 := rB2.below b3 lB2; have a3 := rA3.cell 0; have e3 := rB3.cell 0; have lA3 := rA3.lt; have lB3 := rB3.lt; simp at a3 e3) | (go_at_call 7; (with_reducible refine (HPB.out _ q3).mono ?_); rintro r w4 ⟨rfl, b4⟩; have q4 := q3.trans (b4.mono q3.size); have rA4 := rA3.below b4 lA3; have rB4 := rB3.below b4 lB3; have a4 := rA4.cell 0; have e4 := rB4.cell 0; have lA4 := rA4.lt; have lB4 := rB4.lt; simp at a4 e4) | (go_at_call 11; (with_reducible refine (HRA.out _ q4).mono ?_); rintro r w5 ⟨rfl, b5⟩; have q5 := q4.trans (b5.mono q4.size); have rB5 := rB4.below b5 lB4; have e5 := rB5.cell 0; simp at e5) | (go_at_call 11; (with_reducible refine (HRB.out _ q5).mono ?_); rintro r w6 ⟨rfl, b6⟩; have q6 := q5.trans (b6.mono q5.size)) | (go_at_call 10; (with_reducible refine (known_any _ (HE.out.keep q6).t).mono ?_); rintro r wk ⟨rfl, bk⟩) | fail)
          go_ret
          exact ⟨rfl, q6.trans (bk.mono q6.size)⟩
end Go.Proofs.YtcphkdooemengaaGreatDoor
