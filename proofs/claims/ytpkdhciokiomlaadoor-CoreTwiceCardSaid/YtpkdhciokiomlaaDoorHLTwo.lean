/- The walk of chapter 5's law CoreTwice. -/
import Derived.Test.YtpkdhciokiomlaaDoorHTw11
import Derived.Test.YtpkdhciokiomlaaDoorHPn2
import Derived.Test.YtpkdhciokiomlaaDoorHBZ20
import Derived.Test.YtpkdhciokiomlaaDoorHBZ21
import Derived.Test.YtpkdhciokiomlaaDoorHBZ22
namespace Go.Proofs.YtpkdhciokiomlaaDoor
set_option linter.unusedVariables false
set_option linter.unusedSimpArgs false
set_option linter.unnecessarySimpa false
open Go.RowKit
attribute [local go_sem] cell_alloc_add cell_set_add lt_more
theorem tree_of_own {W : World} {base n c : Nat} {A : Option Addr} {l : List NdV} {S : List Nd} (h : OwnT W base (.slice A n c) l) (hl : l.map (·.1) = S) : TreeAt W W.heap.size A S := by
  obtain ⟨Aa, ca, ea, _, _, hT⟩ := h.tree
  injection ea with e1 _ e3
  subst e1
  rw [hl] at hT
  exact hT
set_option maxRecDepth 100000 in
set_option maxHeartbeats 16000000 in
theorem CoreTwice_any (A : Option Addr) (L : List Nd) (n c : Nat) (hn : L.length = n) (hc : n ≤ c) (hm : c ≤ maxLen) (hx : ∀ j : Nat, (nd L j).ks.length ≤ 1000000000000000 ∧ (nd L j).x.size ≤ 1000000000000000) (w : World) (h : TreeAt w w.heap.size A L) (hmx : Mx w) (hw00 : 0 < w.heap.size) : Calls Tryd.prog 3 #[.agg #[.slice A n c]] w fun e w' => e = .returned (.bool true) ∧ Below w.heap.size w w' := by
  have HG := Lib.hid (fun W (hb : Below w.heap.size w W) => hn ▸ great_any A L c (by omega) hm hx W (h.later hb))
  have HX := Lib.hid (fun W (hb : Below w.heap.size w W) => And.intro (hmx.below hb hw00) (Nat.lt_of_lt_of_le hw00 hb.size))
  have hxs : wt L ≤ 3000 → (∀ j : Nat, (nd L j).x.size ≤ 4000000) ∧ (∀ j : Nat, (nd L j).ks.length ≤ 3000) ∧ n ≤ 3000 := fun hg => ⟨fun j => by have := wt_nd L j; omega, fun j => by have := wt_nd L j; omega, by have := wt_len L; omega⟩
  obtain ⟨wa, hwa⟩ : ∃ wa : World, wa = w.alloc (.cells #[.slice A n c] 24) := ⟨_, rfl⟩
  have bA : Below w.heap.size w wa := by rw [hwa]; exact (by (exact bl))
  have rT : Row wa w.heap.size 24 #[.slice A n c] := by rw [hwa]; exact row_new rfl
  have t0 := rT.cell 0
  simp at t0
  have lT := rT.lt
  have HM := Lib.hid hm
  by_cases hg1 : 3000 < wt L
  · rw [decide_eq_true hg1] at HG
    clear h hmx hxs hx
    go_enter Tryd.func3, Tryd.ntmps3
    go_upto_region 1 with fail
    rw [← hwa]
    clear hwa
    go_wp2_with (first
      | (go_at_call 4; (with_reducible refine (HG.out _ bA).mono ?_); rintro e w1 ⟨rfl, b1⟩)
      | fail)
    go_ret
    exact ⟨rfl, bA.trans (b1.mono bA.size)⟩
  · rw [decide_eq_false hg1] at HG
    obtain ⟨hxx, hkk, hn3⟩ := hxs (by omega)
    have hki : ∀ j : Int, (nd L j).ks.length ≤ 3000 := int_of (Q := fun z => z.ks.length ≤ 3000) (Nat.zero_le _) hkk
    have hxi : ∀ j : Int, (nd L j).x.size ≤ 4000000 := int_of (Q := fun z => z.x.size ≤ 4000000) (Nat.zero_le _) hxx
    have hki6 : ∀ j : Int, (nd L j).ks.length ≤ 1000000 := fun j => by have := hki j; omega
    have hsm := strip_small2 hki hxi
    have HST := Lib.hid (fun W (hb : Below w.heap.size w W) => Strip_any A L n c hn hc hm (by omega) hki6 hxx W (h.later hb) (HX.out W hb).1 (HX.out W hb).2)
    have HT := Lib.hid h
    have HTW := Lib.hid (fun hz => strip_twice (by omega) hki6 hz)
    generalize hsT : stripT L = sT at *
    obtain ⟨S, er⟩ := sT
    simp only at hsm HST HTW
    have HSM := Lib.hid hsm
    have hsl := hsm.len
    generalize hsn : S.length = sn at *
    have HSN := Lib.hid hsn
    rw [hn] at hsl
    have HNL := Lib.hid hn
    have HHX := Lib.hid hxx
    clear h hmx hxs hx hxx hkk hki hki6 hxi hsT hg1 hn hsm hsn
    go_enter Tryd.func3, Tryd.ntmps3
    go_upto_region 1 with fail
    rw [← hwa]
    clear hwa
    go_upto_region 4 with (first
      | (go_at_call 4; (with_reducible refine (HG.out _ bA).mono ?_); rintro e w1 ⟨rfl, b1⟩; have q1 := bA.trans (b1.mono bA.size); have rT1 := rT.below b1 lT; have t1 := rT1.cell 0; simp at t1; have lT1 := rT1.lt)
      | (go_at_call 5; (with_reducible refine (HST.out _ q1).mono ?_); rintro r w2 ⟨⟨v2, l2, rfl, hO2, hl2⟩, b2⟩; obtain ⟨A2, c2, hv2, hc2, hm2⟩ := own_slice hO2.row; subst hv2; have q2 := q1.trans (b2.mono q1.size); have rT2 := rT1.below b2 lT1)
      | fail)
    have hln2 : l2.length = sn := by have := congrArg List.length hl2; rw [List.length_map, HSN.out] at this; exact this
    simp only [hln2]
    rw [hln2] at hO2 hc2
    obtain ⟨g3, hg3⟩ : ∃ g3, g3 = w2.heap.size := ⟨_, rfl⟩
    obtain ⟨w3, hw3⟩ : ∃ w3 : World, w3 = w2.alloc (.cells #[.slice A2 sn c2] 24) := ⟨_, rfl⟩
    have b23 : Below w2.heap.size w2 w3 := by rw [hw3]; exact (Below.refl _ _).alloc (Nat.le_refl _) _
    have r3 : Row w3 g3 24 #[.slice A2 sn c2] := by rw [hw3]; exact row_new hg3
    have rT3 := rT2.below b23 rT2.lt
    have q3 := q2.trans (b23.mono q2.size)
    have HS3 := Lib.hid (fun W (hb : Below w3.heap.size w3 W) => (tree_of_own (hO2.below b23) hl2).later hb)
    have lT3 := rT3.lt
    have l3 := r3.lt
    have x3 := r3.cell 0
    have t3 := rT3.cell 0
    simp at x3 t3
    rw [← hw3, ← hg3]
    clear hw3 hg3 HG HST hO2 rT rT1 rT2 t0 t1 lT lT1 b1 b2 b23 bA q1 hl2 hln2
    rcases HSM.out.er with her | ⟨her, hemp⟩
    · subst her
      have HSM := Lib.hid HSM.out
      have htw := HTW.out rfl
      have HTR := Lib.hid htw
      have hk3 : ∀ j : Int, (nd S j).ks.length ≤ 1000000 := fun j => by have := HSM.out.ks j; omega
      have HSA := Lib.hid (fun W (hb : Below w3.heap.size w3 W) => Strip_any A2 S sn c2 HSN.out hc2 hm2 (by omega) hk3 (fun j => HSM.out.x j) W (HS3.out W hb) (HX.out W (q3.trans (hb.mono q3.size))).1 (HX.out W (q3.trans (hb.mono q3.size))).2)
      rw [htw.again] at HSA
      simp only at HSA
      have HSC := Lib.hid (fun W (hb : Below w3.heap.size w3 W) => HSN.out ▸ Check_any A2 S c2 (by rw [HSN.out]; exact hc2) hm2 (by rw [HSN.out]; omega) (fun j => HSM.out.x j) W (HS3.out W hb) (HX.out W (q3.trans (hb.mono q3.size))).1 (HX.out W (q3.trans (hb.mono q3.size))).2)
      rw [htw.chk] at HSC
      simp only at HSC
      obtain ⟨RL, hRL, hRL0, hRL2⟩ := bad_of (fun j => plainB L (j : Nat)) n
      obtain ⟨RS, hRS, hRS0, hRS2⟩ := bad_of (fun j => plainB S (j : Nat)) sn
      have hgL : (chk L).2 = 0 := good_iff.2 htw.src
      have hgS : (chk S).2 = 0 := by rw [htw.chk]
      have HCL := Lib.hid (fun W (hb : Below w.heap.size w W) => CoreCheck_any A L n c HNL.out hc hm (by omega) HHX.out _ RL hRL hgL (by rw [deps_good hgL, HNL.out]) W (HT.out.later hb) (HX.out W hb).1 (HX.out W hb).2 (fun W2 hb2 j hj => by
        obtain ⟨m, hS⟩ := good_sp htw.src (by rw [HNL.out]; exact hj)
        exact plain_any A L n c HNL.out hc hm j m hS W2 ((HT.out.later hb).later hb2)))
      have HCS := Lib.hid (fun W (hb : Below w3.heap.size w3 W) => CoreCheck_any A2 S sn c2 HSN.out hc2 hm2 (by omega) (fun j => HSM.out.x j) _ RS hRS hgS (by rw [deps_good hgS, HSN.out]) W (HS3.out W hb) (HX.out W (q3.trans (hb.mono q3.size))).1 (HX.out W (q3.trans (hb.mono q3.size))).2 (fun W2 hb2 j hj => by
        obtain ⟨m, hS⟩ := good_sp htw.good (by rw [HSN.out]; exact hj)
        exact plain_any A2 S sn c2 HSN.out hc2 hm2 j m hS W2 ((HS3.out W hb).later hb2)))
      have HSL := Lib.hid (show RL.2 = 0 → S = L from fun h => htw.plain (fun j hj => hRL0.1 h j (by rw [← HNL.out]; exact hj)))
      have HMK := Lib.hid (show (RS.2 = 0 ↔ ∀ j : Nat, j < sn → ¬ mkN (nd S j)) from ⟨fun h j hj hm => (by
        have h1 := hRS0.1 h j hj
        have h2 := htw.makes j (by rw [HSN.out]; exact hj) hm
        rw [h2] at h1; cases h1), fun h => hRS0.2 (fun j hj => htw.free (fun i hi => h i (by rw [← HSN.out]; exact hi)) j (by rw [HSN.out]; exact hj))⟩)
      have HLW := Lib.hid htw.low
      obtain ⟨rl1, rl2⟩ := RL
      obtain ⟨rs1, rs2⟩ := RS
      simp only at HCL HCS HSL HMK hRL2 hRS2
      clear hRL hRL0 hRS hRS0 hgL hgS htw HTW hk3
      go_upto_region 7 with (first
        | (go_at_call 5; (with_reducible refine (HSA.out _ (Below.refl _ _)).mono ?_); rintro r w4 ⟨⟨v4, l4, rfl, hO4, hl4⟩, b4⟩; obtain ⟨A4, c4, hv4, hc4, hm4⟩ := own_slice hO4.row; subst hv4)
        | fail)
      have hln4 : l4.length = sn := by have := congrArg List.length hl4; rw [List.length_map, HSN.out] at this; exact this
      simp only [hln4]
      rw [hln4] at hO4 hc4
      obtain ⟨g5, hg5⟩ : ∃ g5, g5 = w4.heap.size := ⟨_, rfl⟩
      obtain ⟨w5, hw5⟩ : ∃ w5 : World, w5 = w4.alloc (.cells #[.slice A4 sn c4] 24) := ⟨_, rfl⟩
      have b45 : Below w4.heap.size w4 w5 := by rw [hw5]; exact (Below.refl _ _).alloc (Nat.le_refl _) _
      have rU : Row w5 g5 24 #[.slice A4 sn c4] := by rw [hw5]; exact row_new hg5
      have b3X := b4.trans (b45.mono b4.size)
      have rS := r3.below b3X l3
      have rTT := rT3.below b3X lT3
      have HO5 := Lib.hid (tree_of_own (hO4.below b45) hl4)
      have HSU := Lib.hid (Same_any A2 A4 S S sn c2 sn c4 HSN.out HSN.out hc2 hc4 hm2 hm4 w5 (HS3.out w5 b3X) HO5.out)
      rw [same_self] at HSU
      have HS2 := Lib.hid (fun W (hb : Below w3.heap.size w3 W) (hz : rl2 = 0) => show Calls Tryd.prog 7 #[.agg #[.slice A2 sn c2], .agg #[.slice A n c]] W fun e w' => e = .returned (.bool true) ∧ Below W.heap.size W w' from by
        have h1 := Same_any A2 A S L sn c2 n c HSN.out HNL.out hc2 hc hm2 hm W (HS3.out W hb) (HT.out.later (q3.trans (hb.mono q3.size)))
        rw [HSL.out hz, same_self] at h1
        exact h1)
      have s0 := rS.cell 0
      have t0 := rTT.cell 0
      have u0 := rU.cell 0
      simp at s0 t0 u0
      have lS := rS.lt
      have lTT := rTT.lt
      have lU := rU.lt
      rw [← hw5, ← hg5]
      clear hw5 hg5 hO4 hl4 hln4 b45 b4 r3 rT3 l3 lT3 x3 t3 HO5 HSA
      rcases hRL2 with hz | hz
      all_goals
        subst hz
        go_upto_region 13 with (first
          | (go_at_call 7; (with_reducible refine HSU.out.mono ?_); rintro r w6 ⟨rfl, b6⟩; replace b3X := b3X.trans (b6.mono b3X.size); replace rS := rS.below b6 rS.lt; replace rTT := rTT.below b6 rTT.lt; replace rU := rU.below b6 rU.lt; have s0 := rS.cell 0; have t0 := rTT.cell 0; have u0 := rU.cell 0; simp at s0 t0 u0; have lS := rS.lt; have lTT := rTT.lt; have lU := rU.lt)
          | (go_at_call 8; (with_reducible refine (HCL.out _ (q3.trans (b3X.mono q3.size))).mono ?_); rintro r w7 ⟨rfl, b7⟩; replace b3X := b3X.trans (b7.mono b3X.size); replace rS := rS.below b7 rS.lt; replace rTT := rTT.below b7 rTT.lt; replace rU := rU.below b7 rU.lt; have s0 := rS.cell 0; have t0 := rTT.cell 0; have u0 := rU.cell 0; simp at s0 t0 u0; have lS := rS.lt; have lTT := rTT.lt; have lU := rU.lt)
          | (go_at_call 7; (with_reducible first | refine (HS2.out _ b3X rfl).mono ?_ | refine (HS2.out _ b3X).mono ?_ | refine (HS2.out _ b3X trivial).mono ?_); rintro r w8 ⟨rfl, b8⟩; replace b3X := b3X.trans (b8.mono b3X.size); replace rS := rS.below b8 rS.lt; replace rTT := rTT.below b8 rTT.lt; replace rU := rU.below b8 rU.lt; have s0 := rS.cell 0; have t0 := rTT.cell 0; have u0 := rU.cell 0; simp at s0 t0 u0; have lS := rS.lt; have lTT := rTT.lt; have lU := rU.lt)
          | (go_at_call 9; (with_reducible refine (HSC.out _ b3X).mono ?_); rintro r w9 ⟨rfl, b9⟩; replace b3X := b3X.trans (b9.mono b3X.size); replace rS := rS.below b9 rS.lt; replace rTT := rTT.below b9 rTT.lt; replace rU := rU.below b9 rU.lt; have s0 := rS.cell 0; have t0 := rTT.cell 0; have u0 := rU.cell 0; simp at s0 t0 u0; have lS := rS.lt; have lTT := rTT.lt; have lU := rU.lt)
          | fail)
        generalize hw9 : w9 = wl at *
        clear hw9
        go_wp2
        go_loopw [11, 12] (fun v t wr => ∃ (q : Nat) (mk : Bool), t = .int .i64 (q : Int) ∧ v = .bool mk ∧ q ≤ sn ∧ Hid (mk = true ↔ ∃ j : Nat, j < q ∧ mkN (nd S j)) ∧ Row wr g3 24 #[.slice A2 sn c2] ∧ Below w3.heap.size w3 wr) (fun _ t _ => sn - (intOf t).toNat)
        case atStart => exact ⟨0, false, rfl, rfl, Nat.zero_le _, Lib.hid ⟨fun h => (by cases h), fun ⟨j, hj, _⟩ => (by omega)⟩, rS, b3X⟩
        case round =>
          obtain ⟨q, mk, rfl, rfl, hq, HQ, rQ, bQ⟩ := hrel
          clear rS rTT rU b3X s0 t0 u0 lS lTT lU
          generalize hwo : wr = wo at *
          clear hwo
          have zQ := bQ.size
          have lQ := rQ.lt
          have sQ := rQ.cell 0
          simp at sQ
          by_cases hlt : q < sn
          · obtain ⟨ad, rfl, hnd⟩ := HS3.out wo bQ q (by rw [HSN.out]; exact hlt)
            have d0 := hnd.c0
            have d2 := hnd.c2
            have hbk := hnd.blk
            have had : ad.block < wo.heap.size := by rw [block_add] at hbk; exact hbk
            obtain ⟨o1, o2, o3, o4, o5, o6⟩ := HLW.out q (by rw [HSN.out]; exact hlt)
            have HQN := Lib.hid (show ∀ mk' : Bool, (mk' = true ↔ mk = true ∨ mkN (nd S (q : Int))) → (mk' = true ↔ ∃ j : Nat, j < q + 1 ∧ mkN (nd S j)) from fun mk' h => by
              rw [h, HQ.out]
              constructor
              · rintro (⟨j, hj, hm⟩ | hm)
                · exact ⟨j, by omega, hm⟩
                · exact ⟨q, by omega, hm⟩
              · rintro ⟨j, hj, hm⟩
                rcases Nat.lt_or_ge j q with h1 | h1
                · exact .inl ⟨j, h1, hm⟩
                · obtain rfl : j = q := by omega
                  exact .inr hm)
            have hqi : (q : Int) < (sn : Int) := by omega
            clear hnd HQ
            unfold mkN at HQN
            generalize nd S (q : Int) = y at *
            obtain ⟨yk, yx, ym, yks, yp⟩ := y
            simp only at d0 d2 o1 o2 o3 o4 o5 o6 HQN
            have k67 : (yk == 67) = false := beq_eq_false_iff_ne.2 o2
            have k33 : (yk == 33) = false := beq_eq_false_iff_ne.2 o3
            have k34 : (yk == 34) = false := beq_eq_false_iff_ne.2 o4
            have k51 : (yk == 51) = false := beq_eq_false_iff_ne.2 o5
            have k52 : (yk == 52) = false := beq_eq_false_iff_ne.2 o6
            have k80 : ¬ yk ≥ 80 := by omega
            have hcase : ∃ b47 b49 b66 bm : Bool, (yk == 47) = b47 ∧ (yk == 49) = b49 ∧ (yk == 66) = b66 ∧ (ym != 0) = bm ∧ ((yk = 47 ∨ yk = 49 ∨ yk = 66 ∧ ym ≠ 0) ↔ (b47 || b49 || (b66 && bm)) = true) := ⟨_, _, _, _, rfl, rfl, rfl, rfl, by simp [Bool.or_eq_true, or_assoc]⟩
            obtain ⟨b47, b49, b66, bm, e47, e49, e66, em, hiff⟩ := hcase
            have HIF := Lib.hid hiff
            clear hiff o1 o2 o3 o4 o5 o6
            have HFN := Lib.hid (show ∀ mk' : Bool, (mk' = (mk || (b47 || b49 || (b66 && bm)))) → (mk' = true ↔ ∃ j : Nat, j < q + 1 ∧ mkN (nd S j)) from fun mk' h => HQN.out mk' (by rw [h, HIF.out, Bool.or_eq_true]))
            clear HQN HIF
            cases mk with
            | true =>
              go_wp2
              exact ⟨⟨q + 1, _, by go_num, rfl, by omega, Lib.hid (HFN.out _ rfl), rQ, bQ⟩, by simp [intOf]; omega⟩
            | false =>
              cases b47 with
              | true =>
                go_wp2
                exact ⟨⟨q + 1, _, by go_num, rfl, by omega, Lib.hid (HFN.out _ rfl), rQ, bQ⟩, by simp [intOf]; omega⟩
              | false =>
                cases b49 with
                | true =>
                  go_wp2
                  exact ⟨⟨q + 1, _, by go_num, rfl, by omega, Lib.hid (HFN.out _ rfl), rQ, bQ⟩, by simp [intOf]; omega⟩
                | false =>
                  cases b66 with
                  | false =>
                    go_wp2
                    exact ⟨⟨q + 1, _, by go_num, rfl, by omega, Lib.hid (HFN.out _ rfl), rQ, bQ⟩, by simp [intOf]; omega⟩
                  | true =>
                    cases bm
                    all_goals
                      go_wp2
                      exact ⟨⟨q + 1, _, by go_num, rfl, by omega, Lib.hid (HFN.out _ rfl), rQ, bQ⟩, by simp [intOf]; omega⟩
          · obtain rfl : q = sn := by omega
            have hmk := HQ.out
            have qQ := q3.trans (bQ.mono q3.size)
            have HCW := Lib.hid (HCS.out wo bQ)
            cases mk with
            | true =>
              have h12 : rs2 = 12 := hRS2.resolve_left (fun h0 => by
                obtain ⟨j, hj, hm⟩ := hmk.1 rfl
                exact HMK.out.1 h0 j hj hm)
              subst h12
              clear hmk hRS2 HMK HQ
              go_wp2_with (first
                | (go_at_call 8; (with_reducible refine HCW.out.mono ?_); rintro r wx ⟨rfl, bx⟩; have qx := qQ.trans (bx.mono qQ.size))
                | (go_at_call 6; (with_reducible refine (known_any _ (HX.out _ qx).1 (HX.out _ qx).2).mono ?_); rintro r wy ⟨rfl, by_⟩)
                | fail)
              go_ret
              exact ⟨rfl, qx.trans (by_.mono qx.size)⟩
            | false =>
              have h0 : rs2 = 0 := HMK.out.2 (fun j hj hm => by
                have := hmk.2 ⟨j, hj, hm⟩
                cases this)
              subst h0
              clear hmk hRS2 HMK HQ
              go_wp2_with (first
                | (go_at_call 8; (with_reducible refine HCW.out.mono ?_); rintro r wx ⟨rfl, bx⟩; have qx := qQ.trans (bx.mono qQ.size))
                | (go_at_call 6; (with_reducible refine (known_any _ (HX.out _ qx).1 (HX.out _ qx).2).mono ?_); rintro r wy ⟨rfl, by_⟩)
                | fail)
              go_ret
              exact ⟨rfl, qx.trans (by_.mono qx.size)⟩
    · subst her
      have h0 : sn = 0 := by rw [← HSN.out, hemp]; rfl
      subst h0
      clear HSM HTW HSN hemp
      go_wp2_with (first
        | (go_at_call 6; (with_reducible refine (known_any _ (HX.out _ q3).1 (HX.out _ q3).2).mono ?_); rintro r wy ⟨rfl, by_⟩)
        | fail)
      go_ret
      exact ⟨rfl, q3.trans (by_.mono q3.size)⟩
end Go.Proofs.YtpkdhciokiomlaaDoor
