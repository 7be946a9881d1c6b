/- The walk of chapter 3's law TreeSames. -/
import Derived.Test.YtjaijlkonkgnmaaDoorHLt
import Derived.Test.YtjaijlkonkgnmaaDoorHLt1
import Derived.Test.YtjaijlkonkgnmaaDoorHSm3
import Derived.Test.YtjaijlkonkgnmaaDoorHBL
import Derived.Test.YtjaijlkonkgnmaaDoorHLater
namespace Go.Proofs.YtjaijlkonkgnmaaDoor
set_option linter.unusedVariables false
set_option linter.unusedSimpArgs false
set_option linter.unnecessarySimpa false
open Go.RowKit
attribute [local go_sem] cell_alloc_add cell_set_add lt_more
set_option maxRecDepth 100000 in
set_option maxHeartbeats 16000000 in
theorem TreeSames_any (A A' : Option Addr) (L M : List Nd) (n c m d : Nat) (hn : L.length = n) (hm : M.length = m) (hnc : n ≤ c) (hmd : m ≤ d) (hcm : c ≤ maxLen) (hdm : d ≤ maxLen) (hx : ∀ j : Nat, (nd L j).ks.length ≤ 1000000000000000 ∧ (nd L j).x.size ≤ 1000000000000000) (hy : ∀ j : Nat, (nd M j).ks.length ≤ 1000000000000000 ∧ (nd M j).x.size ≤ 1000000000000000) (w : World) (h : TreeAt w w.heap.size A L) (h' : TreeAt w w.heap.size A' M) (hmx : Mx w) (hw00 : 0 < w.heap.size) : Calls Tryd.prog 6 #[.agg #[.slice A n c], .agg #[.slice A' m d]] w fun e w' => e = .returned (.bool true) ∧ Below w.heap.size w w' := by
  have HL := Lib.hid h
  have HM := Lib.hid h'
  have HN := Lib.hid hn
  have HN' := Lib.hid hm
  have hX := Lib.hid hmx
  have HG1 := Lib.hid (fun W (hb : Below w.heap.size w W) => hn ▸ great_any A L c (by omega) hcm (fun j => ⟨by have := hx j; omega, (hx j).2⟩) W ((h.below hb).more hb.size))
  have HG2 := Lib.hid (fun W (hb : Below w.heap.size w W) => hm ▸ great_any A' M d (by omega) hdm (fun j => ⟨by have := hy j; omega, (hy j).2⟩) W ((h'.below hb).more hb.size))
  have HS1 := Lib.hid (fun W (hb : Below w.heap.size w W) => Same_any A A' L M n c m d hn hm hnc hmd hcm hdm W ((h.below hb).more hb.size) ((h'.below hb).more hb.size))
  have HS2 := Lib.hid (fun W (hb : Below w.heap.size w W) => rSame_any A A' L M n c m d hn hm hnc hmd hcm hdm W ((h.below hb).more hb.size) ((h'.below hb).more hb.size))
  have HS5 := Lib.hid (fun W (hb : Below w.heap.size w W) => Same_any A' A' M M m d m d hm hm hmd hmd hdm hdm W ((h'.below hb).more hb.size) ((h'.below hb).more hb.size))
  have HWL := Lib.hid (wt_len L)
  have HLE := Lib.hid (fun (hL : wt L ≤ 3000) W (hb : Below w.heap.size w W) => lent_any A L n hn c hnc hcm (by have := wt_len L; omega) (fun j => by have := wt_nd L j; omega) W ((h.below hb).more hb.size))
  have HSL := Lib.hid (fun B (C : Option Addr) (L2 : List Nd) (c2 : Nat) (h2 : L2.map bare = L.map bare) (hc2 : n ≤ c2) (hm2 : c2 ≤ maxLen) W (hb : Below w.heap.size w W) (hB : B = W.heap.size) (ht : TreeAt W B C L2) => (show Calls Tryd.prog 19 #[.agg #[.slice A n c], .agg #[.slice C n c2]] W (fun e w' => e = .returned (.bool true) ∧ Below W.heap.size W w') ∧ Calls Tryd.prog 19 #[.agg #[.slice C n c2], .agg #[.slice A n c]] W (fun e w' => e = .returned (.bool true) ∧ Below W.heap.size W w') from by
    subst hB
    have hl2 : L2.length = n := by have := congrArg List.length h2; simpa [hn] using this
    refine ⟨?_, ?_⟩
    · have := Same_any A C L L2 n c n c2 hn hl2 hnc hc2 hcm hm2 W ((h.below hb).more hb.size) ht
      rw [bare_same h2.symm] at this
      exact this
    · have := Same_any C A L2 L n c2 n c hl2 hn hc2 hnc hm2 hcm W ht ((h.below hb).more hb.size)
      rw [bare_same h2] at this
      exact this))
  have hMM : sameB M M = true := bare_same rfl
  rw [hMM] at HS5
  clear h h' hn hm hmx hx hy hMM
  unfold maxLen at hcm hdm
  generalize sameB L M = R at *
  obtain ⟨wa, hwa⟩ : ∃ wa : World, wa = (w.alloc (.cells #[.slice A n c] 29)).alloc (.cells #[.slice A' m d] 29) := ⟨_, rfl⟩
  have bA : Below w.heap.size w wa := by rw [hwa]; exact (by (repeat (first | (with_reducible exact Below.refl _ _) | (with_reducible assumption) | (with_reducible refine Below.setCell ?_ (by first | omega | (simp <;> omega)) _) | (with_reducible refine Below.alloc ?_ (by first | omega | (simp <;> omega)) _) | (with_reducible refine Below.drew ?_) | (with_reducible refine below_drewN ?_ _) | (with_reducible refine Below.trans ?_ (Below.mono (by with_reducible assumption) (by first | omega | (simp <;> omega)))))))
  have zA : w.heap.size + 1 < wa.heap.size := by rw [hwa]; simp
  have zA1 : w.heap.size < wa.heap.size := by omega
  have rA : Row wa w.heap.size 29 #[.slice A n c] := by rw [hwa]; exact (row_new rfl).alloc _
  have rB : Row wa (w.heap.size + 1) 29 #[.slice A' m d] := by rw [hwa]; exact row_new (by simp)
  have a0 := rA.cell 0
  have b0 := rB.cell 0
  simp at a0 b0
  go_enter Tryd.func6, Tryd.ntmps6
  go_upto_region 1 with fail
  rw [← hwa]
  clear hwa
  by_cases hg1 : 3000 < wt L
  · rw [decide_eq_true hg1] at HG1
    go_wp2_with (first
      | (go_at_call 8; (with_reducible refine (HG1.out _ bA).mono ?_); rintro e w1 ⟨rfl, b1⟩)
      | fail)
    go_ret
    exact ⟨rfl, bA.trans (b1.mono (by omega))⟩
  · rw [decide_eq_false hg1] at HG1
    by_cases hg2 : 3000 < wt M
    · rw [decide_eq_true hg2] at HG2
      go_wp2_with (first
        | (go_at_call 8; (with_reducible refine (HG1.out _ bA).mono ?_); rintro e w1 ⟨rfl, b1⟩; have q1 := bA.trans (b1.mono bA.size); have rB1 := rB.below b1 zA; have e1 := rB1.cell 0; simp at e1)
        | (go_at_call 8; (with_reducible refine (HG2.out _ q1).mono ?_); rintro e w2 ⟨rfl, b2⟩)
        | fail)
      go_ret
      exact ⟨rfl, q1.trans (b2.mono q1.size)⟩
    · rw [decide_eq_false hg2] at HG2
      have hnL : wt L ≤ 3000 := by omega
      go_upto_region 3 with (first
        | (go_at_call 8; (with_reducible refine (HG1.out _ bA).mono ?_); rintro e w1 ⟨rfl, b1⟩; have q1 := bA.trans (b1.mono bA.size); have rB1 := rB.below b1 zA; have e1 := rB1.cell 0; simp at e1)
        | (go_at_call 8; (with_reducible refine (HG2.out _ q1).mono ?_); rintro e w2 ⟨rfl, b2⟩)
        | fail)
      have q2 := q1.trans (b2.mono q1.size)
      have rA2 := (rA.below b1 zA1).below b2 (by have := b1.size; omega)
      have rB2 := rB1.below b2 (by have := b1.size; omega)
      have a2 := rA2.cell 0
      have b2' := rB2.cell 0
      have z2 := Below.size q2
      have z2A := rA2.lt
      have z2B := rB2.lt
      simp at a2 b2'
      clear rA rB bA rB1 a0 b0 e1 zA zA1
      go_upto_region 4 with (first
        | (go_at_call 9; (with_reducible refine (HLE.out hnL _ q2).mono ?_); rintro e w3 ⟨⟨v, l, rfl, hO, hl⟩, b3⟩; obtain ⟨A3, c3, hv, hcc3, hcm3, -, g, hA3, -⟩ := hO.tree; have hll : l.length = n := (by have := congrArg List.length hl; simpa [HN.out] using this); subst hA3; rw [hll] at hv hcc3; subst hv)
        | fail)
      have z3 := Below.size b3
      obtain ⟨w4, hw4⟩ : ∃ w4 : World, w4 = w3.alloc (.cells #[.slice (some ⟨g, 0, none⟩) n c3] 29) := ⟨_, rfl⟩
      rw [← hw4]
      have b4 : Below w2.heap.size w2 w4 := by rw [hw4]; exact b3.alloc z3 _
      have rA4 : Row w4 w.heap.size 29 #[.slice A n c] := rA2.below b4 z2A
      have rB4 : Row w4 (w.heap.size + 1) 29 #[.slice A' m d] := rB2.below b4 z2B
      have hO4 : LentT w4 w2.heap.size (.slice (some ⟨g, 0, none⟩) n c3) l := hO.below (by rw [hw4]; exact (Below.refl _ _).alloc (Nat.le_refl _) _)
      obtain ⟨g5, hg5⟩ : ∃ g5, g5 = w3.heap.size := ⟨_, rfl⟩
      have rC4 : Row w4 g5 29 #[.slice (some ⟨g, 0, none⟩) n c3] := by rw [hw4]; exact row_new hg5
      rw [← hg5]
      have hg5' : w2.heap.size ≤ g5 := by omega
      have hbare : Hid ((l.map (·.1)).map bare = L.map bare) := Lib.hid (by rw [hl])
      have hlen := Lib.hid hll
      have HG := Lib.hid (show w2.heap.size ≤ g ∨ n = 0 from by
        rcases Nat.eq_zero_or_pos n with h0 | h0
        · exact .inr h0
        · obtain ⟨A', c', e, ho⟩ := hO4.row
          injection e with e1 e2 e3
          subst e1
          obtain ⟨g', e, h1, _⟩ := own_form5 ho (by omega)
          injection e with e; injection e with e
          exact .inl (by omega))
      unfold maxLen at hcm3
      have q4 := q2.trans (b4.mono z2)
      clear hw4 hO b3 z3 hg5 hl hll rA2 rB2 a2 b2' b1 b2 q1
      go_wp2
      go_loopw [6] (fun t wr => ∃ (q : Nat) (l1 : List NdV), t = .int .i64 (q : Int) ∧ q ≤ n ∧ Hid (l1.length = n) ∧ Hid ((l1.map (·.1)).map bare = L.map bare) ∧ Hid (LentT wr w2.heap.size (.slice (some ⟨g, 0, none⟩) n c3) l1) ∧ Row wr w.heap.size 29 #[.slice A n c] ∧ Row wr (w.heap.size + 1) 29 #[.slice A' m d] ∧ Row wr g5 29 #[.slice (some ⟨g, 0, none⟩) n c3] ∧ Below w.heap.size w wr) (fun t _ => n - (intOf t).toNat)
      case atStart => exact ⟨0, l, rfl, Nat.zero_le _, hlen, hbare, Lib.hid hO4, rA4, rB4, rC4, q4⟩
      case round =>
        obtain ⟨q, l1, rfl, hq, HLL, HB, HO, rA, rB, rC, hb⟩ := hrel
        clear hO4 rA4 rB4 rC4 b4 q4
        generalize hwo : wr = wo at *
        clear hwo
        have hz := Below.size hb
        have lA := rA.lt
        have lB := rB.lt
        have lC := rC.lt
        have a0 := rA.cell 0
        have b0 := rB.cell 0
        have c0 := rC.cell 0
        simp at a0 b0 c0
        by_cases hlt : q < n
        · have hql : q < l1.length := by rw [HLL.out]; exact hlt
          obtain ⟨p0, hp0⟩ : ∃ p0, l1[q]? = some p0 := ⟨l1[q], List.getElem?_eq_getElem hql⟩
          obtain ⟨y, s⟩ := p0
          obtain ⟨A5, c5, e5, ho5⟩ := HO.out.row
          injection e5 with e51 e52 e53
          subst e51 e53
          have hgn := Lib.hid (show w2.heap.size ≤ g from by rcases HG.out with h | h <;> omega)
          have cp := (ho5.cellAt (q * 5 + 4) (by rw [HLL.out]; omega)).trans (ndsC_take hp0 4 (by omega) [markN])
          have fp := ho5.frozenAt (q * 5 + 4)
          replace cp : wo.cell? ⟨g, q * 5 + 4, none⟩ = some (.int .i64 y.p) := cp
          have HPA := Lib.hid (fun z => HO.out.put_at hp0 z)
          have HBS := Lib.hid (fun z => bare_set (z := z) HB.out hp0)
          have gA : Hid (w.heap.size ≠ g) := Lib.hid (by have := hgn.out; omega)
          have gB : Hid (w.heap.size + 1 ≠ g) := Lib.hid (by have := hgn.out; omega)
          have gC : Hid (g5 ≠ g) := Lib.hid (fun e => row_ne rC ho5 (by decide) (by rw [e]; rfl))
          have lg := (own_lt ho5) g rfl
          clear ho5 hp0 e52
          generalize y.p = yp at *
          go_wp2
          go_region
          all_goals go_wp2
          all_goals
            refine ⟨⟨q + 1, _, by go_num, by omega, Lib.hid (by rw [List.length_set]; exact HLL.out), Lib.hid (HBS.out _), Lib.hid ((HPA.out _).below (Below.refl _ _).drew), rA.far gA.out _, rB.far gB.out _, rC.far gC.out _, (Below.setCell hb (p := ⟨g, q * 5 + 4, none⟩) (by show w.heap.size ≤ g; have := hgn.out; omega) _).drew⟩, by simp [intOf]; omega⟩
        · obtain rfl : q = n := by omega
          obtain ⟨A5, c5, e5, h51, h52, hT5, _⟩ := HO.out.tree
          injection e5 with e51 e52 e53
          subst e51 e53
          have hbo := Lib.hid (fun W (hb2 : Below wo.heap.size wo W) => HSL.out W.heap.size (some ⟨g, 0, none⟩) (l1.map (·.1)) c3 HB.out (by omega) (by unfold maxLen; omega) W (hb.trans (hb2.mono hz)) rfl ((hT5.below hb2).more hb2.size))
          clear HSL HG e52
          have KS1 := Lib.hid (fun x : Later wo => HS1.out x.w (hb.trans (x.h.mono hz)))
          have KS2 := Lib.hid (fun x : Later wo => HS2.out x.w (hb.trans (x.h.mono hz)))
          have KS3 := Lib.hid (fun x : Later wo => (hbo.out x.w x.h).1)
          have KS4 := Lib.hid (fun x : Later wo => (hbo.out x.w x.h).2)
          have KS5 := Lib.hid (fun x : Later wo => HS5.out x.w (hb.trans (x.h.mono hz)))
          have KKN := Lib.hid (fun x : Later wo => known_any x.w (hX.out.below (B := w.heap.size) (hb.trans (x.h.mono hz)) hw00) (by have := Below.size (hb.trans (x.h.mono hz)); omega))
          have L0 : ∀ x : Later wo, x.w.cell? ⟨w.heap.size, 0, none⟩ = some (.slice A q c) := fun x => (x.cell lA).trans a0
          have L2 : ∀ x : Later wo, x.w.cell? ⟨w.heap.size + 1, 0, none⟩ = some (.slice A' m d) := fun x => (x.cell lB).trans b0
          have L3 : ∀ x : Later wo, x.w.cell? ⟨g5, 0, none⟩ = some (.slice (some ⟨g, 0, none⟩) q c3) := fun x => (x.cell lC).trans c0
          have L1 : Below wo.heap.size wo wo := Below.refl _ _
          clear hT5 hbo
          go_upto_region 8 with fail
          clear a0 b0 c0
          (refine wp_region_later wo L1 (by kernel_rfl) (by kernel_rfl) ?_; repeat (first | go_big_quiet_step (first | with_reducible exact Later.call (KS1.out _) | with_reducible exact Later.call (KS2.out _) | with_reducible exact Later.call (KS3.out _) | with_reducible exact Later.call (KS4.out _) | with_reducible exact Later.call (KS5.out _) | with_reducible exact Later.call (KKN.out _)) | quiet_step (first | with_reducible exact Later.call (KS1.out _) | with_reducible exact Later.call (KS2.out _) | with_reducible exact Later.call (KS3.out _) | with_reducible exact Later.call (KS4.out _) | with_reducible exact Later.call (KS5.out _) | with_reducible exact Later.call (KKN.out _))))
          refine wpQuiet_nil ?_
          intro _ hw'
          obtain ⟨xq, hw''⟩ := hw'
          subst hw''
          go_wp2
          go_ret
          exact ⟨rfl, hb.trans (xq.h.mono hz)⟩
end Go.Proofs.YtjaijlkonkgnmaaDoor
