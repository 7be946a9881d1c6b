/- The walks of the program's fits: a template. -/
import Derived.Test.YtpkdhciokiomlaaDoorHBZ9
namespace Go.Proofs.YtpkdhciokiomlaaDoor
set_option linter.unusedVariables false
set_option linter.unusedSimpArgs false
set_option linter.unnecessarySimpa false
open Go.RowKit
attribute [local go_sem] cell_alloc_add cell_set_add lt_more
theorem tmplK {L : List Nd} {ks : List Int} {j : Nat} (h : j < ks.length) : tmplP L j (ks.drop j) = ((if j % 2 = 0 then (nd L (ks.getD j 0)).k == 11 else exprK (nd L (ks.getD j 0)).k) && tmplP L (j + 1) (ks.drop (j + 1))) := by
  rw [List.drop_eq_getElem_cons h]
  have e : ks.getD j 0 = ks[j] := by simp [List.getD, h]
  rw [e]; rfl
set_option maxRecDepth 100000 in
set_option maxHeartbeats 8000000 in
theorem fits_tmpl (A : Option Addr) (L : List Nd) (c i : Nat) (w : World) (h : TreeAt w w.heap.size A L) (hc : L.length ≤ c) (hm : c ≤ maxLen) (hL : L.length ≤ 1000000000000) (hi : i < L.length) (hx : (nd L i).x.size ≤ 4000000) (hmx : Mx w) (hw00 : 0 < w.heap.size) (hs : saidB (nd L i) = true) (hin : (nd L i).ks.all (inL L) = true) (hk : (nd L i).k = 12) : Calls Tryd.prog 16 #[.agg #[.slice A L.length c], .int .i64 (i : Int)] w fun e w' => e = .returned (.bool ((tmplP L 0 (nd L i).ks && decide ((nd L i).ks.length % 2 = 1)))) ∧ Below w.heap.size w w' := by
  unfold saidB at hs
  have hT := Lib.hid h
  have hm2 := Lib.hid hm
  obtain ⟨ad, rfl, hn⟩ := h i hi
  have hb2 := hn.blk
  have hwm := hn.wm
  have hb1 : ad.block < w.heap.size := (by rw [block_add] at hb2; exact hb2)
  obtain ⟨K0, kc0, c0, c1, c2, c3, c4, hK0, hkk, hkm⟩ := node_open hn
  clear h hn
  generalize nd L i = y at *
  obtain ⟨k, x, m, ks, p⟩ := y
  simp only at *
  have HSA := Lib.hid (fun W (hb : Below w.heap.size w W) => said_any k m p x hx hwm K0 ks.length kc0 W (hmx.below hb hw00) (Nat.lt_of_lt_of_le hw00 hb.size))
  have hKK := Lib.hid hK0
  clear hK0 hmx
  have hmN := hm
  have hkmN := hkm
  have HKM := Lib.hid hkm
  unfold maxLen at hm hkm
  generalize hM : ks.length = M at *
  have HM := Lib.hid hM
  clear hM hmN hkmN
  subst hk
  rw [hs] at HSA
  have HIN := Lib.hid (List.all_eq_true.1 hin)
  clear hin
  have HT0 := Lib.hid (show tmplP L 0 ks = tmplP L 0 (ks.drop 0) from rfl)
  obtain ⟨R, hR⟩ : ∃ R, R = tmplP L 0 ks := ⟨_, rfl⟩
  rw [← hR] at HT0 ⊢
  clear hR
  go_enter Tryd.func16, Tryd.ntmps16
  go_upto_region 2 with fail
  obtain ⟨wa, hwa⟩ : ∃ wa : World, wa = ((w.alloc (.cells #[.slice (some ad) L.length c] 24)).alloc (.cells #[.int .i64 12, .string x, .int .i64 m, .slice K0 M kc0, .int .i64 p] 35)) := ⟨_, rfl⟩
  have xa : wa.cell? ⟨w.heap.size, 0, none⟩ = some (.slice (some ad) L.length c) := by rw [hwa]; simp [World.cell?_alloc_mark]
  have qa : Below w.heap.size w wa := by rw [hwa]; (exact bl)
  have za := Below.size qa
  have ka : wa.cell? ⟨w.heap.size + 1, 0, none⟩ = some (.int .i64 12) := by rw [hwa]; simp [World.cell?_alloc_mark]
  have ta : wa.cell? ⟨w.heap.size + 1, 1, none⟩ = some (.string x) := by rw [hwa]; simp [World.cell?_alloc_mark]
  have ma : wa.cell? ⟨w.heap.size + 1, 2, none⟩ = some (.int .i64 m) := by rw [hwa]; simp [World.cell?_alloc_mark]
  have ya : wa.cell? ⟨w.heap.size + 1, 3, none⟩ = some (.slice K0 M kc0) := by rw [hwa]; simp [World.cell?_alloc_mark]
  have pa : wa.cell? ⟨w.heap.size + 1, 4, none⟩ = some (.int .i64 p) := by rw [hwa]; simp [World.cell?_alloc_mark]
  rw [← hwa]
  clear hwa c0 c1 c2 c3 c4
  have lx := World.block_lt_of_cell? wa _ xa
  have ly := World.block_lt_of_cell? wa _ ya
  simp only at lx ly
  have HS1 := Lib.hid (HSA.out wa qa)
  go_wp2_with (first | (go_at_call 25; (with_reducible refine HS1.out.mono ?_); rintro e w1 ⟨rfl, b1⟩; have q1 := qa.trans (b1.mono qa.size); have x1 := (b1.cell (p := ⟨w.heap.size, 0, none⟩) lx).trans xa; have y1 := (b1.cell (p := ⟨w.heap.size + 1, 3, none⟩) ly).trans ya; have k1 := (b1.cell (p := ⟨w.heap.size + 1, 0, none⟩) ly).trans ka) | fail)
  have l1 := World.block_lt_of_cell? w1 _ x1
  have l1y := World.block_lt_of_cell? w1 _ y1
  simp only at l1 l1y
  have hKw := Lib.hid (hKK.out.below q1)
  have z1 := Below.size q1
  go_loopw [28] (fun t wr => ∃ q : Nat, q ≤ M ∧ t = .int .i64 (q : Int) ∧ Below w1.heap.size w1 wr) (fun t _ => M - (intOf t).toNat)
  case atStart => exact ⟨0, Nat.zero_le _, rfl, Below.refl _ _⟩
  case round =>
    obtain ⟨q, hq, rfl, hb⟩ := hrel
    have bw := q1.trans (hb.mono q1.size)
    have e0 := (hb.cell (p := ⟨w.heap.size, 0, none⟩) l1).trans x1
    have e3 := (hb.cell (p := ⟨w.heap.size + 1, 3, none⟩) l1y).trans y1
    have ek := (hb.cell (p := ⟨w.heap.size + 1, 0, none⟩) l1y).trans k1
    by_cases hlt : q < M
    · obtain ⟨kd, hKd, hkb, kcell0⟩ := hKw.out q hlt
      subst hKd
      have kcell : wr.cell? (kd.add q) = some (.int .i64 (ks.getD q 0)) := (hb.cell (World.block_lt_of_cell? w1 _ kcell0)).trans kcell0
      have hq2 : q < ks.length := by rw [HM.out]; exact hlt
      have hu : inL L (ks.getD q 0) = true := HIN.out _ (by rw [show ks.getD q 0 = ks[q] by simp [List.getD, hq2]]; exact List.getElem_mem _)
      clear kcell0
      generalize ks.getD q 0 = u at *
      go_wp2_with (first
        | (go_at_call 26; (with_reducible refine (within_is true (some ad) L c _ _ hc hm2.out hu).mono ?_); rintro e w2 ⟨rfl, b2⟩)
        | fail)
      exact ⟨⟨q + 1, by omega, by go_num, hb.trans (b2.mono hb.size)⟩, by simp [intOf]; omega⟩
    · obtain rfl : q = M := by omega
      go_wp2
      obtain ⟨wq, rfl⟩ : ∃ x : World, x = wr := ⟨_, rfl⟩
      have lw1 := World.block_lt_of_cell? wq _ e0
      have lw3 := World.block_lt_of_cell? wq _ e3
      simp only at lw1 lw3
      have hKv := Lib.hid (hKK.out.below bw)
      have zz := Below.size bw
      go_loopw [45] (fun t wr => ∃ r : Nat, r ≤ q ∧ t = .int .i64 (r : Int) ∧ Hid (R = tmplP L r (ks.drop r)) ∧ Below wq.heap.size wq wr) (fun t _ => q - (intOf t).toNat)
      case atStart => exact ⟨0, Nat.zero_le _, rfl, HT0, Below.refl _ _⟩
      case round =>
        obtain ⟨r, hr, rfl, HTr, hbt⟩ := hrel
        have bt := bw.trans (hbt.mono bw.size)
        have f0 := (hbt.cell (p := ⟨w.heap.size, 0, none⟩) lw1).trans e0
        have f3 := (hbt.cell (p := ⟨w.heap.size + 1, 3, none⟩) lw3).trans e3
        have zt := Below.size bt
        by_cases hlr : r < q
        · obtain ⟨kd, hKd, hkb, kcell0⟩ := hKv.out r hlr
          subst hKd
          have kcell : wr.cell? (kd.add r) = some (.int .i64 (ks.getD r 0)) := (hbt.cell (World.block_lt_of_cell? wq _ kcell0)).trans kcell0
          have hr2 : r < ks.length := by rw [HM.out]; exact hlr
          have hu : inL L (ks.getD r 0) = true := HIN.out _ (by rw [show ks.getD r 0 = ks[r] by simp [List.getD, hr2]]; exact List.getElem_mem _)
          have HS := Lib.hid (HTr.out.trans (tmplK (L := L) (ks := ks) (j := r) hr2))
          clear kcell0
          generalize ks.getD r 0 = u at *
          obtain ⟨un, rfl, hun⟩ := inL_nat hu
          have HE := Lib.hid (isExpr_any (some ad) L c un wr (hT.out.later bt) hc hm2.out hun)
          have HEe := Lib.hid (show exprP L (un : Int) = exprK (nd L un).k from rfl)
          rw [HEe.out] at HE
          obtain ⟨au, hau, hnu⟩ := hT.out.later bt un hun
          cases hau
          have hub := hnu.blk
          have u0 := hnu.c0
          clear hnu
          generalize nd L un = y at *
          obtain ⟨yk, yx, ym, yks, yp⟩ := y
          simp only at *
          by_cases hev : r % 2 = 0
          · have hi1 : ((r : Int) % 2 == 0) = true := by simp; omega
            have hi2 : ((r : Int) % 2 == 1) = false := by simp; omega
            rw [if_pos hev] at HS
            go_wp2_with (first
              | (go_at_call 28; (with_reducible refine HE.out.mono ?_); rintro e w2 ⟨rfl, b2⟩)
              | fail)
            · have hk11 : (yk == 11) = true := by simp [*]
              exact ⟨⟨r + 1, by omega, by go_num, Lib.hid (by rw [HS.out, hk11, Bool.true_and]), hbt⟩, by simp [intOf]; omega⟩
            · go_ret
              exact ⟨ret_bool (by rw [HS.out, show (yk == 11) = false by simp [*], Bool.false_and, Bool.false_and]), bt⟩
          · have hi1 : ((r : Int) % 2 == 0) = false := by simp; omega
            have hi2 : ((r : Int) % 2 == 1) = true := by simp; omega
            rw [if_neg hev] at HS
            cases hex : exprK yk
            · rw [hex] at HE
              go_wp2_with (first
                | (go_at_call 28; (with_reducible refine HE.out.mono ?_); rintro e w2 ⟨rfl, b2⟩)
                | fail)
              go_ret
              exact ⟨ret_bool (by rw [HS.out, hex, Bool.false_and, Bool.false_and]), bt.trans (b2.mono bt.size)⟩
            · rw [hex] at HE
              go_wp2_with (first
                | (go_at_call 28; (with_reducible refine HE.out.mono ?_); rintro e w2 ⟨rfl, b2⟩)
                | fail)
              exact ⟨⟨r + 1, by omega, by go_num, Lib.hid (by rw [HS.out, hex, Bool.true_and]), hbt.trans (b2.mono hbt.size)⟩, by simp [intOf]; omega⟩
        · obtain rfl : r = q := by omega
          have hR : R = true := by rw [HTr.out, List.drop_of_length_le (by rw [HM.out]; exact Nat.le_refl _)]; rfl
          subst hR
          go_wp2
          go_ret
          refine ⟨ret_bool ?_, bt⟩
          rw [Bool.eq_iff_iff]; simp <;> omega
end Go.Proofs.YtpkdhciokiomlaaDoor
