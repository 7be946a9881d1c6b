/- The walks of chapter 2's scanner: blanks and remarks. -/
import Derived.Test.YtdlppdoankeilaaDoorKept
namespace Go.Proofs.YtdlppdoankeilaaDoor
set_option linter.unusedVariables false
set_option linter.unusedSimpArgs false
set_option linter.unnecessarySimpa false
open Go.RowKit
attribute [local go_sem] cell_alloc_add cell_set_add lt_more
set_option maxRecDepth 100000 in
set_option maxHeartbeats 8000000 in
/-- Blanks and remarks are passed; false: a remark does not end. -/
theorem blanks_any (s : ByteArray) (A : Option Addr) (c : Nat) (hs : s.size ≤ 4000000) (hcap : s.size ≤ c) (w : World) (hm : Mx w) (g : Nat) (hg0 : 1 < g) (h : Rd w g A s.size (byteC s)) (i : Nat) (hi : i ≤ s.size) (hv : Value) (hg : Scn w g A s.size c i hv) :
    Calls Tryd.prog 23 #[.pointer (some ⟨g, 0, none⟩)] w fun e w' => e = .returned (.bool (skip s i).2) ∧ Scn w' g A s.size c (skip s i).1 hv ∧ Kept g none w w' := by
  have HN := Lib.hid h
  have HM := Lib.hid hm
  have lz := hg.lt
  clear h hm
  go_enter Tryd.func23, Tryd.ntmps23
  go_wp2
  go_step3
  go_wp2
  go_step3
  go_upto_block 0 with (fail)
  go_cut [2] (fun a wx => a = .bool false ∧ (skip s i).2 = true ∧ Scn wx g A s.size c (skip s i).1 hv ∧ Kept g none w wx)
  case first =>
    go_wp2_with fail
    go_loopw [2] (fun a wr => ∃ k : Nat, a = .bool false ∧ i ≤ k ∧ k ≤ s.size ∧ Scn wr g A s.size c k hv ∧ Kept g none w wr ∧ skip s i = skip s k) (fun _ wr => s.size - atOf wr g)
    case atStart => exact ⟨i, rfl, Nat.le_refl _, hi, hg, Kept.refl _ _ _, rfl⟩
    case round =>
      obtain ⟨k, rfl, hik, hk, rg, kp, he⟩ := hrel
      have HE := Lib.hid he
      have HA := Lib.hid (atOf_scn rg)
      clear he
      have z0 := rg.cell 0; have z1 := rg.cell 1; have fz0 := rg.free 0; have fz1 := rg.free 1; simp at z0 z1
      by_cases hks : k < s.size
      · obtain ⟨ad, rfl, hadB, c1⟩ := HN.out k hks
        unfold byteC at c1
        have hb0 := bt_lt s k
        have hbl := blank_idx hb0
        obtain ⟨D, hD⟩ : ∃ D, Lib.indexByte [32, 9, 10, 13] (UInt8.ofNat (bt s k)) = D := ⟨_, rfl⟩
        rw [show (bt s k).toUInt8 = UInt8.ofNat (bt s k) from rfl, hD] at hbl
        have d1 : True := trivial
        clear d1; have hrd := kp.rd HN.out (Nat.le_refl _) (by omega) (fun b e => by cases e); have d1 := hrd.at_ rfl hks; unfold byteC at d1
        clear c1
        go_wp2_with fail
        go_quiet (fail)
        obtain ⟨w1, hw2⟩ : ∃ q : World, q = (wr).drewN nq := ⟨_, rfl⟩; rw [← hw2]; clear z0 z1 fz0 fz1; replace rg : Scn w1 g (some ad) s.size c k hv := (by rw [hw2]; exact rg); replace kp : Kept g none w w1 := (by rw [hw2]; exact kp.drewN nq); clear hw2; have z0 := rg.cell 0; have z1 := rg.cell 1; have fz0 := rg.free 0; have fz1 := rg.free 1; simp at z0 z1
        clear d1; have hrd := kp.rd HN.out (Nat.le_refl _) (by omega) (fun b e => by cases e); have d1 := hrd.at_ rfl hks; unfold byteC at d1
        go_wp2_with fail
        cases hbk : blankB (bt s k)
        · rw [hbk] at hbl
          have hD0 : (0 ≤ D) = False := by simpa using hbl
          have hD1 : (D ≥ 0) = False := hD0
          have hb1 := Lib.hid hbk
          clear hbl hbk
          go_quiet (exact Calls.quiet_of_same (Tryd.strings_IndexByte _ _ _))
          obtain ⟨w2, hw2⟩ : ∃ q : World, q = (w1).drewN nq := ⟨_, rfl⟩; rw [← hw2]; clear z0 z1 fz0 fz1; replace rg : Scn w2 g (some ad) s.size c k hv := (by rw [hw2]; exact rg); replace kp : Kept g none w w2 := (by rw [hw2]; exact kp.drewN nq); clear hw2; have z0 := rg.cell 0; have z1 := rg.cell 1; have fz0 := rg.free 0; have fz1 := rg.free 1; simp at z0 z1
          have hrd2 := kp.rd HN.out (Nat.le_refl _) (by omega) (fun b e => by cases e)
          have H1 := has_any s (some ad) c hs hcap w2 hrd2 g k hv rg k (by omega) ⟨#[47, 47]⟩ (by decide) (by decide)
          rw [hasB_two] at H1
          by_cases h1 : bt s k = 47 ∧ k + 1 < s.size ∧ bt s (k + 1) = 47
          · rw [show (decide (k + 1 < s.size) && (bt s k == UInt8.toNat 47 && bt s (k + 1) == UInt8.toNat 47)) = true by simp [h1.1, h1.2.1, h1.2.2]] at H1
            have H1 := Lib.hid H1
            have HX := Lib.hid (HE.out.trans (skip_line h1.2.1 h1.1 h1.2.2))
            have hgt := lineEnd_gt hks (by omega)
            clear h1 hrd2 d1 hrd
            go_wp2_with (go_at_call 40; (with_reducible refine (H1.out).mono ?_); rintro e wq ⟨rfl, hwq⟩; obtain rfl := hwq.symm)
            go_loopw [] (fun wr => ∃ m : Nat, k ≤ m ∧ m ≤ s.size ∧ Scn wr g (some ad) s.size c m hv ∧ Kept g none w wr ∧ lineEnd s k = lineEnd s m) (fun wr => s.size - atOf wr g)
            case atStart => exact ⟨k, Nat.le_refl _, hk, rg, kp, rfl⟩
            case round =>
              clear z0 z1 fz0 fz1 rg kp
              obtain ⟨m, hkm, hm, rg, kp, hl⟩ := hrel
              have HL := Lib.hid hl
              have HB := Lib.hid (atOf_scn rg)
              clear hl
              have z0 := rg.cell 0; have z1 := rg.cell 1; have fz0 := rg.free 0; have fz1 := rg.free 1; simp at z0 z1
              by_cases hms : m < s.size
              · have d1 : True := trivial
                clear d1; have hrd := kp.rd HN.out (Nat.le_refl _) (by omega) (fun b e => by cases e); have d1 := hrd.at_ rfl hms; unfold byteC at d1
                clear hrd
                by_cases hnl : bt s m = 10
                · have HZ := Lib.hid (lineEnd_stop (s := s) (i := m) (by omega))
                  rw [hnl] at d1
                  go_wp2_with fail
                  go_quiet (fail)
                  obtain ⟨w3, hw2⟩ : ∃ q : World, q = (wr).drewN nq := ⟨_, rfl⟩; rw [← hw2]; clear z0 z1 fz0 fz1; replace rg : Scn w3 g (some ad) s.size c m hv := (by rw [hw2]; exact rg); replace kp : Kept g none w w3 := (by rw [hw2]; exact kp.drewN nq); clear hw2; have z0 := rg.cell 0; have z1 := rg.cell 1; have fz0 := rg.free 0; have fz1 := rg.free 1; simp at z0 z1
                  go_wp2
                  exact ⟨⟨m, rfl, by omega, hm, rg, kp, by rw [HX.out, HL.out, HZ.out]⟩, by have hz := HZ.out; have hl := HL.out; rw [HA.out, atOf_scn rg]; omega⟩
                · have hn10 : ((bt s m : Int) == 10) = false := by simp; omega
                  have hn11 : decide ((bt s m : Int) = 10) = false := by simp; omega
                  have HZ := Lib.hid (lineEnd_go hms hnl)
                  clear hnl
                  go_wp2_with fail
                  go_quiet (fail)
                  obtain ⟨w3, hw2⟩ : ∃ q : World, q = (wr).drewN nq := ⟨_, rfl⟩; rw [← hw2]; clear z0 z1 fz0 fz1; replace rg : Scn w3 g (some ad) s.size c m hv := (by rw [hw2]; exact rg); replace kp : Kept g none w w3 := (by rw [hw2]; exact kp.drewN nq); clear hw2; have z0 := rg.cell 0; have z1 := rg.cell 1; have fz0 := rg.free 0; have fz1 := rg.free 1; simp at z0 z1
                  go_wp2
                  exact ⟨⟨m + 1, by omega, by omega, by have q := Scn.set rg (m + 1); simpa using q, kp.set rfl _, by rw [HL.out, HZ.out]⟩, by rw [HB.out, atOf_scn (by have q := Scn.set rg (m + 1); simpa using q)]; omega⟩
              · have HZ := Lib.hid (lineEnd_stop (s := s) (i := m) (by omega))
                go_wp2_with fail
                go_quiet (fail)
                obtain ⟨w3, hw2⟩ : ∃ q : World, q = (wr).drewN nq := ⟨_, rfl⟩; rw [← hw2]; clear z0 z1 fz0 fz1; replace rg : Scn w3 g (some ad) s.size c m hv := (by rw [hw2]; exact rg); replace kp : Kept g none w w3 := (by rw [hw2]; exact kp.drewN nq); clear hw2; have z0 := rg.cell 0; have z1 := rg.cell 1; have fz0 := rg.free 0; have fz1 := rg.free 1; simp at z0 z1
                go_wp2
                exact ⟨⟨m, rfl, by omega, hm, rg, kp, by rw [HX.out, HL.out, HZ.out]⟩, by have hz := HZ.out; have hl := HL.out; rw [HA.out, atOf_scn rg]; omega⟩
          · rw [show (decide (k + 1 < s.size) && (bt s k == UInt8.toNat 47 && bt s (k + 1) == UInt8.toNat 47)) = false by rw [Bool.eq_false_iff]; intro e; simp at e; exact h1 ⟨e.2.1, e.1, e.2.2⟩] at H1
            have H1 := Lib.hid H1
            have H2 := has_any s (some ad) c hs hcap w2 hrd2 g k hv rg k (by omega) ⟨#[47, 42]⟩ (by decide) (by decide)
            rw [hasB_two] at H2
            by_cases h2 : bt s k = 47 ∧ k + 1 < s.size ∧ bt s (k + 1) = 42
            · rw [show (decide (k + 1 < s.size) && (bt s k == UInt8.toNat 47 && bt s (k + 1) == UInt8.toNat 42)) = true by simp [h2.1, h2.2.1, h2.2.2]] at H2
              have H2 := Lib.hid H2
              have hks1 := h2.2.1
              have hRI := rem_index s (k + 2) (by omega)
              have hge := remEnd_ge s _ (k + 2) (Nat.le_refl _)
              have hbad := Lib.hid (fun h3 => HE.out.trans (skip_bad h2.2.1 h2.1 h2.2.2 h3))
              have hgood := Lib.hid (fun h3 => HE.out.trans (skip_rem h2.2.1 h2.1 h2.2.2 h3))
              obtain ⟨mm, hmm⟩ := kp.mx HM.out hg0 (by simp)
              have kc : ∀ a m, (convert 26 9 (.slice (some ⟨ad.block, ad.off + (k + 1 + 1), none⟩) (s.size - (k + 2)) m)).run Tryd.prog (w2.drewN a) = .ok (.string (s.extract (k + 2) s.size)) (w2.drewN a) := fun a m => (by
                have hh := run_part (P := Tryd.prog) 26 9 5 Tryd.underlying26 Tryd.underlying5 Tryd.underlying9 (hrd2.drewN a) (k + 2) (s.size - (k + 2)) m (by omega)
                rwa [show k + 2 + (s.size - (k + 2)) = s.size by omega, show ad.add (k + 2) = ⟨ad.block, ad.off + (k + 1 + 1), none⟩ by unfold Addr.add; rw [if_neg (by omega)]] at hh)
              have kc0 : s.size = k + 2 → ∀ a m, (convert 26 9 (.slice (some ad) 0 m)).run Tryd.prog (w2.drewN a) = .ok (.string (s.extract (k + 2) s.size)) (w2.drewN a) := fun hz a m => (by
                have hh := run_part (P := Tryd.prog) 26 9 5 Tryd.underlying26 Tryd.underlying5 Tryd.underlying9 (hrd2.drewN a) 0 0 m (by omega)
                rwa [add_zero, show s.extract 0 (0 + 0) = s.extract (k + 2) s.size from ByteArray.ext ((Array.eq_empty_of_size_eq_zero (show (s.extract 0 (0 + 0)).size = 0 by rw [ByteArray.size_extract]; omega)).trans (Array.eq_empty_of_size_eq_zero (show (s.extract (k + 2) s.size).size = 0 by rw [ByteArray.size_extract]; omega)).symm)] at hh)
              have hszt : (s.extract (k + 2) s.size).size < 4294967281 := by rw [ByteArray.size_extract]; omega
              clear h1 h2 hrd2 d1 hrd
              generalize s.extract (k + 2) s.size = tx at *
              go_wp2_with (first | (go_at_call 40; (with_reducible refine (H1.out).mono ?_); rintro e wq ⟨rfl, hwq⟩; obtain rfl := hwq.symm) | (go_at_call 40; (with_reducible refine (H2.out).mono ?_); rintro e wq ⟨rfl, hwq⟩; obtain rfl := hwq.symm))
              by_cases h3 : remEnd s (k + 2) + 1 < s.size
              · rw [if_pos h3] at hRI
                have hX := hgood.out h3
                obtain ⟨E, hE⟩ : ∃ E, remEnd s (k + 2) = k + 2 + E := ⟨remEnd s (k + 2) - (k + 2), by omega⟩
                rw [hE] at h3 hX hRI
                rw [show k + 2 + E - (k + 2) = E by omega] at hRI
                have HX := Lib.hid hX
                have hck : (c = k + 2) = False := by simp; omega
                clear hX kc0 hE hge
                go_quiet (exact Calls.quiet_of_same (Tryd.strings_Index _ ⟨#[42, 47]⟩ mm _ hszt hmm))
                obtain ⟨w3, hw2⟩ : ∃ q : World, q = (w2).drewN nq := ⟨_, rfl⟩; rw [← hw2]; clear z0 z1 fz0 fz1; replace rg : Scn w3 g (some ad) s.size c k hv := (by rw [hw2]; exact rg); replace kp : Kept g none w w3 := (by rw [hw2]; exact kp.drewN nq); clear hw2; have z0 := rg.cell 0; have z1 := rg.cell 1; have fz0 := rg.free 0; have fz1 := rg.free 1; simp at z0 z1
                go_wp2
                exact ⟨⟨k + 2 + E + 2, rfl, by omega, by omega, by have q := Scn.set rg (k + 2 + E + 2); rwa [show ((k + 2 + E + 2 : Nat) : Int) = (k : Int) + ((E : Int) + 4) by omega] at q, kp.set rfl _, HX.out⟩, by rw [HA.out, atOf_scn (by have q := Scn.set rg (k + 2 + E + 2); rwa [show ((k + 2 + E + 2 : Nat) : Int) = (k : Int) + ((E : Int) + 4) by omega] at q)]; omega⟩
              · rw [if_neg h3] at hRI
                have HX := Lib.hid (hbad.out h3)
                by_cases hck : c = k + 2
                · have kc1 : ∀ a m, (convert 26 9 (.slice (some ad) (s.size - (k + 2)) m)).run Tryd.prog (w2.drewN a) = .ok (.string tx) (w2.drewN a) := by rw [show s.size - (k + 2) = 0 by omega]; exact kc0 (by omega)
                  have hck1 : (c = k + 2) = True := by simp [hck]
                  clear hge h3 kc kc0 hck
                  go_quiet (exact Calls.quiet_of_same (Tryd.strings_Index _ ⟨#[42, 47]⟩ mm _ hszt hmm))
                  obtain ⟨w3, hw2⟩ : ∃ q : World, q = (w2).drewN nq := ⟨_, rfl⟩; rw [← hw2]; clear z0 z1 fz0 fz1; replace rg : Scn w3 g (some ad) s.size c k hv := (by rw [hw2]; exact rg); replace kp : Kept g none w w3 := (by rw [hw2]; exact kp.drewN nq); clear hw2; have z0 := rg.cell 0; have z1 := rg.cell 1; have fz0 := rg.free 0; have fz1 := rg.free 1; simp at z0 z1
                  go_wp2
                  all_goals
                    try rw [Exit.noGoto_ret]
                    go_ret
                    exact ⟨ret_bool (by rw [HX.out]), by rw [HX.out]; exact rg, kp⟩
                · have hck1 : (c = k + 2) = False := by simp; omega
                  clear hge h3 kc0
                  go_quiet (exact Calls.quiet_of_same (Tryd.strings_Index _ ⟨#[42, 47]⟩ mm _ hszt hmm))
                  obtain ⟨w3, hw2⟩ : ∃ q : World, q = (w2).drewN nq := ⟨_, rfl⟩; rw [← hw2]; clear z0 z1 fz0 fz1; replace rg : Scn w3 g (some ad) s.size c k hv := (by rw [hw2]; exact rg); replace kp : Kept g none w w3 := (by rw [hw2]; exact kp.drewN nq); clear hw2; have z0 := rg.cell 0; have z1 := rg.cell 1; have fz0 := rg.free 0; have fz1 := rg.free 1; simp at z0 z1
                  go_wp2
                  all_goals
                    try rw [Exit.noGoto_ret]
                    go_ret
                    exact ⟨ret_bool (by rw [HX.out]), by rw [HX.out]; exact rg, kp⟩
            · rw [show (decide (k + 1 < s.size) && (bt s k == UInt8.toNat 47 && bt s (k + 1) == UInt8.toNat 42)) = false by rw [Bool.eq_false_iff]; intro e; simp at e; exact h2 ⟨e.2.1, e.1, e.2.2⟩] at H2
              have H2 := Lib.hid H2
              have HX := Lib.hid (HE.out.trans (skip_stop hks hb1.out h1 h2))
              clear h1 h2 hrd2 d1 hrd
              go_wp2_with (first | (go_at_call 40; (with_reducible refine (H1.out).mono ?_); rintro e wq ⟨rfl, hwq⟩; obtain rfl := hwq.symm) | (go_at_call 40; (with_reducible refine (H2.out).mono ?_); rintro e wq ⟨rfl, hwq⟩; obtain rfl := hwq.symm))
              go_meet
              rw [HX.out]
              exact ⟨rfl, rfl, rg, kp⟩
        · rw [hbk] at hbl
          have hD0 : (0 ≤ D) = True := by simpa using hbl
          have hD1 : (D ≥ 0) = True := hD0
          have HX := Lib.hid (HE.out.trans (skip_blank hks hbk))
          clear hbl hbk
          go_quiet (exact Calls.quiet_of_same (Tryd.strings_IndexByte _ _ _))
          obtain ⟨w2, hw2⟩ : ∃ q : World, q = (w1).drewN nq := ⟨_, rfl⟩; rw [← hw2]; clear z0 z1 fz0 fz1; replace rg : Scn w2 g (some ad) s.size c k hv := (by rw [hw2]; exact rg); replace kp : Kept g none w w2 := (by rw [hw2]; exact kp.drewN nq); clear hw2; have z0 := rg.cell 0; have z1 := rg.cell 1; have fz0 := rg.free 0; have fz1 := rg.free 1; simp at z0 z1
          go_wp2
          exact ⟨⟨k + 1, rfl, by omega, by omega, by have q := Scn.set rg (k + 1); simpa using q, kp.set rfl _, HX.out⟩, by rw [HA.out, atOf_scn (by have q := Scn.set rg (k + 1); simpa using q)]; omega⟩
      · go_wp2_with fail
        go_quiet (fail)
        obtain ⟨w1, hw2⟩ : ∃ q : World, q = (wr).drewN nq := ⟨_, rfl⟩; rw [← hw2]; clear z0 z1 fz0 fz1; replace rg : Scn w1 g A s.size c k hv := (by rw [hw2]; exact rg); replace kp : Kept g none w w1 := (by rw [hw2]; exact kp.drewN nq); clear hw2; have z0 := rg.cell 0; have z1 := rg.cell 1; have fz0 := rg.free 0; have fz1 := rg.free 1; simp at z0 z1
        go_wp2
        go_meet
        rw [HE.out, skip_end hks]
        exact ⟨rfl, rfl, rg, kp⟩
  case rest =>
    obtain ⟨rfl, h2, rg, kp⟩ := hcut
    go_wp2
    try rw [Exit.noGoto_ret]
    go_ret
    exact ⟨ret_bool h2.symm, rg, kp⟩
end Go.Proofs.YtdlppdoankeilaaDoor
