/- The walk of the reference's stripped. -/
import Derived.Test.YtpkdhciokiomlaaGreatDoorHBZ9
import Derived.Test.YtpkdhciokiomlaaGreatDoorHBZ16
import Derived.Test.YtpkdhciokiomlaaGreatDoorHBZ17
import Derived.Test.YtpkdhciokiomlaaGreatDoorHRMk
import Derived.Deep.CutRange
import Derived.Deep.DeepCutAuto
namespace Go.Proofs.YtpkdhciokiomlaaGreatDoor
set_option linter.unusedVariables false
set_option linter.unusedSimpArgs false
set_option linter.unnecessarySimpa false
open Go.RowKit
attribute [local go_sem] cell_alloc_add cell_set_add lt_more
set_option maxRecDepth 100000 in
set_option maxHeartbeats 16000000 in
theorem rstripped_any (A : Option Addr) (L : List Nd) (N c : Nat) (hN : L.length = N) (hc : N ≤ c) (hm : c ≤ maxLen) (hNN : N ≤ 1000000) (hkl : ∀ j : Int, (nd L j).ks.length ≤ 1000000) : ∀ (f i e : Nat) (w : World), Sp L i e → e - i ≤ f → TreeAt w w.heap.size A L →
    Calls Tryz.prog 16 #[.agg #[.slice A N c], .int .i64 (i : Int)] w fun r w' => (∃ v l, r = .returned (.agg #[v]) ∧ OwnT w' w.heap.size v l ∧ l.map (·.1) = stripL L f i) ∧ Below w.heap.size w w' := by
  have HN := Lib.hid hN
  have hm2 := Lib.hid hm
  have HKL := Lib.hid hkl
  obtain ⟨i0, hi0, iz0, iz1, iz2⟩ := info_parts infoTree
  unfold maxLen at hm
  intro f
  induction f with
  | zero => intro i e w hS hf; have := hS.lt; omega
  | succ f ih =>
    intro i e w hS hf hT
    have IH := Lib.hid ih
    clear ih
    have hi : i < N := by rw [← hN]; exact hS.1
    have HSP := Lib.hid hS
    obtain ⟨ad, rfl, hn⟩ := hT i hS.1
    have hb2 := hn.blk
    have hb1 : ad.block < w.heap.size := (by rw [block_add] at hb2; exact hb2)
    have HWM := Lib.hid hn.wm
    obtain ⟨K, kc, c0, c1, c2, c3, c4, hK, hkk, hkm⟩ := node_open hn
    have HBG := Lib.hid (fun h => kid0 hS.2.1 (n := (i : Int)) h)
    have HKD := Lib.hid (fun q (h : q < (nd L i).ks.length) => kid_sp hS h)
    have HT := Lib.hid hT
    have HL := Lib.hid (show stripL L (f + 1) i = if (nd L i).k = 33 ∨ (nd L i).k = 34 then stripL L f ((nd L i).ks.getD 0 0) else mkL (normN (nd L i)) (partsL (stepS L (stripL L f) (nd L i).k) 0 (nd L i).ks) from rfl)
    have HF := Lib.hid (And.intro hf hS.lt)
    have HOK := Lib.hid (parts_ok hkl hS hf)
    have HPT := Lib.hid (fun q (h : q < (nd L i).ks.length) => parts_take (stepS L (stripL L f) (nd L i).k) (nd L i).ks 0 q h)
    have HPL := Lib.hid (partsL_len L (stripL L f) (nd L i).k (nd L i).ks 0)
    have hkl0 := hkl i
    have hsl := hS.len
    rw [hN] at hsl
    clear hn hS hT hN hf hkl
    generalize stripL L (f + 1) i = R at *
    generalize nd L (i : Int) = y at *
    have HNM := Lib.hid (show (normN y).k = y.k ∧ (normN y).x = y.x ∧ (normN y).p = y.p ∧ (normN y).m = if y.k = 44 then 0 else if y.k = 66 then (if 2 ≤ y.m then 2 else 0) else y.m from by
      unfold normN
      split
      · exact ⟨rfl, rfl, rfl, rfl⟩
      · split <;> exact ⟨rfl, rfl, rfl, rfl⟩)
    generalize normN y = yn at *
    obtain ⟨k, x, m, ks, p⟩ := y
    obtain ⟨yk, yx, ym, yks, yp⟩ := yn
    simp only at c0 c1 c2 c3 c4 hK hkk HBG HKD HL HWM HOK HPT HPL HNM hkl0
    obtain ⟨rfl, rfl, rfl, hym⟩ := HNM.out
    clear HNM
    unfold maxLen at hkm
    generalize hMM : ks.length = M at *
    have HMM := Lib.hid hMM
    clear hMM
    obtain ⟨wa, hwa⟩ : ∃ wa : World, wa = ((w.alloc (.cells #[.slice (some ad) N c] 24)).alloc (.cells #[.slice none 0 0] 24)).alloc (.cells #[.int .i64 yk, .string yx, .int .i64 m, .slice K M kc, .int .i64 yp] 37) := ⟨_, rfl⟩
    have bA : Below w.heap.size w wa := by rw [hwa]; exact (by (exact bl))
    have rT : Row wa w.heap.size 24 #[.slice (some ad) N c] := by rw [hwa]; exact ((row_new rfl).alloc _).alloc _
    have rR : Row wa (w.heap.size + 1) 24 #[.slice none 0 0] := by rw [hwa]; exact (row_new (by simp)).alloc _
    have rX : Row wa (w.heap.size + 2) 37 #[.int .i64 yk, .string yx, .int .i64 m, .slice K M kc, .int .i64 yp] := by rw [hwa]; exact row_new (by simp)
    have hsz : w.heap.size + 3 ≤ wa.heap.size := by rw [hwa]; simp
    by_cases hk : yk = 33 ∨ yk = 34
    · have hM0 := HBG.out hk
      obtain ⟨j, m', e1, hS, e2, e3⟩ := HKD.out 0 hM0
      have hR := HL.out
      rw [if_pos hk, e1] at hR
      have HR := Lib.hid hR
      obtain ⟨kd, rfl, hkb, kcell⟩ := hK 0 hM0
      rw [show ksV ks 0 = .int .i64 (j : Int) from by unfold ksV; rw [e1]] at kcell
      have kcell0 : wa.cell? kd = some (.int .i64 (j : Int)) := (bA.cell hkb).trans (by rw [← add_zero kd]; exact kcell)
      have hkl : kd.block < wa.heap.size := by omega
      have HC := Lib.hid (fun W (hb : Below w.heap.size w W) => IH.out j m' W hS (by have := HF.out; have := hS.lt; omega) (HT.out.later hb))
      rw [← HR.out] at HC
      have h0M : (0 : Int) < (M : Int) := by omega
      have t0 := rT.cell 0
      have x0 := rX.cell 0
      have x3 := rX.cell 3
      simp at t0 x0 x3
      have lT := rT.lt
      have lX := rX.lt
      have lR := rR.lt
      clear hR e1 hS hK HL HOK HPT HPL hym
      rcases hk with rfl | rfl
      all_goals
        go_enter Tryz.func16, Tryz.ntmps16
        go_upto_region 3 with fail
        rw [← hwa]
        clear hwa
        go_region_law (first
          | (go_simp; go_at_call 16; (with_reducible refine (HC.out _ (by (exact bl))).mono ?_); rintro r w1 ⟨⟨v1, l1, rfl, hO1, hl1⟩, b1⟩; obtain ⟨A1, cc1, rfl, hcc1, hmm1⟩ := own_slice hO1.row; have z1 := Below.size b1; have rR1 : Row w1 (w.heap.size + 1) 24 #[.slice none 0 0] := Row.below (by exact rR) b1 (by exact lR); have fR1 := rR1.free 0; have cR1 := rR1.cell 0; simp at cR1; have lR1 := rR1.lt; have r5 := row_put1 rR1 (.slice A1 l1.length cc1); have r50 := r5.cell 0; simp at r50)
          | fail)
        all_goals go_wp2
        all_goals refine bodyPost_ret (v := .agg #[.slice A1 l1.length cc1]) (by simp [results, Tryz.results16, go_sem, *]) rfl ?_
        all_goals exact ⟨⟨_, rfl, _, (hO1.far (a := ⟨w.heap.size + 1, 0, none⟩) (by show w.heap.size + 1 < wa.heap.size; omega) _).mono (by show w.heap.size ≤ wa.heap.size; omega), hl1⟩, (Below.trans (b := _) (by exact bl) (Below.mono (B := wa.heap.size) b1 (by omega))).setCell (by show w.heap.size ≤ w.heap.size + 1; omega) _⟩
    · have hR := HL.out
      rw [if_neg hk] at hR
      obtain ⟨P, hP⟩ : ∃ P, P = stepS L (stripL L f) yk := ⟨_, rfl⟩
      rw [← hP] at HOK HPT HPL hR
      have HR := Lib.hid hR
      have HP := Lib.hid hP
      have hkb : (yk == 33) = false ∧ (yk == 34) = false := ⟨beq_eq_false_iff_ne.2 (fun h => hk (.inl h)), beq_eq_false_iff_ne.2 (fun h => hk (.inr h))⟩
      obtain ⟨k33, k34⟩ := hkb
      have HYM := Lib.hid hym
      have HYW := Lib.hid (show -9223372036854775808 ≤ ym ∧ ym ≤ 9223372036854775807 from by
        rw [hym]
        have := HWM.out
        split
        · omega
        · split
          · split <;> omega
          · exact this)
      have HKK := Lib.hid hK
      clear hR hP HL hym hk HBG hK
      go_enter Tryz.func16, Tryz.ntmps16
      go_upto_region 4 with fail
      rw [← hwa]
      clear hwa
      have x0 := rX.cell 0
      have x2 := rX.cell 2
      have x2f := rX.free 2
      have lX := rX.lt
      simp at x0 x2
      go_upto_if 31 with fail
      go_cut [] (fun wx => ∃ m1, m1 = (if yk = 44 then 0 else m) ∧ Row wx w.heap.size 24 #[.slice (some ad) N c] ∧ Row wx (w.heap.size + 1) 24 #[.slice none 0 0] ∧ Row wx (w.heap.size + 2) 37 #[.int .i64 yk, .string yx, .int .i64 m1, .slice K M kc, .int .i64 yp] ∧ Below w.heap.size w wx)
      case first =>
        by_cases h44 : yk = 44
        · subst h44
          go_wp2
          go_meet
          exact ⟨0, rfl, rT.far (by show w.heap.size ≠ w.heap.size + 2; omega) _, rR.far (by show w.heap.size + 1 ≠ w.heap.size + 2; omega) _, by have := rX.put 2 (.int .i64 0); simpa using this, bA.setCell (by show w.heap.size ≤ w.heap.size + 2; omega) _⟩
        · have k44 : (yk == 44) = false := beq_eq_false_iff_ne.2 h44
          go_wp2
          go_meet
          exact ⟨m, (if_neg h44).symm, rT, rR, rX, bA⟩
      case rest =>
        obtain ⟨m1, hm1, rT1, rR1, rX1, b1⟩ := hcut
        clear rT rR rX bA x0 x2 x2f lX hsz
        have hym2 := HYM.out
        have HM1 := Lib.hid hm1
        have HM2 := Lib.hid (show ym = if yk = 66 then (if 2 ≤ m1 then 2 else 0) else m1 from by
          rw [hym2, hm1]
          by_cases h44 : yk = 44
          · subst h44; simp
          · rw [if_neg h44, if_neg h44])
        clear hm1 hym2 HYM
        have x0 := rX1.cell 0
        have x2 := rX1.cell 2
        have x2f := rX1.free 2
        have lX := rX1.lt
        simp at x0 x2
        generalize hwo : wc = wo at *
        clear hwo
        go_upto_if 35 with fail
        go_cut [] (fun wx => Row wx w.heap.size 24 #[.slice (some ad) N c] ∧ Row wx (w.heap.size + 1) 24 #[.slice none 0 0] ∧ Row wx (w.heap.size + 2) 37 #[.int .i64 yk, .string yx, .int .i64 ym, .slice K M kc, .int .i64 yp] ∧ Below w.heap.size w wx)
        case first =>
          have hput : ∀ u, Row wo (w.heap.size + 2) 37 #[.int .i64 yk, .string yx, .int .i64 m1, .slice K M kc, .int .i64 yp] → ym = u → Row (wo.setCell ⟨w.heap.size + 2, 2, none⟩ (.int .i64 u)) (w.heap.size + 2) 37 #[.int .i64 yk, .string yx, .int .i64 ym, .slice K M kc, .int .i64 yp] := fun u hr e => by
            subst e
            have := hr.put 2 (.int .i64 ym); simpa using this
          have HPU := Lib.hid hput
          clear hput
          by_cases h66 : yk = 66
          · subst h66
            by_cases h2 : 2 ≤ m1
            · have h2' : m1 ≥ 2 := h2
              have hE := HM2.out
              rw [if_pos rfl, if_pos h2] at hE
              have HE := Lib.hid hE
              clear hE
              go_wp2
              go_meet
              exact ⟨rT1.far (by show w.heap.size ≠ w.heap.size + 2; omega) _, rR1.far (by show w.heap.size + 1 ≠ w.heap.size + 2; omega) _, HPU.out _ rX1 HE.out, b1.setCell (by show w.heap.size ≤ w.heap.size + 2; omega) _⟩
            · have h2' : ¬ m1 ≥ 2 := h2
              have hE := HM2.out
              rw [if_pos rfl, if_neg h2] at hE
              have HE := Lib.hid hE
              clear hE
              go_wp2
              go_meet
              exact ⟨rT1.far (by show w.heap.size ≠ w.heap.size + 2; omega) _, rR1.far (by show w.heap.size + 1 ≠ w.heap.size + 2; omega) _, HPU.out _ rX1 HE.out, b1.setCell (by show w.heap.size ≤ w.heap.size + 2; omega) _⟩
          · have k66 : (yk == 66) = false := beq_eq_false_iff_ne.2 h66
            have hE := HM2.out
            rw [if_neg h66] at hE
            have HE := Lib.hid hE
            clear hE h66
            go_wp2
            go_meet
            exact ⟨rT1, rR1, by rw [HE.out]; exact rX1, b1⟩
        case rest =>
          obtain ⟨rT, rR, rX, bA⟩ := hcut
          clear rT1 rR1 rX1 b1 x0 x2 x2f lX HM1 HM2 m1
          have hsz : w.heap.size + 3 ≤ wc.heap.size := by have := rX.lt; omega
          generalize hwo : wc = wa at *
          clear hwo
          go_wp2
          go_loopw [6, 7] (fun v t wr => ∃ (q p8 : Nat), t = .int .i64 (q : Int) ∧ q ≤ M ∧ p8 ≤ q ∧ Hid (Grove wr (w.heap.size + 3) v p8 (partsL P 0 (ks.take q))) ∧ Row wr w.heap.size 24 #[.slice (some ad) N c] ∧ Row wr (w.heap.size + 1) 24 #[.slice none 0 0] ∧ Row wr (w.heap.size + 2) 37 #[.int .i64 yk, .string yx, .int .i64 ym, .slice K M kc, .int .i64 yp] ∧ Below w.heap.size w wr) (fun _ t _ => M - (intOf t).toNat)
          case atStart => exact ⟨0, 0, rfl, Nat.zero_le _, Nat.le_refl _, Lib.hid (Grove.nil _ _), rT, rR, rX, bA⟩
          case round =>
            obtain ⟨q, p8, rfl, hq, hp8, HG, rT, rR, rX, hb⟩ := hrel
            clear bA hsz
            generalize hwo : wr = wo at *
            clear hwo
            have hz := Below.size hb
            have lT := rT.lt
            have lR := rR.lt
            have lX := rX.lt
            obtain ⟨xs0, ho0, -⟩ := HG.out.row
            obtain ⟨A8, c8, hv8, hc8, hm8⟩ := own_slice ho0
            subst hv8
            clear ho0 xs0
            have t0 := rT.cell 0
            have x0 := rX.cell 0
            have x3 := rX.cell 3
            simp at t0 x0 x3
            by_cases hlt : q < M
            · obtain ⟨j, m', e1, hS, e2, e3⟩ := HKD.out q hlt
              have HTK := Lib.hid (HPT.out q hlt)
              rw [Nat.zero_add, e1] at HTK
              obtain ⟨kd, rfl, hkb, kcell⟩ := HKK.out q hlt
              rw [show ksV ks q = .int .i64 (j : Int) from by unfold ksV; rw [e1]] at kcell
              replace kcell : wo.cell? (kd.add q) = some (.int .i64 (j : Int)) := (hb.cell (by rw [block_add]; exact hkb)).trans kcell
              have hkbo : kd.block < wo.heap.size := by omega
              have hjN : j < N := by rw [← HN.out]; exact hS.1
              have hqi : (q : Int) < (M : Int) := by omega
              have hji : (j : Int) < (N : Int) := by omega
              have hd := (HT.out.at_ hS.1).keep (W' := wo) (fun p hp => hb.cell hp)
              have hbd : (ad.add (j * 5)).block < wo.heap.size := by rw [block_add]; omega
              have hbad : ad.block < wo.heap.size := by omega
              obtain ⟨K', kc', d0, d1, d2, d3, d4, hK', hkk', hkm'⟩ := node_open hd
              have HSB := Lib.hid hS
              have HEM := Lib.hid (fun W => rEmptied_any yk q W)
              have HLE := Lib.hid (fun W (hb : Below w.heap.size w W) => rleft_any (some ad) L N c HN.out hc hm2.out L.length j m' W hS (by have := hS.len; omega) (HT.out.later hb))
              have HSR := Lib.hid (fun W (hb : Below w.heap.size w W) => IH.out j m' W hS (by have := HF.out; have := hS.lt; omega) (HT.out.later hb))
              have HST := Lib.hid (show P q (j : Int) = if emptied yk q then [[oneN (nd L j)]] else if leftB L L.length j then [] else [stripL L f j] from by rw [HP.out]; rfl)
              have HON := Lib.hid (show oneN (nd L j) = ⟨if (nd L j).k = 2 then 2 else 1, ⟨#[]⟩, 0, [], (nd L j).p⟩ from rfl)
              clear e1 hS hd hK' 
              generalize P q (j : Int) = PJ at *
              generalize oneN (nd L j) = oj at *
              generalize leftB L L.length j = lj at *
              generalize stripL L f j = sj at *
              generalize nd L (j : Int) = z at *
              obtain ⟨zk, zx, zm, zks, zp⟩ := z
              simp only at d0 d1 d2 d3 d4 HON hkk'
              generalize emptied yk q = ej at *
              generalize zks.length = zn at *
              unfold maxLen at hkm'
              obtain ⟨wb, hwb⟩ : ∃ wb : World, wb = wo.alloc (.cells #[.int .i64 zk, .string zx, .int .i64 zm, .slice K' zn kc', .int .i64 zp] 37) := ⟨_, rfl⟩
              have bX : Below wo.heap.size wo wb := by rw [hwb]; exact (Below.refl _ _).alloc (Nat.le_refl _) _
              have rZX : Row wb wo.heap.size 37 #[.int .i64 zk, .string zx, .int .i64 zm, .slice K' zn kc', .int .i64 zp] := by rw [hwb]; exact row_new rfl
              have rTX := rT.below bX lT
              have rXX := rX.below bX lX
              go_upto_region 17 with fail
              rw [← hwb]
              clear hwb d0 d1 d2 d3 d4 kcell t0 x0 x3
              have x0 := rXX.cell 0
              have z0 := rZX.cell 0
              simp at x0 z0
              cases ej with
              | true =>
                have hPJ := HST.out
                rw [if_pos rfl] at hPJ
                by_cases h2 : zk = 2
                · subst h2
                  rw [HON.out, if_pos rfl] at hPJ
                  clear HST HON HLE HSR
                  have HPJ := Lib.hid hPJ
                  clear hPJ
                  go_wp2_with (first | (go_at_call 26; (with_reducible refine (HEM.out _).mono ?_); rintro r w1 ⟨rfl, b1'⟩; replace bX := bX.trans (b1'.mono bX.size); replace rTX := rTX.below b1' rTX.lt; replace rXX := rXX.below b1' rXX.lt; replace rZX := rZX.below b1' rZX.lt; have t0 := rTX.cell 0; have x0 := rXX.cell 0; have z0 := rZX.cell 0; have z1 := rZX.cell 1; have z2 := rZX.cell 2; have z3 := rZX.cell 3; have z4 := rZX.cell 4; simp at t0 x0 z0 z1 z2 z3 z4) | (go_at_call 27; (with_reducible refine (rOne_any _ _ _ _ _ _ _ _ _).mono ?_); rintro r w2 ⟨⟨v2, l2, rfl, hO2, hl2⟩, b2⟩; have q1 := hb.trans (bX.mono hz); obtain ⟨A2, c2, hv2, hc2, hm2'⟩ := own_slice hO2.row; subst hv2; have q2 := q1.trans (b2.mono q1.size); have b02 := bX.trans (b2.mono bX.size); obtain ⟨xs8, ho8, ht8⟩ := (HG.out.below b02).row; have HO8 := Lib.hid ho8; have HT8 := Lib.hid ht8; have hge := own_ge ho8; have hz2 := q2.size; have hz3 := b02.size; have hzx := bX.size; clear ho8 ht8) | (at_builtin; refine wpList_append_rd _ rfl (.tmp 74) (.tmp 77) _ rfl (w.heap.size + 3) 24 i0 _ 24 Tryz.underlying56 hi0 iz0 iz1 iz2 rfl (.slice A8 p8 c8) p8 xs8 rfl (HO8.out.alloc _) _ _ 1 1 _ rfl (rd_one w2 24 (.slice A2 l2.length c2)) (fun _ => rfl) (by unfold maxLen; omega) (by omega) (by simp; omega) ?_; intro v9 w9 own9 hg9 hob9) | fail)
                  have hPJ := HPJ.out
                  have hTa : OwnT (w2.alloc (.cells #[.slice A2 l2.length c2] 24)) (w.heap.size + 3) (.slice A2 l2.length c2) l2 := (hO2.below ((Below.refl _ _).alloc (Nat.le_refl _) _)).mono (by omega)
                  refine ⟨⟨q + 1, p8 + 1, by go_num, by omega, by omega, Lib.hid ?_, row_grown ((rT.below b02 lT).alloc _) hg9 (fun e => by have := hge _ e; omega), row_grown ((rR.below b02 lR).alloc _) hg9 (fun e => by have := hge _ e; omega), row_grown ((rX.below b02 lX).alloc _) hg9 (fun e => by have := hge _ e; omega), (q2.alloc (by omega) _).grown hg9 (by simp; omega) (fun k hk => by have := hge k hk; omega)⟩, by simp [intOf]; omega⟩
                  rw [HTK.out, hPJ]
                  exact grove_snoc (W := w2.alloc (.cells #[.slice A2 l2.length c2] 24)) HG.out.len (HO8.out.alloc _) (fun j hj => by
                    obtain ⟨A', c', l', h1, h2, h3⟩ := HT8.out j hj
                    exact ⟨A', c', l', h1, h2.below ((Below.refl _ _).alloc (Nat.le_refl _) _), h3⟩) hTa hl2 own9 hg9
                · have k2 : (zk == 2) = false := beq_eq_false_iff_ne.2 h2
                  rw [HON.out, if_neg h2] at hPJ
                  clear HST HON HLE HSR h2
                  have HPJ := Lib.hid hPJ
                  clear hPJ
                  go_wp2_with (first | (go_at_call 26; (with_reducible refine (HEM.out _).mono ?_); rintro r w1 ⟨rfl, b1'⟩; replace bX := bX.trans (b1'.mono bX.size); replace rTX := rTX.below b1' rTX.lt; replace rXX := rXX.below b1' rXX.lt; replace rZX := rZX.below b1' rZX.lt; have t0 := rTX.cell 0; have x0 := rXX.cell 0; have z0 := rZX.cell 0; have z1 := rZX.cell 1; have z2 := rZX.cell 2; have z3 := rZX.cell 3; have z4 := rZX.cell 4; simp at t0 x0 z0 z1 z2 z3 z4) | (go_at_call 27; (with_reducible refine (rOne_any _ _ _ _ _ _ _ _ _).mono ?_); rintro r w2 ⟨⟨v2, l2, rfl, hO2, hl2⟩, b2⟩; have q1 := hb.trans (bX.mono hz); obtain ⟨A2, c2, hv2, hc2, hm2'⟩ := own_slice hO2.row; subst hv2; have q2 := q1.trans (b2.mono q1.size); have b02 := bX.trans (b2.mono bX.size); obtain ⟨xs8, ho8, ht8⟩ := (HG.out.below b02).row; have HO8 := Lib.hid ho8; have HT8 := Lib.hid ht8; have hge := own_ge ho8; have hz2 := q2.size; have hz3 := b02.size; have hzx := bX.size; clear ho8 ht8) | (at_builtin; refine wpList_append_rd _ rfl (.tmp 84) (.tmp 87) _ rfl (w.heap.size + 3) 24 i0 _ 24 Tryz.underlying56 hi0 iz0 iz1 iz2 rfl (.slice A8 p8 c8) p8 xs8 rfl (HO8.out.alloc _) _ _ 1 1 _ rfl (rd_one w2 24 (.slice A2 l2.length c2)) (fun _ => rfl) (by unfold maxLen; omega) (by omega) (by simp; omega) ?_; intro v9 w9 own9 hg9 hob9) | fail)
                  have hPJ := HPJ.out
                  have hTa : OwnT (w2.alloc (.cells #[.slice A2 l2.length c2] 24)) (w.heap.size + 3) (.slice A2 l2.length c2) l2 := (hO2.below ((Below.refl _ _).alloc (Nat.le_refl _) _)).mono (by omega)
                  refine ⟨⟨q + 1, p8 + 1, by go_num, by omega, by omega, Lib.hid ?_, row_grown ((rT.below b02 lT).alloc _) hg9 (fun e => by have := hge _ e; omega), row_grown ((rR.below b02 lR).alloc _) hg9 (fun e => by have := hge _ e; omega), row_grown ((rX.below b02 lX).alloc _) hg9 (fun e => by have := hge _ e; omega), (q2.alloc (by omega) _).grown hg9 (by simp; omega) (fun k hk => by have := hge k hk; omega)⟩, by simp [intOf]; omega⟩
                  rw [HTK.out, hPJ]
                  exact grove_snoc (W := w2.alloc (.cells #[.slice A2 l2.length c2] 24)) HG.out.len (HO8.out.alloc _) (fun j hj => by
                    obtain ⟨A', c', l', h1, h2, h3⟩ := HT8.out j hj
                    exact ⟨A', c', l', h1, h2.below ((Below.refl _ _).alloc (Nat.le_refl _) _), h3⟩) hTa hl2 own9 hg9
              | false =>
                have hPJ := HST.out
                rw [if_neg (by simp)] at hPJ
                cases lj with
                | true =>
                  rw [if_pos rfl] at hPJ
                  have HPJ := Lib.hid hPJ
                  clear hPJ HST HON HSR
                  go_wp2_with (first | (go_at_call 26; (with_reducible refine (HEM.out _).mono ?_); rintro r w1 ⟨rfl, b1'⟩; replace bX := bX.trans (b1'.mono bX.size); replace rTX := rTX.below b1' rTX.lt; replace rXX := rXX.below b1' rXX.lt; replace rZX := rZX.below b1' rZX.lt; have t0 := rTX.cell 0; have x0 := rXX.cell 0; have z0 := rZX.cell 0; have z1 := rZX.cell 1; have z2 := rZX.cell 2; have z3 := rZX.cell 3; have z4 := rZX.cell 4; simp at t0 x0 z0 z1 z2 z3 z4) | (go_at_call 28; (with_reducible refine (HLE.out _ (hb.trans (bX.mono hz))).mono ?_); rintro r w1 ⟨rfl, b1'⟩; replace bX := bX.trans (b1'.mono bX.size); replace rTX := rTX.below b1' rTX.lt; replace rXX := rXX.below b1' rXX.lt; replace rZX := rZX.below b1' rZX.lt; have t0 := rTX.cell 0; have x0 := rXX.cell 0; have z0 := rZX.cell 0; have z1 := rZX.cell 1; have z2 := rZX.cell 2; have z3 := rZX.cell 3; have z4 := rZX.cell 4; simp at t0 x0 z0 z1 z2 z3 z4) | fail)
                  refine ⟨⟨q + 1, p8, by go_num, by omega, by omega, Lib.hid ?_, rT.below bX lT, rR.below bX lR, rX.below bX lX, hb.trans (bX.mono hz)⟩, by simp [intOf]; omega⟩
                  rw [HTK.out, HPJ.out, List.append_nil]
                  exact HG.out.below bX
                | false =>
                  rw [if_neg (by simp)] at hPJ
                  have HPJ := Lib.hid hPJ
                  clear hPJ HST HON
                  go_wp2_with (first | (go_at_call 26; (with_reducible refine (HEM.out _).mono ?_); rintro r w1 ⟨rfl, b1'⟩; replace bX := bX.trans (b1'.mono bX.size); replace rTX := rTX.below b1' rTX.lt; replace rXX := rXX.below b1' rXX.lt; replace rZX := rZX.below b1' rZX.lt; have t0 := rTX.cell 0; have x0 := rXX.cell 0; have z0 := rZX.cell 0; have z1 := rZX.cell 1; have z2 := rZX.cell 2; have z3 := rZX.cell 3; have z4 := rZX.cell 4; simp at t0 x0 z0 z1 z2 z3 z4) | (go_at_call 28; (with_reducible refine (HLE.out _ (hb.trans (bX.mono hz))).mono ?_); rintro r w1 ⟨rfl, b1'⟩; replace bX := bX.trans (b1'.mono bX.size); replace rTX := rTX.below b1' rTX.lt; replace rXX := rXX.below b1' rXX.lt; replace rZX := rZX.below b1' rZX.lt; have t0 := rTX.cell 0; have x0 := rXX.cell 0; have z0 := rZX.cell 0; have z1 := rZX.cell 1; have z2 := rZX.cell 2; have z3 := rZX.cell 3; have z4 := rZX.cell 4; simp at t0 x0 z0 z1 z2 z3 z4) | (go_at_call 16; (with_reducible refine (HSR.out _ (hb.trans (bX.mono hz))).mono ?_); rintro r w2 ⟨⟨v2, l2, rfl, hO2, hl2⟩, b2⟩; have q1 := hb.trans (bX.mono hz); obtain ⟨A2, c2, hv2, hc2, hm2'⟩ := own_slice hO2.row; subst hv2; have q2 := q1.trans (b2.mono q1.size); have b02 := bX.trans (b2.mono bX.size); obtain ⟨xs8, ho8, ht8⟩ := (HG.out.below b02).row; have HO8 := Lib.hid ho8; have HT8 := Lib.hid ht8; have hge := own_ge ho8; have hz2 := q2.size; have hz3 := b02.size; have hzx := bX.size; clear ho8 ht8) | (at_builtin; refine wpList_append_rd _ rfl (.tmp 58) (.tmp 62) _ rfl (w.heap.size + 3) 24 i0 _ 24 Tryz.underlying56 hi0 iz0 iz1 iz2 rfl (.slice A8 p8 c8) p8 xs8 rfl (HO8.out.alloc _) _ _ 1 1 _ rfl (rd_one w2 24 (.slice A2 l2.length c2)) (fun _ => rfl) (by unfold maxLen; omega) (by omega) (by simp; omega) ?_; intro v9 w9 own9 hg9 hob9) | fail)
                  have hPJ := HPJ.out
                  have hTa : OwnT (w2.alloc (.cells #[.slice A2 l2.length c2] 24)) (w.heap.size + 3) (.slice A2 l2.length c2) l2 := (hO2.below ((Below.refl _ _).alloc (Nat.le_refl _) _)).mono (by omega)
                  refine ⟨⟨q + 1, p8 + 1, by go_num, by omega, by omega, Lib.hid ?_, row_grown ((rT.below b02 lT).alloc _) hg9 (fun e => by have := hge _ e; omega), row_grown ((rR.below b02 lR).alloc _) hg9 (fun e => by have := hge _ e; omega), row_grown ((rX.below b02 lX).alloc _) hg9 (fun e => by have := hge _ e; omega), (q2.alloc (by omega) _).grown hg9 (by simp; omega) (fun k hk => by have := hge k hk; omega)⟩, by simp [intOf]; omega⟩
                  rw [HTK.out, hPJ]
                  exact grove_snoc (W := w2.alloc (.cells #[.slice A2 l2.length c2] 24)) HG.out.len (HO8.out.alloc _) (fun j hj => by
                    obtain ⟨A', c', l', h1, h2, h3⟩ := HT8.out j hj
                    exact ⟨A', c', l', h1, h2.below ((Below.refl _ _).alloc (Nat.le_refl _) _), h3⟩) hTa hl2 own9 hg9
            · obtain rfl : q = M := by omega
              have hGv := HG.out
              rw [List.take_of_length_le (by rw [HMM.out]; exact Nat.le_refl _)] at hGv
              have HGV := Lib.hid hGv
              have hks : ∀ q, q < p8 → ∀ j : Nat, (nd ((partsL P 0 ks).getD q []) j).ks.length ≤ 1000000000000 := fun q hq2 j => by
                have hql : q < (partsL P 0 ks).length := by rw [HGV.out.len]; exact hq2
                have h1 : (partsL P 0 ks).getD q [] ∈ partsL P 0 ks := by
                  rw [List.getD_eq_getElem?_getD, List.getElem?_eq_getElem hql]; exact List.getElem_mem hql
                have h2 := (HOK.out.2 _ h1).2
                rcases Nat.lt_or_ge j ((partsL P 0 ks).getD q []).length with hj | hj
                · have h3 := nd_get hj
                  have h4 := h2 _ (List.mem_of_getElem? h3)
                  omega
                · rw [nd_nat, List.getD_eq_getElem?_getD, List.getElem?_eq_none hj]
                  simp [nd0]
              have HMK := Lib.hid (fun W (hb2 : Below wo.heap.size wo W) => rMake_any ⟨yk, yx, ym, yks, yp⟩ K q kc (partsL P 0 ks) p8 HGV.out.len A8 c8 hc8 hm8 (by have := HOK.out.1; omega) (by omega) hks HYW.out W (HGV.out.below hb2).forest)
              simp only at HMK
              rw [← HR.out] at HMK
              have x1 := rX.cell 1
              have x2 := rX.cell 2
              have x4 := rX.cell 4
              simp at x1 x2 x4
              have fR := rR.free 0
              clear hGv hks HG
              go_wp2_with (first
                | (go_at_call 29; (with_reducible refine (HMK.out _ (Below.refl _ _)).mono ?_); rintro r w1 ⟨⟨v1, l1, rfl, hO1, hl1⟩, b1⟩; obtain ⟨A1, cc1, rfl, hcc1, hmm1⟩ := own_slice hO1.row; have z1 := Below.size b1; have rR1 := rR.below b1 lR; have fR1 := rR1.free 0; have cR1 := rR1.cell 0; simp at cR1; have lR1 := rR1.lt; have r5 := row_put1 rR1 (.slice A1 l1.length cc1); have r50 := r5.cell 0; simp at r50)
                | fail)
              refine bodyPost_ret (v := .agg #[.slice A1 l1.length cc1]) (by simp [results, Tryz.results16, go_sem, *]) rfl ?_
              refine ⟨⟨_, _, rfl, (hO1.far (a := ⟨w.heap.size + 1, 0, none⟩) (by show w.heap.size + 1 < wo.heap.size; omega) _).mono (by omega), hl1⟩, (hb.trans (b1.mono hz)).setCell (by show w.heap.size ≤ w.heap.size + 1; omega) _⟩
end Go.Proofs.YtpkdhciokiomlaaGreatDoor
