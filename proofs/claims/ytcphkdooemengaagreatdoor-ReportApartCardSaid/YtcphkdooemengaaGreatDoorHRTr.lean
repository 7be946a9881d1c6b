/- The walk of the reference's Tree (a tree's text). -/
import Derived.Test.YtcphkdooemengaaGreatDoorHBZ8
import Derived.Lib.SliceRun
import Derived.Test.YtcphkdooemengaaGreatDoorHBZ12
import Derived.Test.YtcphkdooemengaaGreatDoorHBZ20
import Derived.Test.YtcphkdooemengaaGreatDoorHBZ19
import Derived.Test.YtcphkdooemengaaGreatDoorHBZ24
namespace Go.Proofs.YtcphkdooemengaaGreatDoor
set_option linter.unusedVariables false
set_option linter.unusedSimpArgs false
set_option linter.unnecessarySimpa false
open Go.RowKit
attribute [local go_sem] cell_alloc_add cell_set_add lt_more
/-- The lines of the first q nodes. -/
def linesQ (L : List Nd) (D : List Int) (q : Nat) : ByteArray := ⟨((List.range q).flatMap fun i => lineT (D.getD i 0).toNat (nd L (i : Nat))).toArray⟩
theorem linesQ_succ (L : List Nd) (D : List Int) (q : Nat) (s : ByteArray) (h : s.data.toList ++ [10] = lineT (D.getD q 0).toNat (nd L (q : Nat))) : linesQ L D q ++ s ++ ⟨#[10]⟩ = linesQ L D (q + 1) := by
  apply ByteArray.ext
  apply Array.toList_inj.1
  unfold linesQ
  rw [List.range_succ, List.flatMap_append, List.flatMap_singleton, ← h]
  simp
theorem linesQ_all {L : List Nd} (h : (chk L).2 = 0) : linesQ L (depsL L) L.length = treeT L := by
  have hD : depsL L = deepL L := if_pos h
  unfold treeT linesQ
  rw [if_pos h, hD]
  unfold linesT pairsT
  rw [List.flatMap_map]; rfl
theorem linesQ_len {L : List Nd} {D : List Int} {n B : Nat} (hx : ∀ j : Nat, (nd L j).x.size ≤ B) (hD : ∀ j, j < n → 0 ≤ D.getD j 0 ∧ D.getD j 0 ≤ B) (hk : ∀ j : Nat, j < n → 1 ≤ (nd L j).k ∧ (nd L j).k ≤ 87) (hm : ∀ j : Nat, j < n → -9223372036854775808 ≤ (nd L j).m ∧ (nd L j).m ≤ 9223372036854775807) (q : Nat) (hq : q ≤ n) : (linesQ L D q).size ≤ q * (8 * B + 50) := by
  have h1 := linesN_len (n := n) hx hD hk hm (fins n q)
  rw [fins_len q hq] at h1
  have h2 := fins_map (fun i => lineT (D.getD i 0).toNat (nd L (i : Nat))) n q hq
  unfold linesN at h1
  rw [h2] at h1
  unfold linesQ
  show (_ : List UInt8).toArray.size ≤ _
  simpa using h1
theorem spaces_two' : spaces 2 = ⟨#[32, 32]⟩ := rfl
theorem ba_assoc (a b c : ByteArray) : a ++ b ++ c = a ++ (b ++ c) := by
  apply ByteArray.ext; simp
set_option maxRecDepth 100000 in
set_option maxHeartbeats 16000000 in
theorem rTree_any (A : Option Addr) (L : List Nd) (c : Nat) (hc : L.length ≤ c) (hm : c ≤ maxLen) (hL : L.length ≤ 2500) (hx : ∀ j : Nat, (nd L j).x.size ≤ 2500) (w : World) (h : TreeAt w w.heap.size A L) : Calls Tryz.prog 8 #[.agg #[.slice A L.length c]] w fun r w' => r = .returned (.tuple #[.string (treeT L), .int .i64 (chk L).2]) ∧ Below w.heap.size w w' := by
  obtain ⟨wa, hwa⟩ : ∃ wa : World, wa = w.alloc (.cells #[.slice A L.length c] 24) := ⟨_, rfl⟩
  have bA : Below w.heap.size w wa := by rw [hwa]; exact (by (exact bl))
  have zA : w.heap.size < wa.heap.size := by rw [hwa]; simp
  have r0 : Row wa w.heap.size 24 #[.slice A L.length c] := by rw [hwa]; exact row_new rfl
  have HDP := Lib.hid (rDepths_any A L c hc hm (by omega) (fun j => by have := hx j; omega) wa (h.later bA))
  have hTR := Lib.hid h
  have HX := Lib.hid hx
  have HKB0 := Lib.hid (fun h (j : Nat) (hj : j < L.length) => kind_bd (L := L) h hj)
  have HTT0 := Lib.hid (show treeT L = if (chk L).2 = 0 then ⟨(linesT (pairsT L)).toArray⟩ else ⟨#[]⟩ from rfl)
  have HALL0 := Lib.hid (fun h => linesQ_all (L := L) h)
  have HDN := Lib.hid (fun h => (show depsL L = deepL L from if_pos h))
  have HGT := Lib.hid (good_iff (L := L))
  have HOR := Lib.hid (chk_or (L := L))
  have t0 := r0.cell 0
  simp at t0
  rcases hR : chk L with ⟨ra, re⟩
  rw [hR] at HDP HTT0 HKB0 HALL0 HGT HDN HOR
  simp only at HDP HTT0 HKB0 HALL0 HGT HDN ⊢
  clear h hx
  have kn := fun (w : World) (a : Option Addr) (n c n' c' : Nat) => Lib.run_eql_slice_nil (P := Tryz.prog) w 34 3 a n c n' c' Tryz.underlying34
  go_enter Tryz.func8, Tryz.ntmps8
  go_upto_region 1 with fail
  rw [← hwa]
  clear hwa
  by_cases he : re = 0
  · subst he
    have HKB := Lib.hid (fun j hj => HKB0.out rfl j hj)
    clear HKB0
    have HALL := Lib.hid (HALL0.out rfl)
    clear HALL0
    have HD := Lib.hid (HDN.out rfl)
    have HGD := Lib.hid (HGT.out.1 rfl)
    have hpos := HGD.out.1
    have hdl := deepL_len L
    rw [← HD.out] at hdl
    have HDB := Lib.hid (show ∀ j, j < L.length → 0 ≤ (depsL L).getD j 0 ∧ (depsL L).getD j 0 ≤ 2500 from fun j hj => by
      rw [HD.out]
      have e1 := dp_pos HGD.out hj
      have e2 := dp_le HGD.out j j (Nat.le_refl _) hj
      exact ⟨e1, by have : dp L j ≤ 2500 := by omega
                    exact this⟩)
    have HMB := Lib.hid (show ∀ j : Nat, j < L.length → -9223372036854775808 ≤ (nd L j).m ∧ (nd L j).m ≤ 9223372036854775807 from fun j hj => by
      obtain ⟨ad, _, n⟩ := hTR.out j hj
      exact n.wm)
    have HLEN := Lib.hid (fun q hq => linesQ_len (L := L) (D := depsL L) (n := L.length) (B := 2500) HX.out HDB.out HKB.out HMB.out q hq)
    have HSU := Lib.hid (fun q s h => linesQ_succ L (depsL L) q s h)
    clear HDN HGT HD HGD HOR HTT0
    go_upto_region 2 with (first | (go_at_call 21; (with_reducible refine HDP.out.mono ?_); rintro e w1 ⟨⟨vw, rfl, how, hnil⟩, b1⟩) | fail)
    clear hnil
    obtain ⟨Aw, cw, rfl, hcw, hmw⟩ := own_slice how
    have HDW := Lib.hid (rdD_own how)
    have hAw : ∀ ad, Aw = some ad → ad.block < w1.heap.size := fun ad e => own_lt how ad.block (by rw [e]; rfl)
    have HAW := Lib.hid hAw
    have hne : Aw ≠ none := fun e => by
      subst e
      obtain ⟨ad, e, _⟩ := HDW.out 0 (by rw [hdl]; exact hpos)
      cases e
    obtain ⟨aw, rfl⟩ : ∃ aw, Aw = some aw := by
      cases Aw with
      | none => exact absurd rfl hne
      | some aw => exact ⟨aw, rfl⟩
    rw [hdl] at hcw ⊢
    generalize depsL L = D at *
    generalize hNL : L.length = N at *
    have HN := Lib.hid hdl
    have HL := Lib.hid hNL
    have q1 := bA.trans (b1.mono (by omega))
    have r1 := r0.below b1 zA
    have hl1 := r1.lt
    have t1 := r1.cell 0
    simp at t1
    clear hdl hNL how hAw hne r0 t0 bA zA b1 HDP
    go_wp2
    go_loopw [5, 6] (fun v t wr => ∃ (q : Nat) (S : ByteArray), t = .int .i64 (q : Int) ∧ q ≤ N ∧ v = .string S ∧ Hid (S = linesQ L D q) ∧ Row wr w.heap.size 24 #[.slice A N c] ∧ Below w.heap.size w wr ∧ Below w1.heap.size w1 wr) (fun _ t _ => N - (intOf t).toNat)
    case atStart => exact ⟨0, ⟨#[]⟩, rfl, Nat.zero_le _, rfl, Lib.hid rfl, r1, q1, Below.refl _ _⟩
    case round =>
      obtain ⟨q, S, rfl, hq, rfl, HS, rA, hb, hb1⟩ := hrel
      clear r1 q1 t1 hl1
      generalize hwo : wr = wo at *
      clear hwo
      have lA := rA.lt
      have a0 := rA.cell 0
      simp at a0
      have hz := Below.size hb
      have hSz : S.size ≤ 50125000 := by
        have := HLEN.out q (by omega)
        rw [← HS.out] at this
        have : q * (8 * 2500 + 50) ≤ 2500 * (8 * 2500 + 50) := Nat.mul_le_mul_right _ (by omega)
        omega
      by_cases hlt : q < N
      · have hqL : q < L.length := by rw [HL.out]; exact hlt
        have hdb := HDB.out q hlt
        obtain ⟨ad', e', hdc⟩ := HDW.out q (by rw [HN.out]; exact hlt)
        injection e' with e'
        subst e'
        have hawl := HAW.out aw rfl
        have hdc' : wo.cell? (aw.add q) = some (.int .i64 (D.getD q 0)) := (hb1.cell (by rw [block_add]; exact hawl)).trans hdc
        have hawo : aw.block < wo.heap.size := by have := hb1.size; omega
        have HSUq := Lib.hid (fun s h => HSU.out q s h)
        obtain ⟨d, hd⟩ : ∃ d : Nat, D.getD q 0 = (d : Int) := ⟨(D.getD q 0).toNat, by omega⟩
        rw [hd] at hdc' hdb HSUq
        rw [Int.toNat_natCast] at HSUq
        rw [← HS.out] at HSUq
        have hd25 : d ≤ 2500 := by omega
        have hqi : (q : Int) < (N : Int) := by omega
        clear hdc hdb hd
        go_wp2
        go_loopw [5, 7] (fun v t wi => ∃ (j : Nat) (Sj : ByteArray), t = .int .i64 (j : Int) ∧ j ≤ d ∧ v = .string Sj ∧ Hid (Sj = S ++ spaces (2 * j)) ∧ wi = wo) (fun _ t _ => d - (intOf t).toNat)
        case atStart => exact ⟨0, S, rfl, Nat.zero_le _, rfl, Lib.hid (by apply ByteArray.ext; simp [spaces]), rfl⟩
        case round =>
          obtain ⟨j, Sj, rfl, hj, rfl, HSj, hwi⟩ := hrel
          subst hwi
          have hSjz : Sj.size ≤ 50130000 := by
            rw [HSj.out, ByteArray.size_append, spaces_size]; omega
          by_cases hjd : j < d
          · have hji : (j : Int) < (d : Int) := by omega
            have f1 : (9223372036854775807 < Sj.size + 2) = False := eq_false (by omega)
            go_wp2
            refine ⟨⟨j + 1, _, by go_num, by omega, rfl, Lib.hid ?_, by first | rfl | trivial⟩, by simp [intOf]; omega⟩
            rw [HSj.out, ba_assoc, ← spaces_two', spaces_app, show 2 * j + 2 = 2 * (j + 1) by omega]
          · obtain rfl : j = d := by omega
            have hji : ¬ (j : Int) < (j : Int) := by omega
            obtain ⟨ad, rfl, hn⟩ := hTR.out q hqL
            have hn' := hn.keep (W' := wr) (fun p hp => hb.cell hp)
            have hbq : (ad.add (q * 5)).block < wr.heap.size := Nat.lt_of_lt_of_le hn.blk hz
            have hba : ad.block < wr.heap.size := by rw [block_add] at hbq; exact hbq
            obtain ⟨K, kc, c0, c1, c2, c3, c4, -, hkk, hkm⟩ := node_open hn'
            have hkb := HKB.out q hlt
            have hxq := HX.out q
            have hmb := hn.wm
            clear hn hn'
            generalize nd L (q : Nat) = y at *
            obtain ⟨yk, yx, ym, yks, yp⟩ := y
            simp only at c0 c1 c2 c3 c4 hkb hxq hmb
            have HDK := Lib.hid (fun W => Digits_any yk (by omega) (by omega) W)
            have HDM := Lib.hid (fun W => Digits_any ym hmb.1 hmb.2 W)
            have HQ := Lib.hid (fun W => rQuote_any yx (by omega) W)
            have z1 := digits_le (n := yk) (by omega) (by omega)
            have z2 := digits_le (n := ym) hmb.1 hmb.2
            have z3 := quote_le yx
            have L00 := Lib.hid (fun h1 h2 => line_00 (d := j) (k := yk) (m := ym) (x := yx) (ks := yks) (p := yp) h1 h2)
            have L10 := Lib.hid (fun h1 h2 => line_10 (d := j) (k := yk) (m := ym) (x := yx) (ks := yks) (p := yp) h1 h2)
            have L01 := Lib.hid (fun h1 h2 => line_01 (d := j) (k := yk) (m := ym) (x := yx) (ks := yks) (p := yp) h1 h2)
            have L11 := Lib.hid (fun h1 h2 => line_11 (d := j) (k := yk) (m := ym) (x := yx) (ks := yks) (p := yp) h1 h2)
            generalize digits yk = dk at *
            generalize digits ym = dm at *
            generalize quoteB yx = qx at *
            generalize yks.length = M at *
            obtain ⟨wb, hwb⟩ : ∃ wb : World, wb = wr.alloc (.cells #[.int .i64 yk, .string yx, .int .i64 ym, .slice K M kc, .int .i64 yp] 36) := ⟨_, rfl⟩
            go_upto_region 13 with fail
            rw [← hwb]
            have bB : Below wr.heap.size wr wb := by rw [hwb]; exact (Below.refl _ _).alloc (Nat.le_refl _) _
            obtain ⟨gY, hgY⟩ : ∃ gY, gY = wr.heap.size := ⟨_, rfl⟩
            have rY : Row wb gY 36 #[.int .i64 yk, .string yx, .int .i64 ym, .slice K M kc, .int .i64 yp] := by rw [hwb]; exact row_new hgY
            rw [← hgY]
            have lY := rY.lt
            have y0 := rY.cell 0
            simp at y0
            clear hwb hgY c0 c1 c2 c3 c4
            have f1 : (9223372036854775807 < Sj.size + dk.size) = False := eq_false (by omega)
            by_cases hx0 : yx = ⟨#[]⟩
            · subst hx0
              have hs0 : (⟨#[]⟩ : ByteArray).size = 0 := rfl
              by_cases hm0 : ym = 0
              · subst hm0
                have f2 : (9223372036854775807 < Sj.size + dk.size + 1) = False := eq_false (by omega)
                have HLN := Lib.hid (L00.out hs0 rfl)
                clear L00 L10 L01 L11 HQ HDM hs0
                go_wp2_with (first | (go_at_call 22; (with_reducible refine (HDK.out _).mono ?_); rintro e w2 ⟨rfl, b2⟩; have qy2 := (Below.refl wb.heap.size wb).trans b2; have ry2 := rY.below b2 lY; have y21 := ry2.cell 1; have y22 := ry2.cell 2; have ly2 := ry2.lt; simp at y21 y22) | fail)
                refine ⟨⟨q + 1, _, by go_num, by omega, rfl, Lib.hid ?_, rA.below (bB.trans (qy2.mono bB.size)) lA, hb.trans ((bB.trans (qy2.mono bB.size)).mono hz), hb1.trans ((bB.trans (qy2.mono bB.size)).mono (by have := hb1.size; omega))⟩, by simp [intOf]; omega⟩
                rw [HSj.out]
                refine Eq.trans ?_ (HSUq.out _ (HLN.out))
                simp only [ba_assoc]
              · have hm1 : (ym != 0) = true := by simpa using hm0
                have f2 : (9223372036854775807 < Sj.size + dk.size + 1) = False := eq_false (by omega)
                have f3 : (9223372036854775807 < Sj.size + dk.size + 1 + dm.size) = False := eq_false (by omega)
                have f4 : (9223372036854775807 < Sj.size + dk.size + 1 + dm.size + 1) = False := eq_false (by omega)
                have HLN := Lib.hid (L01.out hs0 hm0)
                clear L00 L10 L01 L11 HQ hs0
                go_wp2_with (first | (go_at_call 22; (with_reducible refine (HDK.out _).mono ?_); rintro e w2 ⟨rfl, b2⟩; have qy2 := (Below.refl wb.heap.size wb).trans b2; have ry2 := rY.below b2 lY; have y21 := ry2.cell 1; have y22 := ry2.cell 2; have ly2 := ry2.lt; simp at y21 y22) | (go_at_call 22; (with_reducible refine (HDM.out _).mono ?_); rintro e w4 ⟨rfl, b4⟩; have qy4 := qy2.trans (b4.mono qy2.size)) | fail)
                refine ⟨⟨q + 1, _, by go_num, by omega, rfl, Lib.hid ?_, rA.below (bB.trans (qy4.mono bB.size)) lA, hb.trans ((bB.trans (qy4.mono bB.size)).mono hz), hb1.trans ((bB.trans (qy4.mono bB.size)).mono (by have := hb1.size; omega))⟩, by simp [intOf]; omega⟩
                rw [HSj.out]
                refine Eq.trans ?_ (HSUq.out _ (HLN.out))
                simp only [ba_assoc]
            · have hs0 : yx.size ≠ 0 := fun h => hx0 (size_zero h)
              have hxt := text_full hs0
              have f2 : (9223372036854775807 < Sj.size + dk.size + 1) = False := eq_false (by omega)
              have f3 : (9223372036854775807 < Sj.size + dk.size + 1 + qx.size) = False := eq_false (by omega)
              have f4 : (9223372036854775807 < Sj.size + dk.size + 1 + qx.size + 1) = False := eq_false (by omega)
              by_cases hm0 : ym = 0
              · subst hm0
                have HLN := Lib.hid (L10.out hs0 rfl)
                clear L00 L10 L01 L11 HDM hs0
                go_wp2_with (first | (go_at_call 22; (with_reducible refine (HDK.out _).mono ?_); rintro e w2 ⟨rfl, b2⟩; have qy2 := (Below.refl wb.heap.size wb).trans b2; have ry2 := rY.below b2 lY; have y21 := ry2.cell 1; have y22 := ry2.cell 2; have ly2 := ry2.lt; simp at y21 y22) | (go_at_call 23; (with_reducible refine (HQ.out _).mono ?_); rintro e w3 ⟨rfl, b3⟩; have qy3 := qy2.trans (b3.mono qy2.size); have ry3 := ry2.below b3 ly2; have y32 := ry3.cell 2; have ly3 := ry3.lt; simp at y32) | fail)
                refine ⟨⟨q + 1, _, by go_num, by omega, rfl, Lib.hid ?_, rA.below (bB.trans (qy3.mono bB.size)) lA, hb.trans ((bB.trans (qy3.mono bB.size)).mono hz), hb1.trans ((bB.trans (qy3.mono bB.size)).mono (by have := hb1.size; omega))⟩, by simp [intOf]; omega⟩
                rw [HSj.out]
                refine Eq.trans ?_ (HSUq.out _ (HLN.out))
                simp only [ba_assoc]
              · have hm1 : (ym != 0) = true := by simpa using hm0
                have f5 : (9223372036854775807 < Sj.size + dk.size + 1 + qx.size + 1 + dm.size) = False := eq_false (by omega)
                have f6 : (9223372036854775807 < Sj.size + dk.size + 1 + qx.size + 1 + dm.size + 1) = False := eq_false (by omega)
                have HLN := Lib.hid (L11.out hs0 hm0)
                clear L00 L10 L01 L11 hs0
                go_wp2_with (first | (go_at_call 22; (with_reducible refine (HDK.out _).mono ?_); rintro e w2 ⟨rfl, b2⟩; have qy2 := (Below.refl wb.heap.size wb).trans b2; have ry2 := rY.below b2 lY; have y21 := ry2.cell 1; have y22 := ry2.cell 2; have ly2 := ry2.lt; simp at y21 y22) | (go_at_call 23; (with_reducible refine (HQ.out _).mono ?_); rintro e w3 ⟨rfl, b3⟩; have qy3 := qy2.trans (b3.mono qy2.size); have ry3 := ry2.below b3 ly2; have y32 := ry3.cell 2; have ly3 := ry3.lt; simp at y32) | (go_at_call 22; (with_reducible refine (HDM.out _).mono ?_); rintro e w4 ⟨rfl, b4⟩; have qy4 := qy3.trans (b4.mono qy3.size)) | fail)
                refine ⟨⟨q + 1, _, by go_num, by omega, rfl, Lib.hid ?_, rA.below (bB.trans (qy4.mono bB.size)) lA, hb.trans ((bB.trans (qy4.mono bB.size)).mono hz), hb1.trans ((bB.trans (qy4.mono bB.size)).mono (by have := hb1.size; omega))⟩, by simp [intOf]; omega⟩
                rw [HSj.out]
                refine Eq.trans ?_ (HSUq.out _ (HLN.out))
                simp only [ba_assoc]
      · obtain rfl : q = N := by omega
        have hqi : ¬ (q : Int) < (q : Int) := by omega
        go_wp2
        go_ret2
        exact ⟨by rw [← HALL.out, ← HS.out]; rfl, hb⟩
  · have h7 : re = 7 := by
      rcases HOR.out with e | ⟨e, _⟩
      · injection e with _ e; exact absurd e he
      · exact e
    have hTT := HTT0.out
    rw [if_neg he] at hTT
    have HTT := Lib.hid hTT
    clear hTT HTT0
    go_upto_region 2 with (first | (go_at_call 21; (with_reducible refine HDP.out.mono ?_); rintro e w1 ⟨⟨vw, rfl, how, hnil⟩, b1⟩) | fail)
    obtain rfl := hnil he
    subst h7
    go_wp2
    go_ret2
    exact ⟨by rw [HTT.out]; rfl, bA.trans (b1.mono (by omega))⟩
end Go.Proofs.YtcphkdooemengaaGreatDoor
