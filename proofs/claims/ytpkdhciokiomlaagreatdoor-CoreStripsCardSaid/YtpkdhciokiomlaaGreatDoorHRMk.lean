/- The walk of the reference's Make. -/
import Derived.Test.YtpkdhciokiomlaaGreatDoorHBZ17
import Derived.Test.YtpkdhciokiomlaaGreatDoorHBZ18
namespace Go.Proofs.YtpkdhciokiomlaaGreatDoor
set_option linter.unusedVariables false
set_option linter.unusedSimpArgs false
set_option linter.unnecessarySimpa false
open Go.RowKit
attribute [local go_sem] cell_alloc_add cell_set_add lt_more
theorem shN_next {Lq : List Nd} {z : Int} {j : Nat} (h : j < Lq.length) : (Lq.take (j + 1)).map (shN z) = (Lq.take j).map (shN z) ++ [shN z (nd Lq (j : Nat))] := by
  rw [List.take_succ_eq_append_getElem h, List.map_append]
  have := nd_get h
  rw [List.getElem?_eq_getElem h] at this
  rw [Option.some.inj this]; rfl
set_option maxRecDepth 100000 in
set_option maxHeartbeats 16000000 in
theorem rMake_any (y : Nd) (S0 : Option Addr) (n0 c0 : Nat) (Ls : List (List Nd)) (N : Nat) (hN : Ls.length = N) (K : Option Addr) (c : Nat) (hc : N ≤ c) (hm : c ≤ maxLen) (hsum : sumL Ls ≤ 1000000) (hNN : N ≤ 1000000) (hks : ∀ q, q < N → ∀ j : Nat, (nd (Ls.getD q []) j).ks.length ≤ 1000000000000) (hym : -9223372036854775808 ≤ y.m ∧ y.m ≤ 9223372036854775807) (w : World) (h : Forest w w.heap.size K Ls) :
    Calls Tryz.prog 29 #[.agg #[.int .i64 y.k, .string y.x, .int .i64 y.m, .slice S0 n0 c0, .int .i64 y.p], .slice K N c] w fun e w' => (∃ v l, e = .returned (.agg #[v]) ∧ OwnT w' w.heap.size v l ∧ l.map (·.1) = mkL y Ls) ∧ Below w.heap.size w w' := by
  have hF := Lib.hid h
  have HN := Lib.hid hN
  have HK := Lib.hid hks
  have HS := Lib.hid hsum
  have HW := Lib.hid hym
  clear h hN hks hsum hym
  obtain ⟨i0, hi0, iz0, iz1, iz2⟩ := info_parts infoNode
  obtain ⟨j0, hj0, jz0, jz1, jz2⟩ := info_parts infoInt
  unfold maxLen at hm
  obtain ⟨k, x, m, ks0, p⟩ := y
  simp only at HW ⊢
  have HR := Lib.hid (show mkL ⟨k, x, m, ks0, p⟩ Ls = ⟨k, x, m, (mkA [] [] Ls).1, p⟩ :: (mkA [] [] Ls).2 from rfl)
  have HA := Lib.hid (show mkA [] [] (Ls.drop 0) = mkA [] [] Ls from rfl)
  generalize mkL ⟨k, x, m, ks0, p⟩ Ls = RL at *
  generalize mkA [] [] Ls = RA at *
  go_enter Tryz.func29, Tryz.ntmps29
  go_upto_region 3 with fail
  obtain ⟨wa, hwa⟩ : ∃ wa : World, wa = ((w.alloc (.cells #[.int .i64 k, .string x, .int .i64 m, .slice none 0 0, .int .i64 p] 37)).alloc (.cells #[.slice none 0 0] 24)).alloc (.cells #[.int .i64 k, .string x, .int .i64 m, .slice none 0 0, .int .i64 p] 37) := ⟨_, rfl⟩
  rw [← hwa]
  have rR : Row wa (w.heap.size + 1) 24 #[.slice none 0 0] := by rw [hwa]; exact (row_new (by simp)).alloc _
  have oT : OwnT wa (w.heap.size + 1 + 1) (.slice (some ⟨w.heap.size + 1 + 1, 0, none⟩) 1 1) [(⟨k, x, m, [], p⟩, .slice none 0 0)] := by
    rw [hwa]
    refine ⟨?_, Kids.one (World.ownsRow_nil _ _ _ _) ⟨HW.out, fun k hk => by cases hk⟩⟩
    have e := World.ownsRow_lit (base := w.heap.size + 1 + 1) (e := 37) (size := 5) ((w.alloc (.cells #[.int .i64 k, .string x, .int .i64 m, .slice none 0 0, .int .i64 p] 37)).alloc (.cells #[.slice none 0 0] 24)) #[.int .i64 k, .string x, .int .i64 m, .slice none 0 0, .int .i64 p] 1 (by simp) (by decide) rfl
    simpa [ndsC, ndC] using e
  have bA : Below w.heap.size w wa := by rw [hwa]; exact (by (exact bl))
  clear hwa
  go_wp2
  go_loopw [5, 6] (fun v t wr => ∃ (q : Nat) (ks : List Int) (acc : List Nd) (S : Value) (l : List NdV), t = .int .i64 (q : Int) ∧ q ≤ N ∧ Hid (mkA ks acc (Ls.drop q) = RA) ∧ Hid (l.map (·.1) = acc) ∧ Hid (l.length + 1 + sumL (Ls.drop q) ≤ 1000001 ∧ ks.length ≤ l.length ∧ ∀ k ∈ ks, 0 ≤ k ∧ k ≤ 1000001) ∧ Row wr (w.heap.size + 1) 24 #[.slice none 0 0] ∧ OwnT wr (w.heap.size + 1 + 1) v ((⟨k, x, m, ks, p⟩, S) :: l) ∧ Below w.heap.size w wr) (fun _ t _ => N - (intOf t).toNat)
  case atStart => exact ⟨0, [], [], _, [], rfl, Nat.zero_le _, HA, Lib.hid rfl, Lib.hid ⟨by have := HS.out; simp; omega, by simp, fun k hk => by cases hk⟩, rR, oT, bA⟩
  case round =>
    obtain ⟨q, ks, acc, S, l, rfl, hq, HM, HL, HB, hR, hO, hb⟩ := hrel
    clear rR oT bA
    generalize hwo : wr = wo at *
    clear hwo
    have hz := Below.size hb
    have hrl := hR.lt
    obtain ⟨An, cn, rfl, hcn, hcm⟩ := own_slice hO.row
    obtain ⟨gn, rfl, hgn1, hgn2⟩ := own_form5 hO.row (by simp)
    simp only [List.length_cons] at hcn hO
    by_cases hlt : q < N
    · have hqL : q < Ls.length := by rw [HN.out]; exact hlt
      obtain ⟨ad, A, c1, rfl, hab, hcell, hl1, hl2, hTr⟩ := hF.out q hqL
      have HCW := Lib.hid (fun W (hb2 : Below w.heap.size w W) => (hb2.cell (by rw [block_add]; exact hab)).trans hcell)
      have hcw := HCW.out wo hb
      have hado : ad.block < wo.heap.size := by omega
      have HTr := Lib.hid hTr
      have HD := Lib.hid (drop_L [] hqL)
      have HKq := Lib.hid (HK.out q hlt)
      have hB0 := HB.out
      rw [HD.out, sumL_cons] at hB0
      have HB2 := Lib.hid hB0
      clear hcell hTr hB0 HB
      unfold maxLen at hl2
      generalize hLq : Ls.getD q [] = Lq at *
      clear hLq
      generalize hlq : Lq.length = nq at *
      have HLQ := Lib.hid hlq
      clear hlq
      have hqN : (q : Int) < (N : Int) := by omega
      by_cases hn0 : nq = 0
      · have hn1 : ((nq : Int) == 0) = true := beq_iff_eq.2 (by omega)
        go_wp2
        have hM := HM.out
        rw [HD.out, mkA_skip (by rw [HLQ.out]; exact hn0)] at hM
        exact ⟨⟨q + 1, ks, acc, S, l, by go_num, by omega, Lib.hid hM, HL, Lib.hid ⟨by have := HB2.out; omega, HB2.out.2⟩, hR, hO, hb⟩, by simp [intOf]; omega⟩
      · have hn1 : ((nq : Int) == 0) = false := beq_eq_false_iff_ne.2 (by omega)
        have hll := HB2.out
        obtain ⟨hll1, hll2, hll3⟩ := hll
        have hSo : wo.ownsRow (w.heap.size + 1 + 1) 3 1 S ks.length (intsC ks) := hO.kids.row (⟨k, x, m, ks, p⟩, S) (by simp)
        obtain ⟨AS, cS, rfl, hcS, hmS⟩ := own_slice hSo
        have n3 := (hO.row.cellAt 3 (by omega)).trans (ndsC_3 _ _)
        simp only at n3
        have hge2 := Lib.hid (own_ge hSo)
        have HSO := Lib.hid hSo
        have HOT := Lib.hid hO
        have fne := Lib.hid (own_two (hO.row) (hO.kids.row (⟨k, x, m, ks, p⟩, .slice AS ks.length cS) (by simp)) ne_ND)
        have rne := Lib.hid (row_ne hR hSo (by decide))
        have gq1 : w.heap.size + 1 ≠ gn := fun e => row_ne hR hO.row (by decide) (by rw [← e]; rfl)
        have h0l : (0 : Int) < ((l.length + 1 : Nat) : Int) := by omega
        clear hSo hO
        go_upto_region 9 with (first
          | (at_builtin; refine wpList_append_rd _ rfl (.tmp 34) (.tmp 36) 35 rfl (w.heap.size + 1 + 1) 3 j0 _ 8 Tryz.underlying35 hj0 jz0 jz1 jz2 rfl (.slice AS ks.length cS) ks.length (intsC ks) rfl (HSO.out.alloc _) _ _ 1 1 _ rfl (rd_one wo 3 (.int .i64 ((l.length : Int) + 1))) (fun _ => rfl) (by unfold maxLen; omega) (by omega) (by simp; omega) ?_; intro S8 w8 hS8 hg8 hob8; obtain ⟨A8, cS8, rfl, hcS8, hmS8⟩ := own_slice hS8; have hX8 := own_grown (e := 37) (v := .slice (some ⟨gn, 0, none⟩) (l.length + 1) cn) (by exact HOT.out.row.alloc _) hg8 (fun g e e2 => fne.out g e2 e); have c8 := (hX8.cellAt 3 (by omega)).trans (ndsC_3 _ _); have f8 := hX8.frozenAt 3)
          | fail)
        obtain ⟨w9, hw9⟩ : ∃ w9 : World, w9 = w8.setCell ⟨gn, 3, none⟩ (.slice A8 (ks.length + 1) cS8) := ⟨_, rfl⟩
        rw [← hw9]
        have oT9 : OwnT w9 (w.heap.size + 1 + 1) (.slice (some ⟨gn, 0, none⟩) (l.length + 1) cn) ((⟨k, x, m, ks ++ [((l.length + 1 : Nat) : Int)], p⟩, .slice A8 (ks.length + 1) cS8) :: l) := by
          rw [hw9, show ((l.length + 1 : Nat) : Int) = (l.length : Int) + 1 from by omega]
          exact OwnT.head (n := l.length + 1) (by exact HOT.out.below ((Below.refl _ _).alloc (Nat.le_refl _) (.cells #[.int .i64 ((l.length : Int) + 1)] 3))) rfl (by rw [List.length_append]; show World.ownsRow _ _ _ _ _ _ (intsC (ks ++ [((l.length : Int) + 1)])); rw [intsC, List.map_append]; exact hS8) hg8 hob8 (fun k hk => by
            rcases List.mem_append.1 hk with hk | hk
            · have := hll3 k hk; omega
            · simp at hk; subst hk; omega)
        have rR9 : Row w9 (w.heap.size + 1) 24 #[.slice none 0 0] := by rw [hw9]; exact (row_grown (by exact hR.alloc _) hg8 rne.out).far gq1 _
        have b9 : Below w.heap.size w w9 := by
          rw [hw9]
          exact (Below.grown (by exact hb.alloc hz _) hg8 (by simp; omega) (fun j hj => by have := hge2.out j hj; omega)).setCell (by show w.heap.size ≤ gn; omega) _
        have HO9 := Lib.hid oT9
        have HLE := Lib.hid HB2.out
        have eacc : Hid (acc.length = l.length) := Lib.hid (by rw [← HL.out, List.length_map])
        have HBZ := Lib.hid (show (l.length : Int) + 1 = ((l.length + 1 : Nat) : Int) from by omega)
        have hlen0 : l.length + nq ≤ 1000000 := by omega
        clear hw9 oT9 hX8 c8 f8 hS8 hg8 hob8 HSO HOT fne rne gq1 hge2 n3 hR hb hz hcw hado hrl hn1 h0l hgn1 hgn2 hcn hcm hcS hmS hll1 hll2 hll3 hcS8 hmS8 HB2
        generalize hbz : (l.length : Int) + 1 = bz at *
        have HBB := Lib.hid hbz
        clear hbz
        go_wp2
        go_loopw [5, 8] (fun v t wi => ∃ (j : Nat) (l2 : List NdV), t = .int .i64 (j : Int) ∧ j ≤ nq ∧ Hid (OwnT wi (w.heap.size + 1 + 1) v ((⟨k, x, m, ks ++ [((l.length + 1 : Nat) : Int)], p⟩, .slice A8 (ks.length + 1) cS8) :: (l ++ l2))) ∧ Hid (l2.map (·.1) = (Lq.take j).map (shN bz)) ∧ Row wi (w.heap.size + 1) 24 #[.slice none 0 0] ∧ Below w.heap.size w wi) (fun _ t _ => nq - (intOf t).toNat)
        case atStart => exact ⟨0, [], rfl, Nat.zero_le _, Lib.hid (by rw [List.append_nil]; exact HO9.out), Lib.hid (by simp), rR9, b9⟩
        case round =>
          obtain ⟨j, l2, rfl, hj, HO, HM2, rR, hb⟩ := hrel
          clear rR9 b9 HO9
          generalize hwo : wr = wo at *
          clear hwo
          have hz := Below.size hb
          have lR := rR.lt
          have hll2 : Hid (l2.length = j) := Lib.hid (by
            have := congrArg List.length HM2.out
            rw [List.length_map, List.length_map, List.length_take, HLQ.out] at this
            omega)
          obtain ⟨Av, cv, hv, hcv, hmv⟩ := own_slice HO.out.row
          simp only [List.length_cons, List.length_append, hll2.out] at hv hcv
          subst hv
          have hcw := HCW.out wo hb
          have hado : ad.block < wo.heap.size := by omega
          by_cases hjl : j < nq
          · have hjL : j < Lq.length := by rw [HLQ.out]; exact hjl
            obtain ⟨ad2, rfl, hn⟩ := HTr.out j hjL
            have hn' := hn.keep (W' := wo) (fun p hp => hb.cell hp)
            have hbq : (ad2.add (j * 5)).block < wo.heap.size := Nat.lt_of_lt_of_le hn.blk hz
            have hba : ad2.block < wo.heap.size := by rw [block_add] at hbq; exact hbq
            obtain ⟨KN, kc, c0, c1', c2, c3, c4, hK, hkk, hkm⟩ := node_open hn'
            have HWN := Lib.hid hn.wm
            have HKN := Lib.hid (hK.more hz)
            have hk0 := HKq.out j
            have HCN := Lib.hid (shN_next (z := bz) hjL)
            have hji : (j : Int) < (nq : Int) := by omega
            clear hn hn' hK
            generalize nd Lq (j : Nat) = y at *
            obtain ⟨yk, yx, ym, yks, yp⟩ := y
            simp only at c0 c1' c2 c3 c4 hkk HKN hk0 HWN
            generalize hMM : yks.length = M at *
            have HMM := Lib.hid hMM
            clear hMM
            unfold maxLen at hkm hmv
            obtain ⟨wb, hwb⟩ : ∃ wb : World, wb = wo.alloc (.cells #[.int .i64 yk, .string yx, .int .i64 ym, .slice KN M kc, .int .i64 yp] 37) := ⟨_, rfl⟩
            go_upto_region 13 with fail
            rw [← hwb]
            have bB : Below wo.heap.size wo wb := by rw [hwb]; exact (Below.refl _ _).alloc (Nat.le_refl _) _
            have rY : Row wb wo.heap.size 37 #[.int .i64 yk, .string yx, .int .i64 ym, .slice KN M kc, .int .i64 yp] := by rw [hwb]; exact row_new rfl
            have zb : wo.heap.size + 1 ≤ wb.heap.size := by rw [hwb]; simp
            clear hwb c0 c1' c2 c3 c4 hcw
            go_wp2
            go_loopw [10, 11] (fun v t wi => ∃ i : Nat, t = .int .i64 (i : Int) ∧ i ≤ M ∧ Hid (wi.ownsRow (wo.heap.size + 1) 3 1 v i (intsC ((yks.take i).map fun k => IntKind.i64.wrap (k + bz)))) ∧ Below (wo.heap.size + 1) wb wi) (fun _ t _ => M - (intOf t).toNat)
            case atStart => exact ⟨0, rfl, Nat.zero_le _, Lib.hid (World.ownsRow_nil _ _ _ _), Below.refl _ _⟩
            case round =>
              obtain ⟨i, rfl, hi, HV, bi⟩ := hrel
              generalize hwi : wr = wi at *
              clear hwi
              have zi := Below.size bi
              have rYi := rY.below bi (by omega)
              have lYi := rYi.lt
              have y3 := rYi.cell 3
              simp at y3
              obtain ⟨A9, c9, hv9, hc9, hm9⟩ := own_slice HV.out
              subst hv9
              by_cases hil : i < M
              · obtain ⟨kd, hKd, hkb, kcell⟩ := HKN.out i hil
                subst hKd
                replace kcell : wi.cell? (kd.add i) = some (.int .i64 (yks.getD i 0)) := (bi.cell (by rw [block_add]; omega)).trans ((bB.cell (by rw [block_add]; exact hkb)).trans kcell)
                have hkbi : kd.block < wi.heap.size := by omega
                have HTN := Lib.hid (show (yks.take (i + 1)).map (fun k => IntKind.i64.wrap (k + bz)) = (yks.take i).map (fun k => IntKind.i64.wrap (k + bz)) ++ [IntKind.i64.wrap (yks.getD i 0 + bz)] from by
                  have hjy : i < yks.length := by rw [HMM.out]; exact hil
                  rw [List.take_succ_eq_append_getElem hjy, List.map_append]
                  simp [List.getD, hjy])
                generalize yks.getD i 0 = u at *
                have hiM : (i : Int) < (M : Int) := by omega
                go_wp2_with (first
                  | (at_builtin; refine wpList_append_rd _ rfl (.tmp 65) (.tmp 73) 35 rfl (wo.heap.size + 1) 3 j0 _ 8 Tryz.underlying35 hj0 jz0 jz1 jz2 rfl (.slice A9 i c9) i _ rfl (HV.out.alloc _) _ _ 1 1 _ rfl (rd_one wi 3 _) (fun _ => rfl) (by unfold maxLen; omega) (by omega) (by simp; omega) ?_; intro v3 w3 own3 hg3 hob3)
                  | fail)
                refine ⟨⟨i + 1, by go_num, by omega, Lib.hid ?_, Below.grown (bi.alloc (by omega) _) hg3 (by simp; omega) (fun k hk => own_ge HV.out k hk)⟩, by simp [intOf]; omega⟩
                rw [HTN.out]
                have e1 : IntKind.i64.wrap (u + bz) = wrap64 (u + bz) := by rw [IntWalk.i64_left]
                rw [e1, intsC, List.map_append]
                exact own3
              · obtain rfl : i = M := by omega
                have HV2 := Lib.hid (show wi.ownsRow (wo.heap.size + 1) 3 1 (.slice A9 i c9) i (intsC (yks.map fun k => IntKind.i64.wrap (k + bz))) from by
                  have := HV.out
                  rw [List.take_of_length_le (by rw [HMM.out]; exact Nat.le_refl _)] at this
                  exact this)
                have y0 := rYi.cell 0
                have y1 := rYi.cell 1
                have y2 := rYi.cell 2
                have y4 := rYi.cell 4
                have yf := rYi.free 3
                simp at y0 y1 y2 y4
                have bw := bB.trans (bi.mono (by omega))
                obtain ⟨ws, hws⟩ : ∃ ws : World, ws = wi.setCell ⟨wo.heap.size, 3, none⟩ (.slice A9 i c9) := ⟨_, rfl⟩
                have rYs : Row ws wo.heap.size 37 #[.int .i64 yk, .string yx, .int .i64 ym, .slice A9 i c9, .int .i64 yp] := by rw [hws]; exact rYi.put 3 _
                have hVs : ws.ownsRow (wo.heap.size + 1) 3 1 (.slice A9 i c9) i (intsC (yks.map fun k => IntKind.i64.wrap (k + bz))) := by rw [hws]; exact ownsRow_setCell_below HV2.out (by show wo.heap.size < wo.heap.size + 1; omega) _
                have bs : Below wo.heap.size wo ws := by rw [hws]; exact bw.setCell (by show wo.heap.size ≤ wo.heap.size; omega) _
                have hOs := HO.out.below bs
                have rRs := rR.below bs lR
                have hzs : ws.heap.size = wi.heap.size := by rw [hws]; simp
                have zs : wo.heap.size + 1 ≤ ws.heap.size := by omega
                clear hzs
                go_upto_region 19 with fail
                rw [← hws]
                clear hws
                have u0 := rYs.cell 0
                have u1 := rYs.cell 1
                have u2 := rYs.cell 2
                have u3 := rYs.cell 3
                have u4 := rYs.cell 4
                have hrow := hOs.row
                simp only [List.length_cons, List.length_append, hll2.out] at hrow
                simp at u0 u1 u2 u3 u4
                have HRW := Lib.hid hrow
                have HOS := Lib.hid hOs
                have HVS := Lib.hid hVs
                have HAP := Lib.hid (fun (p : NdV) (hp : p ∈ _) g e1 => HO.out.kids.lt p hp g e1)
                clear hrow hOs hVs y0 y1 y2 y3 y4 yf
                go_wp2_with (first
                  | (at_builtin; refine wpList_append_own _ rfl _ _ 22 rfl (w.heap.size + 1 + 1) 37 i0 _ 5 64 Tryz.underlying22 hi0 iz0 iz1 iz2 rfl (by decide) _ _ _ rfl (HRW.out.alloc _) ⟨ws.heap.size, 0, none⟩ 1 1 (ndC (⟨yk, yx, ym, yks.map fun k => IntKind.i64.wrap (k + bz), yp⟩, .slice A9 i c9)) rfl rfl (row5_lies (row_new rfl)) (ndC_one _ rfl) (by unfold maxLen; omega) (by omega) (by simp; omega) ?_; intro v3 w3 own3 hg3 _; obtain ⟨A3, c3', rfl, _, _⟩ := own_slice own3)
                  | fail)
                have hOn := OwnT.snoc (p := (⟨yk, yx, ym, yks.map fun k => IntKind.i64.wrap (k + bz), yp⟩, .slice A9 i c9)) (HOS.out.below ((Below.refl _ ws).alloc (Nat.le_refl _) _)) (by simp only [List.length_cons, List.length_append, hll2.out]; exact own3) hg3 (by
                    have h5 := own_mono (HVS.out.alloc (.cells #[.int .i64 yk, .string yx, .int .i64 ym, .slice A9 i c9, .int .i64 yp] 37)) (B := w.heap.size + 1 + 1) (by omega)
                    have e : (yks.map fun k => IntKind.i64.wrap (k + bz)).length = i := by rw [List.length_map]; exact HMM.out
                    show World.ownsRow _ _ _ _ _ (yks.map fun k => IntKind.i64.wrap (k + bz)).length _
                    rw [e]; exact h5) (shN_wide bz (y := ⟨yk, yx, ym, yks, yp⟩) HWN.out) (fun r hr g e1 e2 => by
                    have := HAP.out r hr g e1
                    have := own_ge HVS.out g e2
                    omega)
                refine ⟨⟨j + 1, l2 ++ [(⟨yk, yx, ym, yks.map fun k => IntKind.i64.wrap (k + bz), yp⟩, .slice A9 i c9)], by go_num, by omega, Lib.hid (by rw [← List.append_assoc]; exact hOn), Lib.hid ?_, row_grown (rRs.alloc _) hg3 (row_ne rRs HRW.out (by decide)), ((hb.trans (bs.mono hz)).alloc (by omega) _).grown hg3 (by simp; omega) (fun k hk => by have := own_ge HRW.out k hk; omega)⟩, by simp [intOf]; omega⟩
                rw [HCN.out, List.map_append, HM2.out]; rfl
          · obtain rfl : j = nq := by omega
            have hM := HM.out
            rw [HD.out, mkA_step (by rw [HLQ.out]; exact hn0), eacc.out] at hM
            have HMF := Lib.hid hM
            have HMM2 := Lib.hid (show l2.map (·.1) = Lq.map (shN ((l.length + 1 : Nat) : Int)) from by
              have := HM2.out
              rw [List.take_of_length_le (by rw [HLQ.out]; exact Nat.le_refl _)] at this
              rw [← HBZ.out]; exact this)
            clear hM HM HM2
            go_wp2
            refine ⟨⟨q + 1, ks ++ [((l.length + 1 : Nat) : Int)], acc ++ Lq.map (shN ((l.length + 1 : Nat) : Int)), .slice A8 (ks.length + 1) cS8, l ++ l2, by go_num, by omega, HMF, ?_, ?_, rR, HO.out, hb⟩, by simp [intOf]; omega⟩
            · exact Lib.hid (by rw [List.map_append, HL.out, HMM2.out])
            · refine Lib.hid ⟨?_, ?_, ?_⟩
              · have := HLE.out.1
                rw [List.length_append, hll2.out]; omega
              · have := HLE.out.2.1
                rw [List.length_append, List.length_append, hll2.out]; simp; omega
              · intro k hk
                have := HLE.out.2.2
                rcases List.mem_append.1 hk with hk | hk
                · exact this k hk
                · simp at hk; omega
    · obtain rfl : q = N := by omega
      have hM := HM.out
      rw [List.drop_of_length_le (by rw [HN.out]; exact Nat.le_refl _), mkA_nil] at hM
      have HM2 := Lib.hid hM
      have HO := Lib.hid hO
      have r0 := hR.cell 0
      have rf := hR.free 0
      simp at r0
      clear hM HM hO
      have r5 := row_put1 hR (.slice (some ⟨gn, 0, none⟩) (l.length + 1) cn)
      have r50 := r5.cell 0
      simp at r50
      go_wp2
      refine bodyPost_ret (v := .agg #[.slice (some ⟨gn, 0, none⟩) (l.length + 1) cn]) (by simp [results, Tryz.results29, go_sem, rf, r0, r50, hrl]) rfl ?_
      refine ⟨⟨_, _, rfl, (HO.out.far (a := ⟨w.heap.size + 1, 0, none⟩) (by show w.heap.size + 1 < _; omega) _).mono (by omega), ?_⟩, (by (exact bl))⟩
      rw [HR.out, ← HM2.out, ← HL.out]; rfl
end Go.Proofs.YtpkdhciokiomlaaGreatDoor
