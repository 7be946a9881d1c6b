/- Some texts of this claim, put together. -/
import Derived.Test.YtjaijlkonkgnmaaGreatDoorHBE
import Derived.Test.YtjaijlkonkgnmaaGreatDoorHBA
import Derived.Test.YtjaijlkonkgnmaaGreatDoorHBX
namespace Go.Proofs.YtjaijlkonkgnmaaGreatDoor
section
set_option linter.unusedVariables false
set_option linter.unusedSimpArgs false
set_option linter.unnecessarySimpa false
open Go.RowKit
attribute [local go_sem] cell_alloc_add cell_set_add lt_more
set_option maxRecDepth 100000 in
set_option maxHeartbeats 4000000 in
theorem rEnd_any (A : Option Addr) (L : List Nd) (N c : Nat) (hN : L.length = N) (hc : N ≤ c) (hm : c ≤ maxLen) (n e : Nat) (hs : Sp L n e) (w : World) (h : TreeAt w w.heap.size A L) : Calls Tryz.prog 28 #[.agg #[.slice A N c], .int .i64 (n : Int)] w fun r w' => r = .returned (.int .i64 (e : Int)) ∧ Below w.heap.size w w' := by
  obtain ⟨wa, hwa⟩ : ∃ wa : World, wa = w.alloc (.cells #[.slice A N c] 24) := ⟨_, rfl⟩
  have bA : Below w.heap.size w wa := by rw [hwa]; exact (by (repeat (first | (with_reducible exact Below.refl _ _) | (with_reducible assumption) | (with_reducible refine Below.setCell ?_ (by first | omega | (simp <;> omega)) _) | (with_reducible refine Below.alloc ?_ (by first | omega | (simp <;> omega)) _) | (with_reducible refine Below.drew ?_) | (with_reducible refine below_drewN ?_ _) | (with_reducible refine Below.trans ?_ (Below.mono (by with_reducible assumption) (by first | omega | (simp <;> omega)))))))
  have rT : Row wa w.heap.size 24 #[.slice A N c] := by rw [hwa]; exact row_new rfl
  have hT := Lib.hid (h.below bA)
  have HN := Lib.hid hN
  have HS := Lib.hid hs
  have hnN : n < N := by have := hs.1; omega
  have t0 := rT.cell 0
  simp at t0
  unfold maxLen at hm
  clear h hs hN rT
  go_enter Tryz.func28, Tryz.ntmps28
  go_upto_region 1 with fail
  rw [← hwa]
  clear hwa
  go_loopw [1] (fun t wr => ∃ q : Nat, q < N ∧ t = .int .i64 (q : Int) ∧ Hid (Sp L q e) ∧ ∃ d, wr = wa.drewN d) (fun t _ => N - (intOf t).toNat)
  case atStart => exact ⟨n, hnN, rfl, HS, 0, rfl⟩
  case round =>
    obtain ⟨q, hq, rfl, HQ, d, rfl⟩ := hrel
    clear hnN HS
    have hqL : q < L.length := by rw [HN.out]; exact hq
    obtain ⟨ad, rfl, hn⟩ := hT.out q hqL
    obtain ⟨K, kc, c0, c1, c2, c3, c4, hK, hkk, hkm⟩ := node_open hn
    have hqi : (q : Int) < (N : Int) := by omega
    have hCL := Lib.hid (fun hne => ch_last HQ.out.2.2 hne)
    have hLE := Lib.hid (fun h0 => sp_leaf HQ.out h0)
    have hSL := Lib.hid (HQ.out.len)
    clear hn c0 c1 c2 c4
    unfold maxLen at hkm
    generalize hks : (nd L q).ks = ks at *
    generalize hMM : ks.length = M at *
    have HM := Lib.hid hMM
    clear hMM hks
    by_cases hM0 : M = 0
    · have he := hLE.out hM0
      subst hM0
      subst he
      have hwr : IntKind.i64.wrap ((q : Int) + 1) = (q : Int) + 1 := by rw [IntKind.wrap_i64]; omega
      go_wp2
      go_ret
      exact ⟨by go_num, bA.trans (by (repeat (first | (with_reducible exact Below.refl _ _) | (with_reducible assumption) | (with_reducible refine Below.setCell ?_ (by first | omega | (simp <;> omega)) _) | (with_reducible refine Below.alloc ?_ (by first | omega | (simp <;> omega)) _) | (with_reducible refine Below.drew ?_) | (with_reducible refine below_drewN ?_ _) | (with_reducible refine Below.trans ?_ (Below.mono (by with_reducible assumption) (by first | omega | (simp <;> omega)))))))⟩
    · obtain ⟨m, rfl⟩ : ∃ m, M = m + 1 := ⟨M - 1, by omega⟩
      obtain ⟨k, ek, hsk, hak⟩ := hCL.out (by intro e0; rw [e0] at HM; have := HM.out; simp at this)
      obtain ⟨kd, hKd, hkb, kcell⟩ := hK m (by omega)
      subst hKd
      rw [Nat.add_sub_cancel] at ek
      replace kcell : wa.cell? (kd.add m) = some (.int .i64 (k : Int)) := by rw [kcell]; show some (Value.int .i64 (ks.getD m 0)) = _; rw [ek]
      have hmi : (m : Int) < ((m + 1 : Nat) : Int) := by omega
      have hwr : IntKind.i64.wrap (((m + 1 : Nat) : Int) - 1) = (m : Int) := by rw [IntKind.wrap_i64]; omega
      have HSK := Lib.hid hsk
      have hkN : k < N := by have := hsk.1; have := HN.out; omega
      clear hsk ek hK hCL hLE
      go_wp2
      go_quiet (fail)
      go_wp2
      exact ⟨⟨k, hkN, by go_num, HSK, ⟨_, World.drewN_drewN _ _ _⟩⟩, by simp [intOf]; omega⟩
end
section
set_option linter.unusedVariables false
set_option linter.unusedSimpArgs false
set_option linter.unnecessarySimpa false
open Go.RowKit
attribute [local go_sem] cell_alloc_add cell_set_add lt_more
theorem cut_next {L : List Nd} {n q : Nat} (h : n + q < L.length) : ((L.drop n).take (q + 1)).map (shN (-(n : Int))) = ((L.drop n).take q).map (shN (-(n : Int))) ++ [shN (-(n : Int)) (nd L (n + q : Nat))] := by
  have h1 : q < (L.drop n).length := by rw [List.length_drop]; omega
  rw [List.take_succ_eq_append_getElem h1, List.map_append, List.getElem_drop]
  have := nd_get h
  rw [List.getElem?_eq_getElem h] at this
  rw [Option.some.inj this]; rfl
set_option maxRecDepth 100000 in
set_option maxHeartbeats 16000000 in
theorem rCut_any (A : Option Addr) (L : List Nd) (N c : Nat) (hN : L.length = N) (hc : N ≤ c) (hm : c ≤ maxLen) (hL : N ≤ 1000000) (hks : ∀ j : Nat, (nd L j).ks.length ≤ 1000000000000) (n e : Nat) (hs : Sp L n e) (w : World) (h : TreeAt w w.heap.size A L) : Calls Tryz.prog 35 #[.agg #[.slice A N c], .int .i64 (n : Int)] w fun r w' => (∃ v l, r = .returned (.agg #[v]) ∧ OwnT w' w.heap.size v l ∧ l.map (·.1) = cutL L n e) ∧ Below w.heap.size w w' := by
  obtain ⟨i0, hi0, iz0, iz1, iz2⟩ := info_parts infoNode
  obtain ⟨j0, hj0, jz0, jz1, jz2⟩ := info_parts infoInt
  obtain ⟨wa, hwa⟩ : ∃ wa : World, wa = (w.alloc (.cells #[.slice A N c] 24)).alloc (.cells #[.slice none 0 0] 24) := ⟨_, rfl⟩
  have bA : Below w.heap.size w wa := by rw [hwa]; exact (by (repeat (first | (with_reducible exact Below.refl _ _) | (with_reducible assumption) | (with_reducible refine Below.setCell ?_ (by first | omega | (simp <;> omega)) _) | (with_reducible refine Below.alloc ?_ (by first | omega | (simp <;> omega)) _) | (with_reducible refine Below.drew ?_) | (with_reducible refine below_drewN ?_ _) | (with_reducible refine Below.trans ?_ (Below.mono (by with_reducible assumption) (by first | omega | (simp <;> omega)))))))
  have zA : w.heap.size + 1 < wa.heap.size := by rw [hwa]; simp
  have zA0 : w.heap.size < wa.heap.size := by omega
  have rT : Row wa w.heap.size 24 #[.slice A N c] := by rw [hwa]; exact (row_new rfl).alloc _
  have rR : Row wa (w.heap.size + 1) 24 #[.slice none 0 0] := by rw [hwa]; exact row_new (by simp)
  have t0 := rT.cell 0
  simp at t0
  have HE := Lib.hid (rEnd_any A L N c hN hc hm n e hs wa (h.later bA))
  have hT := Lib.hid h
  have HN := Lib.hid hN
  have HKS := Lib.hid hks
  have hse := hs.len
  have hsl := hs.lt
  rw [hN] at hse
  unfold maxLen at hm
  clear h hN hks hs
  go_enter Tryz.func35, Tryz.ntmps35
  go_upto_region 1 with fail
  rw [← hwa]
  clear hwa
  go_upto_region 2 with (first
    | (go_at_call 28; (with_reducible refine HE.out.mono ?_); rintro r w1 ⟨rfl, b1⟩)
    | fail)
  have q1 := bA.trans (b1.mono bA.size)
  have rT1 := rT.below b1 zA0
  have rR1 := rR.below b1 zA
  have z1 := b1.size
  clear rT rR t0 bA HE b1
  go_wp2
  go_loopw [6, 7] (fun v t wr => ∃ (q : Nat) (l : List NdV), t = .int .i64 ((n + q : Nat) : Int) ∧ n + q ≤ e ∧ Hid (OwnT wr (w.heap.size + 2) v l) ∧ Hid (l.map (·.1) = ((L.drop n).take q).map (shN (-(n : Int)))) ∧ Row wr w.heap.size 24 #[.slice A N c] ∧ Row wr (w.heap.size + 1) 24 #[.slice none 0 0] ∧ Below w.heap.size w wr) (fun _ t _ => e - (intOf t).toNat)
  case atStart => exact ⟨0, [], rfl, by omega, Lib.hid (OwnT.nil _ _), Lib.hid (by simp), rT1, rR1, q1⟩
  case round =>
    obtain ⟨q, l, rfl, hq, HO, HM, rT, rR, hb⟩ := hrel
    clear rT1 rR1 q1 zA zA0 z1
    generalize hwo : wr = wo at *
    clear hwo
    have hz := Below.size hb
    have lT := rT.lt
    have lR := rR.lt
    have t0 := rT.cell 0
    simp at t0
    obtain ⟨Av, cv, hv, hcv, hmv⟩ := own_slice HO.out.row
    have hll : Hid (l.length = q) := Lib.hid (by
      have := congrArg List.length HM.out
      rw [List.length_map, List.length_map, List.length_take, List.length_drop, HN.out] at this
      omega)
    rw [hll.out] at hv hcv
    subst hv
    generalize hi : n + q = i at *
    have HI := Lib.hid hi
    have hqle : q ≤ i := by omega
    clear hi
    by_cases hlt : i < e
    · have hiL : i < L.length := by rw [HN.out]; omega
      obtain ⟨ad, rfl, hn⟩ := hT.out i hiL
      have hn' := hn.keep (W' := wo) (fun p hp => hb.cell hp)
      have hbq : (ad.add (i * 5)).block < wo.heap.size := Nat.lt_of_lt_of_le hn.blk hz
      have hba : ad.block < wo.heap.size := by rw [block_add] at hbq; exact hbq
      obtain ⟨K, kc, c0, c1, c2, c3, c4, hK, hkk, hkm⟩ := node_open hn'
      have HW := Lib.hid hn.wm
      have HKN := Lib.hid (hK.more hz)
      have hk0 := HKS.out i
      have HCN := Lib.hid (cut_next (L := L) (n := n) (q := q) (by rw [HI.out]; exact hiL))
      rw [HI.out] at HCN
      clear hn hn' hK
      generalize nd L i = y at *
      obtain ⟨yk, yx, ym, yks, yp⟩ := y
      simp only at c0 c1 c2 c3 c4 hkk HKN hk0 HW
      generalize hMM : yks.length = M at *
      have HMM := Lib.hid hMM
      clear hMM
      unfold maxLen at hkm
      have hiN : (i : Int) < (N : Int) := by omega
      obtain ⟨wb, hwb⟩ : ∃ wb : World, wb = wo.alloc (.cells #[.int .i64 yk, .string yx, .int .i64 ym, .slice K M kc, .int .i64 yp] 42) := ⟨_, rfl⟩
      go_upto_region 7 with fail
      rw [← hwb]
      have bB : Below wo.heap.size wo wb := by rw [hwb]; exact (Below.refl _ _).alloc (Nat.le_refl _) _
      have rY : Row wb wo.heap.size 42 #[.int .i64 yk, .string yx, .int .i64 ym, .slice K M kc, .int .i64 yp] := by rw [hwb]; exact row_new rfl
      have zb : wo.heap.size + 1 ≤ wb.heap.size := by rw [hwb]; simp
      clear hwb c0 c1 c2 c3 c4 t0
      go_wp2
      go_loopw [9, 10] (fun v t wi => ∃ j : Nat, t = .int .i64 (j : Int) ∧ j ≤ M ∧ Hid (wi.ownsRow (wo.heap.size + 1) 3 1 v j (intsC ((yks.take j).map fun k => IntKind.i64.wrap (k + -(n : Int))))) ∧ Below (wo.heap.size + 1) wb wi) (fun _ t _ => M - (intOf t).toNat)
      case atStart => exact ⟨0, rfl, Nat.zero_le _, Lib.hid (World.ownsRow_nil _ _ _ _), Below.refl _ _⟩
      case round =>
        obtain ⟨j, rfl, hj, HV, bi⟩ := hrel
        generalize hwi : wr = wi at *
        clear hwi
        have zi := Below.size bi
        have rYi := rY.below bi (by omega)
        have lYi := rYi.lt
        have y3 := rYi.cell 3
        simp at y3
        obtain ⟨A9, c9, hv9, hc9, hm9⟩ := own_slice HV.out
        subst hv9
        by_cases hjl : j < M
        · obtain ⟨kd, hKd, hkb, kcell⟩ := HKN.out j hjl
          subst hKd
          replace kcell : wi.cell? (kd.add j) = some (.int .i64 (yks.getD j 0)) := (bi.cell (by rw [block_add]; omega)).trans ((bB.cell (by rw [block_add]; exact hkb)).trans kcell)
          have hkbi : kd.block < wi.heap.size := by omega
          have HTN := Lib.hid (show (yks.take (j + 1)).map (fun k => IntKind.i64.wrap (k + -(n : Int))) = (yks.take j).map (fun k => IntKind.i64.wrap (k + -(n : Int))) ++ [IntKind.i64.wrap (yks.getD j 0 + -(n : Int))] from by
            have hjy : j < yks.length := by rw [HMM.out]; exact hjl
            rw [List.take_succ_eq_append_getElem hjy, List.map_append]
            simp [List.getD, hjy])
          generalize yks.getD j 0 = u at *
          have hji : (j : Int) < (M : Int) := by omega
          go_wp2_with (first
            | (at_builtin; refine wpList_append_rd _ rfl (.tmp 32) (.tmp 40) 26 rfl (wo.heap.size + 1) 3 j0 _ 8 Tryz.underlying26 hj0 jz0 jz1 jz2 rfl (.slice A9 j c9) j _ rfl (HV.out.alloc _) _ _ 1 1 _ rfl (rd_one wi 3 _) (fun _ => rfl) (by unfold maxLen; omega) (by omega) (by simp; omega) ?_; intro v3 w3 own3 hg3 hob3)
            | fail)
          refine ⟨⟨j + 1, by go_num, by omega, Lib.hid ?_, Below.grown (bi.alloc (by omega) _) hg3 (by simp; omega) (fun k hk => own_ge HV.out k hk)⟩, by simp [intOf]; omega⟩
          rw [HTN.out]
          have e1 : IntKind.i64.wrap (u + -(n : Int)) = wrap64 (u - (n : Int)) := by rw [IntWalk.i64_left, Int.sub_eq_add_neg]
          rw [e1, intsC, List.map_append]
          exact own3
        · obtain rfl : j = M := by omega
          have HV2 := Lib.hid (show wi.ownsRow (wo.heap.size + 1) 3 1 (.slice A9 j c9) j (intsC (yks.map fun k => IntKind.i64.wrap (k + -(n : Int)))) from by
            have := HV.out
            rw [List.take_of_length_le (by rw [HMM.out]; exact Nat.le_refl _)] at this
            exact this)
          have y0 := rYi.cell 0
          have y1 := rYi.cell 1
          have y2 := rYi.cell 2
          have y4 := rYi.cell 4
          have yf := rYi.free 3
          simp at y0 y1 y2 y4
          have bw := bB.trans (bi.mono (by omega))
          obtain ⟨ws, hws⟩ : ∃ ws : World, ws = wi.setCell ⟨wo.heap.size, 3, none⟩ (.slice A9 j c9) := ⟨_, rfl⟩
          have rYs : Row ws wo.heap.size 42 #[.int .i64 yk, .string yx, .int .i64 ym, .slice A9 j c9, .int .i64 yp] := by rw [hws]; exact rYi.put 3 _
          have hVs : ws.ownsRow (wo.heap.size + 1) 3 1 (.slice A9 j c9) j (intsC (yks.map fun k => IntKind.i64.wrap (k + -(n : Int)))) := by rw [hws]; exact ownsRow_setCell_below HV2.out (by show wo.heap.size < wo.heap.size + 1; omega) _
          have bs : Below wo.heap.size wo ws := by rw [hws]; exact bw.setCell (by show wo.heap.size ≤ wo.heap.size; omega) _
          have hOs := HO.out.below bs
          have rTs := rT.below bs lT
          have rRs := rR.below bs lR
          have hzs : ws.heap.size = wi.heap.size := by rw [hws]; simp
          have zs : wo.heap.size + 1 ≤ ws.heap.size := by omega
          clear hzs
          go_upto_region 13 with fail
          rw [← hws]
          clear hws
          have u0 := rYs.cell 0
          have u1 := rYs.cell 1
          have u2 := rYs.cell 2
          have u3 := rYs.cell 3
          have u4 := rYs.cell 4
          have hrow := hOs.row
          rw [hll.out] at hrow
          simp at u0 u1 u2 u3 u4
          have HRW := Lib.hid hrow
          have HOS := Lib.hid hOs
          have HVS := Lib.hid hVs
          have HAP := Lib.hid (fun (p : NdV) (hp : p ∈ l) g e1 => HO.out.kids.lt p hp g e1)
          clear hrow hOs hVs y0 y1 y2 y3 y4 yf
          go_wp2_with (first
            | (at_builtin; refine wpList_append_own _ rfl _ _ 22 rfl (w.heap.size + 2) 42 i0 _ 5 64 Tryz.underlying22 hi0 iz0 iz1 iz2 rfl (by decide) _ _ _ rfl (HRW.out.alloc _) ⟨ws.heap.size, 0, none⟩ 1 1 (ndC (⟨yk, yx, ym, yks.map fun k => IntKind.i64.wrap (k + -(n : Int)), yp⟩, .slice A9 j c9)) rfl rfl (row5_lies (row_new rfl)) (ndC_one _ rfl) (by unfold maxLen; omega) (by omega) (by simp; omega) ?_; intro v3 w3 own3 hg3 _; obtain ⟨A3, c3', rfl, _, _⟩ := own_slice own3)
            | fail)
          have hOn := OwnT.snoc (p := (⟨yk, yx, ym, yks.map fun k => IntKind.i64.wrap (k + -(n : Int)), yp⟩, .slice A9 j c9)) (HOS.out.below ((Below.refl _ ws).alloc (Nat.le_refl _) _)) (by rw [hll.out]; exact own3) hg3 (by
              have h5 := own_mono (HVS.out.alloc (.cells #[.int .i64 yk, .string yx, .int .i64 ym, .slice A9 j c9, .int .i64 yp] 42)) (B := w.heap.size + 2) (by omega)
              have e : (yks.map fun k => IntKind.i64.wrap (k + -(n : Int))).length = j := by rw [List.length_map]; exact HMM.out
              show World.ownsRow _ _ _ _ _ (yks.map fun k => IntKind.i64.wrap (k + -(n : Int))).length _
              rw [e]; exact h5) (shN_wide (-(n : Int)) (y := ⟨yk, yx, ym, yks, yp⟩) HW.out) (fun r hr g e1 e2 => by
              have := HAP.out r hr g e1
              have := own_ge HVS.out g e2
              omega)
          refine ⟨⟨q + 1, l ++ [(⟨yk, yx, ym, yks.map fun k => IntKind.i64.wrap (k + -(n : Int)), yp⟩, .slice A9 j c9)], by have := HI.out; go_num, by have := HI.out; omega, Lib.hid hOn, Lib.hid ?_, row_grown (rTs.alloc _) hg3 (row_ne rTs HRW.out (by decide)), row_grown (rRs.alloc _) hg3 (row_ne rRs HRW.out (by decide)), ((hb.trans (bs.mono hz)).alloc (by omega) _).grown hg3 (by simp; omega) (fun k hk => by have := own_ge HRW.out k hk; omega)⟩, by simp [intOf]; omega⟩
          rw [HCN.out, List.map_append, HM.out]; rfl
    · obtain rfl : i = e := by omega
      have HO2 := Lib.hid HO.out
      have hLn : n + q = i := HI.out
      have rf := rR.free 0
      have r0 := rR.cell 0
      simp at r0
      have HCL := Lib.hid (show ((L.drop n).take q).map (shN (-(n : Int))) = cutL L n i from by unfold cutL; rw [show i - n = q by omega])
      clear hLn
      have r5 := row_put1 rR (.slice Av q cv)
      have r50 := r5.cell 0
      simp at r50
      go_wp2
      refine bodyPost_ret (v := .agg #[.slice Av q cv]) (by simp [results, Tryz.results35, go_sem, rf, r50, lR]) rfl ?_
      refine ⟨⟨_, l, rfl, (HO2.out.far (by show w.heap.size + 1 < _; omega) _).mono (by omega), by rw [HM.out]; exact HCL.out⟩, hb.setCell (by show w.heap.size ≤ w.heap.size + 1; omega) _⟩
end
section
set_option linter.unusedVariables false
set_option linter.unusedSimpArgs false
set_option linter.unnecessarySimpa false
open Go.RowKit
attribute [local go_sem] cell_alloc_add cell_set_add lt_more
set_option maxRecDepth 100000 in
set_option maxHeartbeats 8000000 in
theorem rSub_any (A : Option Addr) (L : List Nd) (N c : Nat) (hN : L.length = N) (hc : N ≤ c) (hm : c ≤ maxLen) (hL : N ≤ 1000000) (hx : ∀ j : Nat, (nd L j).x.size ≤ 4000000) (hks : ∀ j : Nat, (nd L j).ks.length ≤ 1000000000000) (n : Int) (w : World) (h : TreeAt w w.heap.size A L) : Calls Tryz.prog 24 #[.agg #[.slice A N c], .int .i64 n] w fun r w' => (∃ v l, r = .returned (.tuple #[.agg #[v], .int .i64 (subE L n)]) ∧ OwnT w' w.heap.size v l ∧ SubOf L n (l.map (·.1))) ∧ Below w.heap.size w w' := by
  obtain ⟨wa, hwa⟩ : ∃ wa : World, wa = (w.alloc (.cells #[.slice A N c] 24)).alloc (.cells #[.slice none 0 0] 24) := ⟨_, rfl⟩
  have bA : Below w.heap.size w wa := by rw [hwa]; exact (by (repeat (first | (with_reducible exact Below.refl _ _) | (with_reducible assumption) | (with_reducible refine Below.setCell ?_ (by first | omega | (simp <;> omega)) _) | (with_reducible refine Below.alloc ?_ (by first | omega | (simp <;> omega)) _) | (with_reducible refine Below.drew ?_) | (with_reducible refine below_drewN ?_ _) | (with_reducible refine Below.trans ?_ (Below.mono (by with_reducible assumption) (by first | omega | (simp <;> omega)))))))
  have zA : w.heap.size + 1 < wa.heap.size := by rw [hwa]; simp
  have zA0 : w.heap.size < wa.heap.size := by omega
  have rT : Row wa w.heap.size 24 #[.slice A N c] := by rw [hwa]; exact (row_new rfl).alloc _
  have rR : Row wa (w.heap.size + 1) 24 #[.slice none 0 0] := by rw [hwa]; exact row_new (by simp)
  have t0 := rT.cell 0
  simp at t0
  have HC := Lib.hid (fun W (hb : Below w.heap.size w W) => hN ▸ rGoodT_any A L c (by omega) hm (by omega) (fun j => by have := hx j; omega) W (h.later hb))
  have HCU := Lib.hid (fun n e hs W (hb : Below w.heap.size w W) => rCut_any A L N c hN hc hm hL hks n e hs W (h.later hb))
  have HG := Lib.hid (good_iff (L := L))
  have HOR := Lib.hid (chk_or (L := L))
  have HGD := Lib.hid (show goodT L = decide ((chk L).2 = 0) from rfl)
  have HSE := Lib.hid (show subE L n = if (chk L).2 = 0 then (if 0 ≤ n ∧ n < (L.length : Int) then 0 else 1) else (chk L).2 from rfl)
  have HN := Lib.hid hN
  rcases hR : chk L with ⟨ra, re⟩
  rw [hR] at HG HSE HOR HGD
  simp only at HG HSE HGD
  rw [HGD.out] at HC
  unfold maxLen at hm
  clear h hx hks hN hR HGD
  go_enter Tryz.func24, Tryz.ntmps24
  go_upto_region 1 with fail
  rw [← hwa]
  clear hwa
  by_cases he : re = 0
  · subst he
    rw [decide_eq_true rfl] at HC
    rw [if_pos rfl] at HSE
    have HGT := Lib.hid (HG.out.1 rfl)
    by_cases hin : 0 ≤ n ∧ n < (N : Int)
    · have hse : subE L n = 0 := by rw [HSE.out, if_pos (by rw [HN.out]; exact hin)]
      obtain ⟨hn1, hn2⟩ := hin
      obtain ⟨i, rfl⟩ : ∃ i : Nat, n = (i : Int) := ⟨n.toNat, by omega⟩
      have hiN : i < N := by omega
      obtain ⟨e, hs⟩ := good_sub HGT.out (by rw [HN.out]; exact hiN)
      have HM := Lib.hid (HCU.out i e hs)
      have HSP := Lib.hid hs
      have hi0 : ¬ (i : Int) < 0 := by omega
      have hi1 : ¬ (N : Int) ≤ (i : Int) := by omega
      clear HCU HG hs HOR
      go_wp2_with (first
        | (go_at_call 18; (with_reducible refine (HC.out _ bA).mono ?_); rintro r w1 ⟨rfl, b1⟩; have q1 := bA.trans (b1.mono bA.size); have rT1 := rT.below b1 zA0; have rR1 := rR.below b1 zA; have e1 := rT1.cell 0; have r1 := rR1.cell 0; have f1 := rR1.free 0; have l1 := rR1.lt; simp at e1 r1)
        | (go_at_call 35; (with_reducible refine (HM.out _ q1).mono ?_); rintro r w4 ⟨⟨v4, l4, rfl, hO4, hl4⟩, b4⟩; obtain ⟨A4, c4, rfl, hc4, hm4⟩ := own_slice hO4.row; have rR4 := rR1.below b4 rR1.lt; have l4' := rR4.lt; have r4 := rR4.cell 0; have f4 := rR4.free 0; simp at r4)
        | fail)
      have z1 := q1.size
      have r5 := row_put1 rR4 (.slice A4 l4.length c4)
      have r50 := r5.cell 0
      simp at r50
      refine bodyPost_ret (v := .tuple #[.agg #[.slice A4 l4.length c4], .int .i64 0]) (by simp [results, Tryz.results24, go_sem, r50, f4, l4']) rfl ?_
      rw [hse]
      have hp : OwnT (w4.setCell ⟨w.heap.size + 1, 0, none⟩ (.slice A4 l4.length c4)) w.heap.size (.slice A4 l4.length c4) l4 := (hO4.far (by show w.heap.size + 1 < w1.heap.size; omega) _).mono (by omega)
      have hq : SubOf L (i : Int) (l4.map (·.1)) := ⟨fun h => absurd hse h, fun _ => ⟨e, by rw [Int.toNat_natCast]; exact HSP.out, by rw [hl4, Int.toNat_natCast]⟩⟩
      exact ⟨⟨_, l4, rfl, hp, hq⟩, (q1.trans (b4.mono z1)).setCell (by show w.heap.size ≤ w.heap.size + 1; omega) _⟩
    · have hse : subE L n = 1 := by rw [HSE.out, if_neg (by rw [HN.out]; exact hin)]
      clear HCU HG HOR
      by_cases h0 : n < 0
      · go_wp2_with (first
          | (go_at_call 18; (with_reducible refine (HC.out _ bA).mono ?_); rintro r w1 ⟨rfl, b1⟩; have q1 := bA.trans (b1.mono bA.size); have rT1 := rT.below b1 zA0; have rR1 := rR.below b1 zA; have e1 := rT1.cell 0; have r1 := rR1.cell 0; have f1 := rR1.free 0; have l1 := rR1.lt; simp at e1 r1)
          | fail)
        have r5 := row_put1 rR1 (.slice none 0 0)
        have r50 := r5.cell 0
        simp at r50
        refine bodyPost_ret (v := .tuple #[.agg #[.slice none 0 0], .int .i64 1]) (by simp [results, Tryz.results24, go_sem, r50, f1, l1]) rfl ?_
        rw [hse]
        exact ⟨⟨_, [], rfl, OwnT.nil _ _, fun _ => rfl, fun h => absurd (hse.symm.trans h) (by decide)⟩, q1.setCell (by show w.heap.size ≤ w.heap.size + 1; omega) _⟩
      · have h1 : (N : Int) ≤ n := by omega
        go_wp2_with (first
          | (go_at_call 18; (with_reducible refine (HC.out _ bA).mono ?_); rintro r w1 ⟨rfl, b1⟩; have q1 := bA.trans (b1.mono bA.size); have rT1 := rT.below b1 zA0; have rR1 := rR.below b1 zA; have e1 := rT1.cell 0; have r1 := rR1.cell 0; have f1 := rR1.free 0; have l1 := rR1.lt; simp at e1 r1)
          | fail)
        have r5 := row_put1 rR1 (.slice none 0 0)
        have r50 := r5.cell 0
        simp at r50
        refine bodyPost_ret (v := .tuple #[.agg #[.slice none 0 0], .int .i64 1]) (by simp [results, Tryz.results24, go_sem, r50, f1, l1]) rfl ?_
        rw [hse]
        exact ⟨⟨_, [], rfl, OwnT.nil _ _, fun _ => rfl, fun h => absurd (hse.symm.trans h) (by decide)⟩, q1.setCell (by show w.heap.size ≤ w.heap.size + 1; omega) _⟩
  · have h7 : re = 7 := by
      rcases HOR.out with e | ⟨e, _⟩
      · injection e with _ e; exact absurd e he
      · exact e
    rw [decide_eq_false he] at HC
    have hse : subE L n = 7 := by rw [HSE.out, if_neg he, h7]
    clear HCU HG HOR h7
    go_wp2_with (first
      | (go_at_call 18; (with_reducible refine (HC.out _ bA).mono ?_); rintro r w1 ⟨rfl, b1⟩; have q1 := bA.trans (b1.mono bA.size); have rT1 := rT.below b1 zA0; have rR1 := rR.below b1 zA; have e1 := rT1.cell 0; have r1 := rR1.cell 0; have f1 := rR1.free 0; have l1 := rR1.lt; simp at e1 r1)
      | fail)
    have r5 := row_put1 rR1 (.slice none 0 0)
    have r50 := r5.cell 0
    simp at r50
    refine bodyPost_ret (v := .tuple #[.agg #[.slice none 0 0], .int .i64 7]) (by simp [results, Tryz.results24, go_sem, r50, f1, l1]) rfl ?_
    rw [hse]
    exact ⟨⟨_, [], rfl, OwnT.nil _ _, fun _ => rfl, fun h => absurd (hse.symm.trans h) (by decide)⟩, q1.setCell (by show w.heap.size ≤ w.heap.size + 1; omega) _⟩
end
end Go.Proofs.YtjaijlkonkgnmaaGreatDoor
