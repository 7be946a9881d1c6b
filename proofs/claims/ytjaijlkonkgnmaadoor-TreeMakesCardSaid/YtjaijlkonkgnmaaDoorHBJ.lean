/- Some texts of this claim, put together. -/
import Derived.Test.YtjaijlkonkgnmaaDoorHBC
import Derived.Test.YtjaijlkonkgnmaaDoorHBD
import Derived.Lib.SliceRun
import Derived.RegionTactic
import Derived.Deep.DeepCutAuto
import Derived.Deep.CutBlock
import Derived.Test.YtjaijlkonkgnmaaDoorHBI
import Derived.Test.YtjaijlkonkgnmaaDoorHBB
import Derived.OwnWalk
import Derived.RangeFuncNested
import Derived.RangeFuncBound
import Derived.RangeFuncCalls
import Derived.RangeFuncLeaves
import Derived.Shelf.Abstract
import Derived.Shelf.RegionOpen
import Derived.OwnWalkIn
import Derived.TacticsInMore
import Derived.LoopNIn
import Derived.LoopIn
import Derived.Sort.CutIn
namespace Go.Proofs.YtjaijlkonkgnmaaDoor
section
set_option linter.unusedVariables false
set_option linter.unusedSimpArgs false
set_option linter.unnecessarySimpa false
open Go.RowKit
attribute [local go_sem] cell_alloc_add cell_set_add lt_more
theorem infoInt : (Tryd.prog.info? 3).map (fun i => (i.zero, i.size, i.bytes)) = some (some (.int .i64 0), 1, 8) := by kernel_rfl
theorem infoNode : (Tryd.prog.info? 24).map (fun i => (i.zero, i.size, i.bytes)) = some (some (.agg #[.int .i64 0, .string ⟨#[]⟩, .int .i64 0, .slice none 0 0, .int .i64 0]), 5, 64) := by kernel_rfl
theorem firsts_ks (ks : List Int) : firsts (ksV ks) ks.length = intsC ks := by
  apply List.ext_getElem?
  intro j
  by_cases hj : j < ks.length
  · rw [firsts_at hj, ksV_get hj]
  · rw [List.getElem?_eq_none (by rw [firsts_len]; omega), List.getElem?_eq_none (by simp [intsC]; omega)]
set_option maxRecDepth 100000 in
set_option maxHeartbeats 4000000 in
theorem CloneI_any (ks : List Int) (n : Nat) (hn : ks.length = n) (A : Option Addr) (c : Nat) (hs : n ≤ 1000000000000) (w : World) (h : Rd w w.heap.size A n (ksV ks)) :
    Calls Tryd.prog 32 #[.slice A n c] w fun e w' => (∃ v', e = .returned v' ∧ w'.ownsRow w.heap.size 3 1 v' n (intsC ks)) ∧ Below w.heap.size w w' := by
  have HN := Lib.hid h
  have HL := Lib.hid hn
  obtain ⟨i0, hif, hz0, hz1, hz2⟩ := info_parts infoInt
  rcases A with _ | ad
  · have h0 : n = 0 := by
      rcases Nat.eq_zero_or_pos n with e | e
      · exact e
      · obtain ⟨ad, e, _⟩ := h.addr e; cases e
    subst h0
    have kn := Lib.run_eql_slice_nil (P := Tryd.prog) w 22 3 none 0 c 0 0 Tryd.underlying22
    clear h hn
    go_enter Tryd.func32, Tryd.ntmps32
    go_wp2
    go_ret
    have e := List.eq_nil_of_length_eq_zero HL.out
    exact ⟨⟨_, rfl, by rw [e]; exact World.ownsRow_nil _ _ _ _⟩, Below.refl _ _⟩
  · clear h hn
    have kn := Lib.run_eql_slice_nil (P := Tryd.prog) w 22 3 (some ad) n c 0 0 Tryd.underlying22
    go_enter Tryd.func32, Tryd.ntmps32
    go_wp2_with (at_builtin; refine wpList_append_rd _ rfl (.tmp 5) (.tmp 6) _ rfl w.heap.size 3 i0 _ 8 Tryd.underlying22 hif hz0 hz1 hz2 rfl _ 0 [] rfl (own_new (n := 0) rfl (Nat.le_refl _) (by decide)) _ (some ad) n c (ksV ks) rfl (HN.out.alloc (by omega) _) (fun _ => rfl) (by simp only [maxLen]; omega) (by omega) (by simp) ?_; intro v1 w1 hown1 hg1 hat1)
    have hbb : Below w.heap.size w w1 := ((Below.refl _ w).alloc (Nat.le_refl _) _).grown hg1 (by simp) (ob_ge (Nat.le_refl _))
    go_ret
    exact ⟨⟨_, rfl, by rw [← firsts_ks, HL.out]; simpa using hown1⟩, hbb⟩
/-- The first j numbers moved, the others as they were. -/
def midI (z : Int) (j : Nat) (ks : List Int) : List Int := (ks.take j).map (fun k => IntKind.i64.wrap (k + z)) ++ ks.drop j
theorem midI_0 (z : Int) (ks : List Int) : midI z 0 ks = ks := by simp [midI]
theorem midI_len (z : Int) (j : Nat) (ks : List Int) : (midI z j ks).length = ks.length := by simp [midI]; omega
theorem midI_get (z : Int) (j : Nat) (ks : List Int) (hj : j ≤ ks.length) (i : Nat) : (intsC (midI z j ks))[i]? = if i < j then ks[i]?.map (fun k => Value.int .i64 (IntKind.i64.wrap (k + z))) else ks[i]?.map (Value.int .i64) := by
  unfold midI intsC
  rw [List.map_append, List.map_map]
  have hl : ((ks.take j).map (Value.int .i64 ∘ fun k => IntKind.i64.wrap (k + z))).length = j := by simp; omega
  by_cases h : i < j
  · rw [List.getElem?_append_left (by rw [hl]; exact h), if_pos h, List.getElem?_map, List.getElem?_take, if_pos h]; rfl
  · rw [List.getElem?_append_right (by rw [hl]; omega), hl, if_neg h, List.getElem?_map, List.getElem?_drop, show j + (i - j) = i by omega]
theorem midI_at (z : Int) (j : Nat) (ks : List Int) (hj : j < ks.length) : (intsC (midI z j ks))[j]? = some (.int .i64 (ks.getD j 0)) := by
  rw [midI_get z j ks (by omega), if_neg (by omega)]
  simp [hj, List.getD]
theorem midI_set (z : Int) (j : Nat) (ks : List Int) (hj : j < ks.length) : (intsC (midI z j ks)).set j (.int .i64 (IntKind.i64.wrap (ks.getD j 0 + z))) = intsC (midI z (j + 1) ks) := by
  apply List.ext_getElem?
  intro i
  rw [midI_get z (j + 1) ks (by omega), List.getElem?_set]
  have hl : (intsC (midI z j ks)).length = ks.length := by unfold intsC; rw [List.length_map, midI_len]
  by_cases h : j = i
  · subst h
    rw [if_pos rfl, if_pos (by omega), if_pos (by omega)]
    simp [hj, List.getD]
  · rw [if_neg h, midI_get z j ks (by omega)]
    by_cases h2 : i < j
    · rw [if_pos h2, if_pos (by omega)]
    · rw [if_neg h2, if_neg (by omega)]
theorem midI_all (z : Int) (ks : List Int) : midI z ks.length ks = ks.map (fun k => IntKind.i64.wrap (k + z)) := by simp [midI]
theorem row5_lies {w : World} {g : Nat} {t : TypeId} {a b c d e : Value} (h : Row w g t #[a, b, c, d, e]) : ∀ j u, [a, b, c, d, e][j]? = some u → w.cell? ((⟨g, 0, none⟩ : Addr).add j) = some u := fun j u hj => by
  rw [add_row, h.cell, Nat.zero_add, ← hj]; simp
theorem ndC_one (p : NdV) (h : p.2.oneCell' = true) : ∀ u ∈ ndC p, u.oneCell' = true := by
  intro u hu; simp [ndC] at hu; rcases hu with rfl | rfl | rfl | rfl | rfl <;> first | rfl | exact h
theorem own_one {W : World} {base n : Nat} {e : TypeId} {size : Nat} {v : Value} {xs : List Value} (h : W.ownsRow base e size v n xs) : v.oneCell' = true := by
  obtain ⟨A, c, rfl, _⟩ := own_slice h; rfl
set_option maxRecDepth 100000 in
set_option maxHeartbeats 16000000 in
theorem moved_any (A : Option Addr) (L : List Nd) (n : Nat) (hn : L.length = n) (c : Nat) (z : Int) (hc : n ≤ c) (hm : c ≤ maxLen) (hL : n ≤ 1000000) (hks : ∀ j : Nat, (nd L j).ks.length ≤ 1000000000000) (w : World) (h : TreeAt w w.heap.size A L) :
    Calls Tryd.prog 22 #[.slice A n c, .int .i64 z] w fun e w' => (∃ v l, e = .returned v ∧ OwnT w' w.heap.size v l ∧ l.map (·.1) = L.map (shN z)) ∧ Below w.heap.size w w' := by
  have hT := Lib.hid h
  have HN := Lib.hid hn
  have HK := Lib.hid hks
  clear h hn hks
  obtain ⟨i0, hi0, iz0, iz1, iz2⟩ := info_parts infoNode
  unfold maxLen at hm
  go_enter Tryd.func22, Tryd.ntmps22
  go_wp2
  go_loopw [5, 11] (fun v t wr => ∃ (q : Nat) (l : List NdV), t = .int .i64 (q : Int) ∧ q ≤ n ∧ Hid (l.map (·.1) = (L.take q).map (shN z)) ∧ OwnT wr w.heap.size v l ∧ Below w.heap.size w wr) (fun _ t _ => n - (intOf t).toNat)
  case atStart => exact ⟨0, [], rfl, Nat.zero_le _, Lib.hid rfl, ⟨World.ownsRow_nil _ _ _ _, Kids.nil _ _⟩, Below.refl _ _⟩
  case round =>
    obtain ⟨q, l, rfl, hq, HM, hO, hb⟩ := hrel
    have hz := Below.size hb
    by_cases hlt : q < n
    · have hlen : l.length = q := by
        have := congrArg List.length HM.out
        simp at this
        have := HN.out
        omega
      obtain ⟨ad, rfl, hnn⟩ := hT.out q (by rw [HN.out]; exact hlt)
      have hnn2 := hnn.keep (W' := wr) (fun p hp => hb.cell hp)
      have hb1 := hnn2.blk
      have hbq : (ad.add (q * 5)).block < wr.heap.size := Nat.lt_of_lt_of_le hb1 hz
      have hwid : wideY (nd L q) := ⟨hnn.wm, hnn.wk⟩
      obtain ⟨K0, kc0, d0, d1, d2, d3, d4, hK0, hkk, hkm⟩ := node_open hnn2
      have hKr := Lib.hid ((hK0.more hz))
      have hkl := HK.out q
      have hTk := Lib.hid (show (L.take (q + 1)).map (shN z) = (L.take q).map (shN z) ++ [shN z (nd L q)] by
        have hqL : q < L.length := by rw [HN.out]; exact hlt
        rw [List.take_succ_eq_append_getElem hqL, List.map_append]
        have := nd_get hqL
        rw [List.getElem?_eq_getElem hqL] at this
        injection this with this
        rw [this]; rfl)
      clear hnn hnn2 hK0
      have hHO := Lib.hid hO
      have hHL := Lib.hid hlen
      have HW := Lib.hid hwid
      clear hO hlen hwid
      generalize nd L q = y at *
      obtain ⟨k, x, m, ks, p⟩ := y
      simp only at d0 d1 d2 d3 d4 hkk hkl hKr HW
      unfold maxLen at hkm
      generalize hMM : ks.length = M at *
      have HMM := Lib.hid hMM
      clear hMM
      have hba : ad.block < wr.heap.size := by rw [block_add] at hbq; exact hbq
      obtain ⟨wb, hwb⟩ : ∃ wb : World, wb = wr.alloc (.cells #[.int .i64 k, .string x, .int .i64 m, .slice K0 M kc0, .int .i64 p] 24) := ⟨_, rfl⟩
      have rb : Row wb wr.heap.size 24 #[.int .i64 k, .string x, .int .i64 m, .slice K0 M kc0, .int .i64 p] := by rw [hwb]; exact row_new rfl
      have bb : Below wr.heap.size wr wb := by rw [hwb]; exact (Below.refl _ _).alloc (Nat.le_refl _) _
      have zb : wb.heap.size = wr.heap.size + 1 := by rw [hwb]; simp
      have HC := Lib.hid (CloneI_any ks M HMM.out K0 kc0 (by omega) wb ((hKr.out.below bb).more bb.size))
      go_upto_region 5 with fail
      rw [← hwb]
      clear hwb d0 d1 d2 d3 d4
      have r0 := rb.cell 0
      have r1 := rb.cell 1
      have r2 := rb.cell 2
      have r3 := rb.cell 3
      have r4 := rb.cell 4
      simp at r0 r1 r2 r3 r4
      go_upto_region 6 with (go_at_call 32; (with_reducible refine HC.out.mono ?_); rintro e w2 ⟨⟨v2, rfl, hv2⟩, b2⟩; obtain ⟨K2, kc2, rfl, hkk2, hkm2⟩ := own_slice hv2; have rc := rb.below b2 (by omega); have rcl := rc.lt; have rcf := rc.free 3; have rcc := rc.cell 3; simp at rcc)
      unfold maxLen at hkm2
      have z2 := Below.size b2
      obtain ⟨wd, hwd⟩ : ∃ wd : World, wd = w2.setCell ⟨wr.heap.size, 3, none⟩ (.slice K2 M kc2) := ⟨_, rfl⟩
      have rd : Row wd wr.heap.size 24 #[.int .i64 k, .string x, .int .i64 m, .slice K2 M kc2, .int .i64 p] := by rw [hwd]; have := rc.put 3 (.slice K2 M kc2); simpa using this
      have hvd : wd.ownsRow (wr.heap.size + 1) 3 1 (.slice K2 M kc2) M (intsC (midI z 0 ks)) := by
        rw [hwd, midI_0]
        exact ownsRow_setCell_below (own_mono hv2 (by omega)) (by show wr.heap.size < _; omega) _
      have bd : Below wr.heap.size wr wd := by rw [hwd]; exact (bb.trans (b2.mono (by omega))).setCell (Nat.le_refl _) _
      try rw [← hwd]
      clear hwd hv2 rc rcl rcf rcc r0 r1 r2 r3 r4 rb
      have s3 := rd.cell 3
      simp at s3
      have hO1 := Lib.hid hHO.out
      generalize hwo : wr = wo at *
      clear hwo
      go_wp2
      go_loopw [22] (fun t wi => ∃ j : Nat, j ≤ M ∧ t = .int .i64 (j : Int) ∧ Row wi wo.heap.size 24 #[.int .i64 k, .string x, .int .i64 m, .slice K2 M kc2, .int .i64 p] ∧ wi.ownsRow (wo.heap.size + 1) 3 1 (.slice K2 M kc2) M (intsC (midI z j ks)) ∧ Below wo.heap.size wo wi) (fun t _ => M - (intOf t).toNat)
      case atStart => exact ⟨0, Nat.zero_le _, rfl, rd, hvd, bd⟩
      case round =>
        generalize hwi : wr = wi at *
        clear hwi
        obtain ⟨j, hj, rfl, ri, hvi, bi⟩ := hrel
        have zi := Below.size bi
        have rl := ri.lt
        have i3 := ri.cell 3
        simp at i3
        by_cases hjl : j < M
        · have hjk : j < ks.length := by rw [HMM.out]; exact hjl
          obtain ⟨g2, cap2, hf2, hgb, hgl⟩ := hvi.form (by omega)
          injection hf2 with hA _ hcap
          subst hA hcap
          have hst := hvi.stored j (.int .i64 (IntKind.i64.wrap (ks.getD j 0 + z)))
          rw [midI_set z j ks hjk, IntWalk.i64_left] at hst
          have hst1 := Lib.hid hst.1
          have kcell := (hvi.cellAt j (by omega)).trans (midI_at z j ks hjk)
          have kfz := hvi.frozenAt j
          clear hst hvi
          generalize ks.getD j 0 = u at *
          go_wp2
          refine ⟨⟨j + 1, by omega, by go_num, ?_, hst1.out, ?_⟩, by simp [intOf]; omega⟩
          · exact ri.far (by simp; omega) _
          · exact bi.setCell (by show wo.heap.size ≤ g2; omega) _
        · obtain rfl : j = M := by omega
          have hvi2 : wi.ownsRow (wo.heap.size + 1) 3 1 (.slice K2 j kc2) j (intsC (ks.map fun k => IntKind.i64.wrap (k + z))) := by
            rw [← midI_all, HMM.out]; exact hvi
          have HV := Lib.hid hvi2
          have hO2 := hO1.out.below bi
          have hOr := hO2.row
          rw [hHL.out] at hOr
          have i0' := ri.cell 0
          have i1' := ri.cell 1
          have i2' := ri.cell 2
          have i4' := ri.cell 4
          simp at i0' i1' i2' i4'
          have hO3 := Lib.hid hO2
          clear hvi hvi2 hO2
          go_wp2_with (first
            | (at_builtin; refine wpList_append_own _ rfl _ _ 27 rfl w.heap.size 24 i0 _ 5 64 Tryd.underlying27 hi0 iz0 iz1 iz2 rfl (by decide) _ _ _ rfl (hOr.alloc _) ⟨wi.heap.size, 0, none⟩ 1 1 (ndC (⟨k, x, m, ks.map fun k => IntKind.i64.wrap (k + z), p⟩, .slice K2 j kc2)) rfl rfl (row5_lies (row_new rfl)) (ndC_one _ rfl) (by unfold maxLen; omega) (by omega) (by simp; omega) ?_; intro v3 w3 hown4 hg4 _; obtain ⟨A3, c3, rfl, _, _⟩ := own_slice hown4)
            | fail)
          have hOs := (OwnT.snoc (p := (⟨k, x, m, ks.map fun k => IntKind.i64.wrap (k + z), p⟩, .slice K2 j kc2)) (hO3.out.below ((Below.refl _ wi).alloc (Nat.le_refl _) _)) (by rw [hHL.out]; exact hown4) hg4 (by
              have h5 := own_mono (HV.out.alloc (.cells #[.int .i64 k, .string x, .int .i64 m, .slice K2 j kc2, .int .i64 p] 24)) (B := w.heap.size) (by omega)
              have e : (ks.map fun k => IntKind.i64.wrap (k + z)).length = j := by rw [List.length_map]; exact HMM.out
              show World.ownsRow _ _ _ _ _ (ks.map fun k => IntKind.i64.wrap (k + z)).length _
              rw [e]; exact h5) (shN_wide z (y := ⟨k, x, m, ks, p⟩) HW.out.1) (fun r hr g e1 e2 => by
              have := hO1.out.kids.lt r hr g e1
              have := own_ge HV.out g e2
              omega))
          refine ⟨⟨q + 1, l ++ [(⟨k, x, m, ks.map fun k => IntKind.i64.wrap (k + z), p⟩, .slice K2 j kc2)], by go_num, by omega, ?_, by simpa using hOs, ?_⟩, by simp [intOf]; omega⟩
          · refine Lib.hid ?_
            rw [hTk.out, List.map_append, HM.out]; rfl
          · exact ((hb.trans (bi.mono hz)).alloc (by omega) _).grown hg4 (by simp; omega) (fun g hg => own_ge hOr g hg)
    · obtain rfl : q = n := by omega
      have HMM := HM.out
      rw [List.take_of_length_le (by rw [HN.out]; exact Nat.le_refl _)] at HMM
      have HM2 := Lib.hid HMM
      clear HM HMM
      have hHO := Lib.hid hO
      clear hO
      go_wp2
      go_ret
      exact ⟨⟨_, l, rfl, hHO.out, HM2.out⟩, hb⟩
end
section
set_option linter.unusedVariables false
set_option linter.unusedSimpArgs false
set_option linter.unnecessarySimpa false
open Go.RowKit
attribute [local go_sem] cell_alloc_add cell_set_add lt_more
/-- How deep the nodes stand; nothing, if the tree is none. -/
def depsL (L : List Nd) : List Int := if (chk L).2 = 0 then deepL L else []
theorem depsL_len (L : List Nd) : (depsL L).length ≤ L.length := by
  unfold depsL
  split
  · rw [deepL_len]; exact Nat.le_refl _
  · exact Nat.zero_le _
theorem intsC_at {l : List Int} {j : Nat} (h : j < l.length) : (intsC l)[j]? = some (.int .i64 (l.getD j 0)) := ksV_get h
theorem intsC_set (l : List Int) (j : Nat) (z : Int) : (intsC l).set j (.int .i64 z) = intsC (l.set j z) := by simp [intsC, List.map_set]
theorem intsC_zero (n : Nat) : (madeCells (Value.int .i64 0).cells (n * 1)).toList = intsC (List.replicate n 0) := by
  rw [Nat.mul_one]
  show (madeCells #[Value.int .i64 0] n).toList = _
  rw [toList_madeCells_one]; simp [intsC]
theorem take_next {ks : List Int} {j : Nat} (h : j < ks.length) : ks.take (j + 1) = ks.take j ++ [ks.getD j 0] := by
  rw [List.take_succ_eq_append_getElem h]; simp [List.getD, h]
set_option maxRecDepth 100000 in
set_option maxHeartbeats 16000000 in
theorem Walk_any (A : Option Addr) (L : List Nd) (c : Nat) (hc : L.length ≤ c) (hm : c ≤ maxLen) (hL : L.length ≤ 2000000) (hx : ∀ j : Nat, (nd L j).x.size ≤ 4000000) (w : World) (h : TreeAt w w.heap.size A L) (hmx : Mx w) (hw00 : 0 < w.heap.size) :
    Calls Tryd.prog 26 #[.agg #[.slice A L.length c]] w fun e w' => (e = .returned (.func (.func 41) #[] #[.pointer (some ⟨w.heap.size + 1, 0, none⟩)]) ∧ ∃ v, Row w' (w.heap.size + 1) 22 #[v] ∧ w'.ownsRow (w.heap.size + 2) 3 1 v (depsL L).length (intsC (depsL L))) ∧ Below w.heap.size w w' := by
  obtain ⟨wa, hwa⟩ : ∃ wa : World, wa = (w.alloc (.cells #[.slice A L.length c] 29)).alloc (.cells #[.slice none 0 0] 22) := ⟨_, rfl⟩
  have bA : Below w.heap.size w wa := by rw [hwa]; exact (by (repeat (first | (with_reducible exact Below.refl _ _) | (with_reducible assumption) | (with_reducible refine Below.setCell ?_ (by first | omega | (simp <;> omega)) _) | (with_reducible refine Below.alloc ?_ (by first | omega | (simp <;> omega)) _) | (with_reducible refine Below.drew ?_) | (with_reducible refine below_drewN ?_ _) | (with_reducible refine Below.trans ?_ (Below.mono (by with_reducible assumption) (by first | omega | (simp <;> omega)))))))
  have zA : w.heap.size + 1 < wa.heap.size := by rw [hwa]; simp
  have rT : Row wa w.heap.size 29 #[.slice A L.length c] := by rw [hwa]; exact (row_new rfl).alloc _
  have rD : Row wa (w.heap.size + 1) 22 #[.slice none 0 0] := by rw [hwa]; exact row_new (by simp)
  have HC := Lib.hid (Check_any A L c hc hm (by omega) hx wa (h.later bA) (hmx.below bA hw00) (by omega))
  have HD := Lib.hid (show depsL L = if (chk L).2 = 0 then deepL L else [] from rfl)
  have HG := Lib.hid (fun e => (good_iff (L := L)).1 e)
  have hT := Lib.hid h
  have hm2 := Lib.hid hm
  obtain ⟨i0, hi0, iz0, iz1, iz2⟩ := info_parts infoInt
  clear h hmx
  unfold maxLen at hm
  generalize chk L = R at *
  obtain ⟨ra, re⟩ := R
  simp only at HC HD HG
  have t0 := rT.cell 0
  simp at t0
  by_cases h0 : re = 0
  · subst h0
    have hs := HG.out rfl
    have HS := Lib.hid hs
    have hD := HD.out
    rw [if_pos rfl] at hD
    have HDD := Lib.hid hD
    clear HG HD hD hs
    go_enter Tryd.func26, Tryd.ntmps26
    go_upto_region 2 with fail
    rw [← hwa]
    clear hwa
    go_upto_region 4 with (first
      | (go_at_call 16; (with_reducible refine HC.out.mono ?_); rintro e w1 ⟨rfl, b1⟩; have q1 := bA.trans (b1.mono (by omega)); have rT1 := rT.below b1 (by omega); have rD1 := rD.below b1 (by omega); have z1 := Below.size b1)
      | fail)
    have t1 := rT1.cell 0
    have d1 := rD1.cell 0
    have f1 := rD1.free 0
    simp at t1 d1
    have l1 := rD1.lt
    go_upto_region 5 with (first
      | (at_make; refine wpList_make_full _ rfl _ _ 22 rfl (w.heap.size + 2) 3 i0 _ 1 Tryd.underlying22 hi0 iz0 iz1 .i64 .i64 _ _ L.length rfl rfl rfl rfl (by rw [iz2]; omega) (by unfold maxLen; omega) (by omega) ?_; intro w2 hown2 hg2; have rD2 := row_grown rD1 hg2 (by simp); have rT2 := row_grown rT1 hg2 (by simp); have d2 := rD2.cell 0; have f2 := rD2.free 0; have l2 := rD2.lt; simp at d2)
      | fail)
    rw [intsC_zero] at hown2
    have b2 : Below w.heap.size w w2 := q1.grown hg2 (by omega) (fun k hk => by cases hk)
    obtain ⟨g, hg⟩ : ∃ g, g = w1.heap.size := ⟨_, rfl⟩
    rw [← hg] at hown2 ⊢
    obtain ⟨w3, hw3⟩ : ∃ w3, w3 = w2.setCell ⟨w.heap.size + 1, 0, none⟩ (.slice (some ⟨g, 0, none⟩) L.length L.length) := ⟨_, rfl⟩
    have hown3 : w3.ownsRow (w.heap.size + 2) 3 1 (.slice (some ⟨g, 0, none⟩) L.length L.length) L.length (intsC (List.replicate L.length 0)) := by
      rw [hw3]; exact ownsRow_setCell_below hown2 (by show w.heap.size + 1 < _; omega) _
    have rD3 : Row w3 (w.heap.size + 1) 22 #[.slice (some ⟨g, 0, none⟩) L.length L.length] := by rw [hw3]; exact row_put1 rD2 _
    have rT3 : Row w3 w.heap.size 29 #[.slice A L.length c] := by rw [hw3]; exact rT2.far (by simp) _
    have b3 : Below w.heap.size w w3 := by rw [hw3]; exact b2.setCell (by show w.heap.size ≤ w.heap.size + 1; omega) _
    have hgg : w.heap.size + 2 ≤ g := by omega
    try rw [← hw3]
    clear hw3 hg hown2 rD2 rT2 d2 f2 l2 b2 hg2 rD1 rT1 t1 d1 f1 l1 b1 q1 z1 rT rD t0
    have t3 := rT3.cell 0
    simp at t3
    go_wp2
    go_loopw [24] (fun t wr => ∃ q : Nat, q ≤ L.length ∧ t = .int .i64 (q : Int) ∧ Row wr (w.heap.size + 1) 22 #[.slice (some ⟨g, 0, none⟩) L.length L.length] ∧ wr.ownsRow (w.heap.size + 2) 3 1 (.slice (some ⟨g, 0, none⟩) L.length L.length) L.length (intsC (deepG L q)) ∧ Below w.heap.size w wr) (fun t _ => L.length - (intOf t).toNat)
    case atStart => exact ⟨0, Nat.zero_le _, rfl, rD3, hown3, b3⟩
    case round =>
      obtain ⟨q, hq, rfl, rD, hown, hb⟩ := hrel
      clear rD3 hown3 b3 rT3 t3
      generalize hwo : wr = wo at *
      clear hwo
      have hz := Below.size hb
      have ld := rD.lt
      by_cases hlt : q < L.length
      · obtain ⟨ad, rfl, hn⟩ := hT.out q hlt
        have hn2 := hn.keep (W' := wo) (fun p hp => hb.cell hp)
        have hb1 := hn2.blk
        have hbq : (ad.add (q * 5)).block < wo.heap.size := Nat.lt_of_lt_of_le hb1 hz
        have hba : ad.block < wo.heap.size := by rw [block_add] at hbq; exact hbq
        obtain ⟨K0, kc0, c0, c1, c2, c3, c4, hK0, hkk, hkm⟩ := node_open hn2
        have HK := Lib.hid (hK0)
        have HGK := Lib.hid (fun k hk => good_kid HS.out hlt k hk)
        have HDV := Lib.hid (show deepG L (q + 1) = setK (deepG L q) (nd L q).ks ((deepG L q).getD q 0 + 1) from rfl)
        have hdp0 : 0 ≤ (deepG L q).getD q 0 := by rw [← dp_at HS.out (by omega)]; exact dp_pos HS.out hlt
        have hdp1 : (deepG L q).getD q 0 ≤ q := by rw [← dp_at HS.out (by omega)]; exact dp_le HS.out q q (Nat.le_refl _) hlt
        have HLEN := Lib.hid (deepG_len L q)
        have HO := Lib.hid hown
        clear hn hn2 hK0 hown
        generalize nd L q = y at *
        obtain ⟨k, x, m, ks, p⟩ := y
        simp only at c0 c1 c2 c3 c4 hkk HGK HDV HK
        unfold maxLen at hkm
        generalize hMM : ks.length = M at *
        have HMM := Lib.hid hMM
        clear hMM
        generalize hdd : (deepG L q).getD q 0 = d at *
        have Hdd := Lib.hid hdd
        clear hdd
        go_wp2
        go_loopw [32] (fun t wi => ∃ j : Nat, j ≤ M ∧ t = .int .i64 (j : Int) ∧ Row wi (w.heap.size + 1) 22 #[.slice (some ⟨g, 0, none⟩) L.length L.length] ∧ wi.ownsRow (w.heap.size + 2) 3 1 (.slice (some ⟨g, 0, none⟩) L.length L.length) L.length (intsC (setK (deepG L q) (ks.take j) (d + 1))) ∧ Below w.heap.size wo wi) (fun t _ => M - (intOf t).toNat)
        case atStart => exact ⟨0, Nat.zero_le _, rfl, rD.alloc _, HO.out.alloc _, (Below.refl _ _).alloc (by omega) _⟩
        case round =>
          obtain ⟨j, hj, rfl, rDi, hoi, bi⟩ := hrel
          generalize hwi : wr = wi at *
          clear hwi
          have zi := Below.size bi
          have ldi := rDi.lt
          have e0 := rDi.cell 0
          simp at e0
          by_cases hjl : j < M
          · have hjk : j < ks.length := by rw [HMM.out]; exact hjl
            obtain ⟨kd, hKd, hkb, kcell0⟩ := HK.out j hjl
            subst hKd
            have kcell : wi.cell? (kd.add j) = some (.int .i64 (ks.getD j 0)) := (bi.cell (by rw [block_add]; exact hkb)).trans kcell0
            have HTK := Lib.hid (take_next hjk)
            obtain ⟨jn, hju, hj1, hj2⟩ := HGK.out _ (getD_mem hjk)
            rw [hju] at kcell HTK
            clear kcell0 hju
            have HLI := Lib.hid (show (setK (deepG L q) (ks.take j) (d + 1)).length = L.length by rw [setK_len, HLEN.out])
            have hgq : (setK (deepG L q) (ks.take j) (d + 1)).getD q 0 = d := by
              rw [setK_out _ _ _ _ (fun k hk => by
                obtain ⟨j', e1, e2, e3⟩ := HGK.out k (List.mem_of_mem_take hk)
                omega), Hdd.out]
            have cq := (hoi.cellAt q (by omega)).trans (intsC_at (by rw [HLI.out]; exact hlt))
            rw [hgq] at cq
            have cj := (hoi.cellAt jn (by omega)).trans (intsC_at (by rw [HLI.out]; exact hj2))
            have fj := hoi.frozenAt jn
            have hst := hoi.stored jn (.int .i64 (d + 1))
            rw [intsC_set] at hst
            have HST := Lib.hid hst.1
            have hg2 := (own_lt hoi) g rfl
            have hji : (jn : Int) < (L.length : Int) := by omega
            have hqi : (q : Int) < (L.length : Int) := by omega
            have hwr : IntKind.i64.wrap (d + 1) = d + 1 := by rw [IntKind.wrap_i64]; omega
            clear hst hoi hgq
            generalize (setK (deepG L q) (ks.take j) (d + 1)).getD jn 0 = dj at *
            go_wp2
            go_region
            all_goals go_wp2
            all_goals
              refine ⟨⟨j + 1, by omega, by go_num, rDi.far (by simp; omega) _, ?_, (bi.setCell (p := ⟨g, jn, none⟩) (by show w.heap.size ≤ g; omega) (.int .i64 (d + 1))).drew⟩, by simp [intOf]; omega⟩
              rw [HTK.out, setK_snoc, Int.toNat_natCast]
              exact HST.out
          · obtain rfl : j = M := by omega
            have HOI := Lib.hid hoi
            clear hoi
            go_wp2
            refine ⟨⟨q + 1, by omega, by go_num, rDi, ?_, hb.trans bi⟩, by simp [intOf]; omega⟩
            have := HOI.out
            rw [← HMM.out, List.take_length, ← HDV.out] at this
            exact this
      · obtain rfl : q = L.length := by omega
        have HO := Lib.hid hown
        clear hown
        go_wp2
        go_ret
        refine ⟨⟨rfl, _, rD, ?_⟩, hb⟩
        rw [HDD.out]
        have := HO.out
        show World.ownsRow _ _ _ _ _ (deepG L L.length).length (intsC (deepG L L.length))
        rw [deepG_len]
        exact this
  · have hre : (re == 0) = false := by simpa using h0
    have hD := HD.out
    rw [if_neg h0] at hD
    have HDD := Lib.hid hD
    clear HG HD hD
    go_enter Tryd.func26, Tryd.ntmps26
    go_upto_region 2 with fail
    rw [← hwa]
    clear hwa
    go_wp2_with (first
      | (go_at_call 16; (with_reducible refine HC.out.mono ?_); rintro e w1 ⟨rfl, b1⟩; have q1 := bA.trans (b1.mono (by omega)); have rT1 := rT.below b1 (by omega); have rD1 := rD.below b1 (by omega); have z1 := Below.size b1)
      | fail)
    go_ret
    refine ⟨⟨rfl, _, rD1, ?_⟩, q1⟩
    rw [HDD.out]
    exact World.ownsRow_nil _ _ _ _
end
section
set_option linter.unusedVariables false
set_option linter.unusedSimpArgs false
set_option linter.unnecessarySimpa false
open Go.RowKit
attribute [local go_sem] cell_alloc_add cell_set_add lt_more Oper.semAt_some
/-- These numbers lie at A. -/
def RdD (W : World) (A : Option Addr) (D : List Int) : Prop := ∀ j, j < D.length → ∃ ad, A = some ad ∧ W.cell? (ad.add j) = some (.int .i64 (D.getD j 0))
set_option maxRecDepth 100000 in
set_option maxHeartbeats 4000000 in
theorem Walk1_call (F : FuncId) (caps : Array Value) (Bs : Nat) (D : List Int) (n : Nat) (hn : D.length = n) (hnb : n ≤ 2000000) (A : Option Addr) (c : Nat) (hnc : n ≤ c) (hcm : c ≤ maxLen) (J Jx : Nat → World → Prop)
    (hF : ∀ args w, (callFunc F args).run Tryd.prog w = .ok (.enter F args) w) (hJR : ∀ q W, J q W → RdD W A D)
    (hY : ∀ q W, q < n → J q W → Calls Tryd.prog F (#[.int .i64 (q : Int), .int .i64 (D.getD q 0)] ++ caps) W fun e W' => (e = .returned (.bool true) ∧ J (q + 1) W') ∨ (e = .returned (.bool false) ∧ Jx (q + 1) W'))
    (W : World) (hc : W.cell? ⟨Bs, 0, none⟩ = some (.slice A n c)) (h0 : J 0 W) :
    Calls Tryd.prog 41 #[.func (.func F) #[] caps, .pointer (some ⟨Bs, 0, none⟩)] W fun e W' => (∃ v, e = .returned v) ∧ (J n W' ∨ (∃ q, 0 < q ∧ q ≤ n ∧ Jx q W')) := by
  have HN := Lib.hid hn
  have HR := Lib.hid hJR
  clear hn hJR
  unfold maxLen at hcm
  go_enter Tryd.func41, Tryd.ntmps41
  go_wp2
  go_loopw [7] (fun t wr => ∃ q : Nat, q ≤ n ∧ t = .int .i64 (q : Int) ∧ J q wr) (fun t _ => n - (intOf t).toNat)
  case atStart => exact ⟨0, Nat.zero_le _, rfl, h0⟩
  case round =>
    obtain ⟨q, hq, rfl, hj⟩ := hrel
    by_cases hlt : q < n
    · obtain ⟨ad, rfl, hcell⟩ := HR.out q wr hj q (by rw [HN.out]; exact hlt)
      have HYq := Lib.hid (hY q wr hlt hj)
      generalize D.getD q 0 = d at *
      go_wp2_with (first
        | ((with_reducible refine HYq.out.mono ?_); rintro e W3 (⟨rfl, hJ3⟩ | ⟨rfl, hJx3⟩))
        | fail)
      · exact ⟨⟨q + 1, by omega, by go_num, hJ3⟩, by simp [intOf]; omega⟩
      · refine bodyPost_ret (results_none rfl _ _ _) rfl ?_
        exact ⟨⟨_, rfl⟩, .inr ⟨q + 1, by omega, by omega, hJx3⟩⟩
    · obtain rfl : q = n := by omega
      go_wp2
      go_end0
      exact ⟨⟨_, rfl⟩, .inl hj⟩
/-- The first q places. -/
def fins (n : Nat) : Nat → List (Fin n)
  | 0 => []
  | q + 1 => if h : q < n then fins n q ++ [⟨q, h⟩] else fins n q
theorem fins_step {n q : Nat} (h : q < n) : fins n (q + 1) = fins n q ++ [⟨q, h⟩] := by
  show (if h : q < n then _ else _) = _; rw [dif_pos h]
theorem fins_len {n : Nat} : ∀ q, q ≤ n → (fins n q).length = q
  | 0, _ => rfl
  | q + 1, h => by rw [fins_step (by omega), List.length_append, fins_len q (by omega)]; rfl
def encD (D : List Int) (n : Nat) (x : Fin n) : Array Value := #[.int .i64 (x.1 : Int), .int .i64 (D.getD x.1 0)]
/-- The numbers stand. -/
def KeepD (A : Option Addr) (n : Nat) (W W' : World) : Prop := ∀ j, j < n → ∀ ad v, A = some ad → W.cell? (ad.add j) = some v → W'.cell? (ad.add j) = some v
theorem keepD_t {A : Option Addr} {n : Nat} {W1 W2 W3 : World} (h : KeepD A n W1 W2) (k : KeepD A n W2 W3) : KeepD A n W1 W3 := fun j hj ad v e hv => k j hj ad v e (h j hj ad v e hv)
theorem rdD_keep {W W' : World} {A : Option Addr} {D : List Int} {n : Nat} (h : RdD W A D) (hn : D.length = n) (k : KeepD A n W W') : RdD W' A D := fun j hj => by
  obtain ⟨ad, e, hc⟩ := h j hj
  exact ⟨ad, e, k j (by omega) ad _ e hc⟩
theorem cell_keptA {W W' : World} {row : Option Nat} {p : Addr} {v : Value} (hv : W.cell? p = some v) (hg : W.grownBy W' row) (hr : ∀ r, row = some r → ∃ o : Obj, W.heap[r]? = some o ∧ o.isCells = false) : W'.cell? p = some v := by
  have hlt := World.block_lt_of_cell? W p hv
  refine (World.cell?_of_block (hg.block p.block hlt (fun e => ?_))).trans hv
  obtain ⟨o, ho, hi⟩ := hr _ e.symm
  unfold World.cell? at hv
  rw [ho] at hv
  cases o <;> simp [Obj.isCells] at hi hv
theorem keepD_b {A : Option Addr} {n : Nat} {w : World} (W : World) (l : Nat) (o o' : Obj) (_ : w.heap.size ≤ l) (h : W.heap[l]? = some o) (ho : o.isCells = false) (_ : o.isWalk = false) : KeepD A n W (W.putObj l o') := fun j hj ad v e hv =>
  cell_keptA hv (grownBy_putObj' _ l o') (fun r e => by cases e; exact ⟨_, h, ho⟩)
theorem keepD_below {A : Option Addr} {n B : Nat} {W W' : World} (h : Below B W W') (hA : ∀ ad, A = some ad → ad.block < B) : KeepD A n W W' := fun j hj ad v e hv =>
  (h.cell (by rw [block_add]; exact hA ad e)).trans hv
set_option maxRecDepth 100000 in
set_option maxHeartbeats 4000000 in
theorem Walk1_in (m : Nat) (hm1 : 1 ≤ m) (l Bs : Nat) (D : List Int) (n : Nat) (hn : D.length = n) (hnb : n ≤ 2000000) (A : Option Addr) (c : Nat) (hnc : n ≤ c) (hcm : c ≤ maxLen) (J Jx : List (Fin n) → World → Prop)
    (hY : ∀ pre x W, J pre W → pre.length < n → YieldAt Fence.wide (m - 1) Tryd.prog l (encD D n x) W fun e W' =>
      (e = .returned (.bool true) ∧ J (pre ++ [x]) W' ∧ KeepD A n W W') ∨ (e = .returned (.bool false) ∧ Jx (pre ++ [x]) W'))
    (W : World) (hc : W.cell? ⟨Bs, 0, none⟩ = some (.slice A n c)) (hr : RdD W A D) (h0 : J [] W) :
    CallsIn Fence.wide m Tryd.prog 41 #[.func (.yield l) #[] #[], .pointer (some ⟨Bs, 0, none⟩)] W fun e W' => (∃ v, e = .returned v) ∧
      ((∃ ys, ys = fins n n ∧ J ys W') ∨ (∃ pre, (∃ q, 0 < q ∧ q ≤ n ∧ pre = fins n q) ∧ Jx pre W')) := by
  have HN := Lib.hid hn
  clear hn
  unfold maxLen at hcm
  refine callsIn_of_wp Tryd.func41 rfl trivial ?_ rfl
  simp only [Tryd.ntmps41, List.size_toArray, List.length_cons, List.length_nil, Nat.reduceAdd, Nat.reduceSub, Array.replicate_succ, Array.replicate_zero, List.push_toArray, List.append_toArray, List.nil_append, List.cons_append]
  gi_wp2
  gi_loopw [7] (fun t wr => ∃ q : Nat, q ≤ n ∧ t = .int .i64 (q : Int) ∧ J (fins n q) wr ∧ RdD wr A D) (fun t _ => n - (intOf t).toNat)
  case atStart => exact ⟨0, Nat.zero_le _, rfl, h0, hr⟩
  case round =>
    obtain ⟨q, hq, rfl, hj, hrd⟩ := hrel
    by_cases hlt : q < n
    · have hrd2 := Lib.hid hrd
      obtain ⟨ad, rfl, hcell⟩ := hrd q (by rw [HN.out]; exact hlt)
      obtain ⟨fn, tmps, assign, body, hy, hR⟩ := hY (fins n q) ⟨q, hlt⟩ wr hj (by rw [fins_len q hq]; exact hlt)
      dsimp only [encD] at hy
      clear hrd
      generalize D.getD q 0 = d at *
      gi_wp2
      all_goals
        refine hR.mono ?_
        rintro e W3 (⟨rfl, hJ3, hk3⟩ | ⟨rfl, hJx3⟩)
        · have hrd3 := rdD_keep hrd2.out HN.out hk3
          gi_wp2
          go_roundw
          case rel => exact ⟨q + 1, by omega, by go_num, by rw [fins_step hlt]; exact hJ3, hrd3⟩
          case measure => simp [intOf]; omega
        · gi_wp2
          refine bodyPost_ret (results_none rfl _ _ _) rfl ?_
          exact ⟨⟨_, rfl⟩, .inr ⟨fins n (q + 1), ⟨q + 1, by omega, by omega, rfl⟩, by rw [fins_step hlt]; exact hJx3⟩⟩
    · obtain rfl : q = n := by omega
      gi_wp2
      go_end0
      exact ⟨⟨_, rfl⟩, .inl ⟨_, rfl, hj⟩⟩
theorem Walk1_stops (m : Nat) (hm1 : 1 ≤ m) (Bs : Nat) (D : List Int) (n : Nat) (hn : D.length = n) (hnb : n ≤ 2000000) (A : Option Addr) (c : Nat) (hnc : n ≤ c) (hcm : c ≤ maxLen) (w : World) (hc : w.cell? ⟨Bs, 0, none⟩ = some (.slice A n c)) (hr : RdD w A D) (hA : ∀ ad, A = some ad → ad.block < w.heap.size) :
    SeqStopsK Fence.wide m Tryd.prog 41 #[.pointer (some ⟨Bs, 0, none⟩)] (encD D n) (KeepD A n) (fun ys => ys = fins n n) (fun pre => ∃ q, 0 < q ∧ q ≤ n ∧ pre = fins n q) n w := fun l J Jx W hW _ _ hY h0 =>
  Walk1_in m hm1 l Bs D n hn hnb A c hnc hcm J Jx hY W ((hW.cell (p := ⟨Bs, 0, none⟩) (World.block_lt_of_cell? w _ hc)).trans hc) (rdD_keep hr hn (keepD_below hW hA)) h0
end
section
set_option linter.unusedVariables false
set_option linter.unusedSimpArgs false
set_option linter.unnecessarySimpa false
open Go.RowKit
theorem max_run {P : Program} {w : World} (ts : Array TypeId) (t : TypeId) (k k' : IntKind) (x y : Int) : (Builtin.max_ ts t #[.int k x, .int k' y]).run P w = .ok (.int k (max x y)) w := by
  rw [run_max_int2]; congr 2; simp only [Int.max_def]; split <;> split <;> omega
attribute [local go_sem high] max_run
attribute [local go_sem] cell_alloc_add cell_set_add lt_more Oper.semAt_some
/-- The greatest of the first q numbers; 0, if none is greater. -/
def maxD (D : List Int) : Nat → Int
  | 0 => 0
  | q + 1 => max (maxD D q) (D.getD q 0)
def maxF (D : List Int) (n : Nat) (l : List (Fin n)) : Int := l.foldl (fun m x => max m (D.getD x.1 0)) 0
theorem maxF_snoc (D : List Int) (n : Nat) (l : List (Fin n)) (x : Fin n) : maxF D n (l ++ [x]) = max (maxF D n l) (D.getD x.1 0) := by simp [maxF]
theorem maxF_fins (D : List Int) (n : Nat) : ∀ q, q ≤ n → maxF D n (fins n q) = maxD D q
  | 0, _ => rfl
  | q + 1, h => by rw [fins_step (by omega), maxF_snoc, maxF_fins D n q (by omega)]; rfl
/-- How deep the deepest node stands. -/
def depthL (L : List Nd) : Int := maxD (depsL L) (depsL L).length
theorem rdD_own {W : World} {base : Nat} {D : List Int} {A : Option Addr} {c : Nat} (h : W.ownsRow base 3 1 (.slice A D.length c) D.length (intsC D)) : RdD W A D := fun j hj => by
  have hr : Rd W W.heap.size A D.length (ksV D) := Rd.of_own h (fun j hj => ksV_get hj)
  obtain ⟨ad, e, _, hcell⟩ := hr j hj
  exact ⟨ad, e, hcell⟩
set_option maxRecDepth 100000 in
set_option maxHeartbeats 4000000 in
theorem Depth_in (A : Option Addr) (L : List Nd) (c : Nat) (hc : L.length ≤ c) (hm : c ≤ maxLen) (hL : L.length ≤ 2000000) (hx : ∀ j : Nat, (nd L j).x.size ≤ 4000000) (w : World) (h : TreeAt w w.heap.size A L) (hmx : Mx w) (hw00 : 0 < w.heap.size) :
    CallsIn Fence.wide 10 Tryd.prog 18 #[.agg #[.slice A L.length c]] w fun e w' => e = .returned (.int .i64 (depthL L)) ∧ Below w.heap.size w w' := by
  obtain ⟨wa, hwa⟩ : ∃ wa : World, wa = (w.alloc (.cells #[.slice A L.length c] 29)).alloc (.cells #[.int .i64 0] 3) := ⟨_, rfl⟩
  have bA : Below w.heap.size w wa := by rw [hwa]; exact (by (repeat (first | (with_reducible exact Below.refl _ _) | (with_reducible assumption) | (with_reducible refine Below.setCell ?_ (by first | omega | (simp <;> omega)) _) | (with_reducible refine Below.alloc ?_ (by first | omega | (simp <;> omega)) _) | (with_reducible refine Below.drew ?_) | (with_reducible refine below_drewN ?_ _) | (with_reducible refine Below.trans ?_ (Below.mono (by with_reducible assumption) (by first | omega | (simp <;> omega)))))))
  have zA : w.heap.size + 2 ≤ wa.heap.size := by rw [hwa]; simp
  have rM : Row wa (w.heap.size + 1) 3 #[.int .i64 0] := by rw [hwa]; exact row_new (by simp)
  have rT : Row wa w.heap.size 29 #[.slice A L.length c] := by rw [hwa]; exact (row_new rfl).alloc _
  have HW := Lib.hid (Walk_any A L c hc hm hL hx wa (h.later bA) (hmx.below bA hw00) (by omega))
  have hdl := depsL_len L
  have HDL := Lib.hid (show depthL L = maxD (depsL L) (depsL L).length from rfl)
  clear h hmx
  generalize depsL L = D at *
  generalize depthL L = R at *
  generalize hDn : D.length = n at *
  have HN := Lib.hid hDn
  clear hDn
  have t0 := rT.cell 0
  simp at t0
  refine callsIn_of_wp_marks Tryd.func18 rfl trivial ?_ rfl
  simp only [Tryd.ntmps18, List.size_toArray, List.length_cons, List.length_nil, Nat.reduceAdd, Nat.reduceSub, Array.replicate_succ, Array.replicate_zero, List.push_toArray, List.append_toArray, List.nil_append, List.cons_append]
  gi_upto_region 2 with fail
  rw [← hwa]
  clear hwa
  gi_wp2_with (refine ⟨trivial, ?_⟩; gi_at_call 26; (with_reducible refine (callsIn_wide.2 HW.out).mono ?_); rintro e W0 ⟨⟨rfl, v, rD, hown⟩, b0⟩)
  have rM0 := rM.below b0 (by omega)
  have bW := bA.trans (b0.mono (by omega))
  have hrd : RdD W0 (match v with | .slice A _ _ => A | _ => none) D := by
    obtain ⟨A1, c1, rfl, _, _⟩ := own_slice hown
    have h2 := hown
    rw [← HN.out] at h2
    exact rdD_own h2
  have hge := own_ge hown
  obtain ⟨A1, c1, rfl, hc1, hm1⟩ := own_slice hown
  simp only at hrd
  have hlt := own_lt hown
  have hA1 : ∀ ad, A1 = some ad → wa.heap.size + 2 ≤ ad.block ∧ ad.block < W0.heap.size := fun ad e => by
    subst e
    rcases hown.2 with ⟨hv, _⟩ | ⟨g, cap, cur, hv, hb, hh, _⟩
    · cases hv
    · injection hv with hv _ _
      injection hv with hv
      subst hv
      exact ⟨hb, lt_of_block hh⟩
  have hz0 := Below.size b0
  have cD := rD.cell 0
  simp at cD
  clear rM rT t0 HW b0 rD
  apply wpIn_rangeFunc_ownF (F := Fence.wide) (n := 10) rfl (by decide) (gf := 41) (lb := #[.pointer (some ⟨wa.heap.size + 1, 0, none⟩)]) rfl trivial (enters_of Tryd.func41 (by kernel_rfl) rfl)
    (Walk1_stops (10 - 1) (by decide) (wa.heap.size + 1) D n HN.out (by omega) A1 c1 hc1 hm1 W0 cD hrd (fun ad e => (hA1 ad e).2)) keepD_t (keepD_b (w := W0)) (Below.refl _ _) (fun _ => rfl)
    (fun pre W => Row W (w.heap.size + 1) 3 #[.int .i64 (maxF D n pre)] ∧ Below w.heap.size w W)
    (fun _ _ _ => False)
    (fun p A B row hs hg hr => ⟨row_own hs.1 hg (fun r e => (hr r e).2), ownFrom_below (β := Unit) (Nat.le_refl _) (by omega) () A B row hs.2 hg hr⟩)
    (fun _ _ _ _ _ hs _ _ => hs)
    ⟨rM0, bW⟩ _
  case hassign =>
    intro l x W K hK
    dsimp only [encD]
    gi_wp2
    exact hK
  case hstop =>
    rintro D c pre W hD hpre h
    exact h.elim
  case hbody =>
    rintro l pre x W ⟨hI, hB⟩ hlen
    have hz := hB.size
    have c0 := hI.cell 0
    have f0 := hI.free 0
    have l0 := hI.lt
    simp at c0
    gi_wp2
    refine ⟨KeepsOthers.setCell _ _ _, ?_, ?_, hB.setCell (p := ⟨w.heap.size + 1, 0, none⟩) (by simp) _⟩
    · intro j hj ad v e hv
      rw [World.cell?_setCell_other _ _ _ _ (fun e2 => by have := congrArg Addr.block e2; rw [block_add] at this; simp at this; have := (hA1 ad e).1; omega)]
      exact hv
    · rw [maxF_snoc]; exact row_put1 hI _
  case hdone =>
    rintro D2 xs W hD rfl ⟨hI, hB⟩ hK
    rw [maxF_fins D n n (Nat.le_refl _), ← HDL.out] at hI
    have c0 := hI.cell 0
    have l0 := hI.lt
    simp at c0
    gi_wp2
    refine ⟨by simp, .inl ⟨_, _, rfl, run_takeDeferred hK, ?_⟩⟩
    exact ⟨_, results_tmp rfl _ _ _, rfl, hB.trans (belowK_b (w := w) (Nat.le_refl _) _ D2 _ _ (by omega) hK rfl rfl)⟩
theorem Depth_any (A : Option Addr) (L : List Nd) (c : Nat) (hc : L.length ≤ c) (hm : c ≤ maxLen) (hL : L.length ≤ 2000000) (hx : ∀ j : Nat, (nd L j).x.size ≤ 4000000) (w : World) (h : TreeAt w w.heap.size A L) (hmx : Mx w) (hw00 : 0 < w.heap.size) :
    Calls Tryd.prog 18 #[.agg #[.slice A L.length c]] w fun e w' => e = .returned (.int .i64 (depthL L)) ∧ Below w.heap.size w w' :=
  callsIn_wide.1 (Depth_in A L c hc hm hL hx w h hmx hw00)
end
end Go.Proofs.YtjaijlkonkgnmaaDoor
