/- The walk of chapter 3's laws' own: spoil. -/
import Derived.Test.YtjaijlkonkgnmaaDoorHLt
import Derived.Test.YtjaijlkonkgnmaaDoorHBA
namespace Go.Proofs.YtjaijlkonkgnmaaDoor
set_option linter.unusedVariables false
set_option linter.unusedSimpArgs false
set_option linter.unnecessarySimpa false
open Go.RowKit
attribute [local go_sem] cell_alloc_add cell_set_add lt_more
theorem ndsC_set1 : ∀ (l : List NdV) (j : Nat) (y : Nd) (s : Value) (z : ByteArray), l[j]? = some (y, s) → (ndsC l).set (j * 5 + 1) (.string z) = ndsC (l.set j (⟨y.k, z, y.m, y.ks, y.p⟩, s))
  | [], j, y, s, z, h => by simp at h
  | q :: l, 0, y, s, z, h => by
    simp at h; subst h
    simp [ndsC, ndC]
  | q :: l, j + 1, y, s, z, h => by
    simp at h
    show (ndC q ++ ndsC l).set ((j + 1) * 5 + 1) (.string z) = ndC q ++ ndsC (l.set j (⟨y.k, z, y.m, y.ks, y.p⟩, s))
    rw [← ndsC_set1 l j y s z h, List.set_append, if_neg (by simp [ndC]; omega)]
    congr 2
    simp [ndC]; omega
theorem node_new (W : World) (k : Int) : ∀ j u, (ndsC [((⟨k, ⟨#[]⟩, 0, [], 0⟩ : Nd), .slice none 0 0)])[j]? = some u → (W.alloc (.cells #[.int .i64 k, .string ⟨#[]⟩, .int .i64 0, .slice none 0 0, .int .i64 0] 24)).cell? ((⟨W.heap.size, 0, none⟩ : Addr).add j) = some u := by
  intro j u hu
  have h := (row_new (w := W) (t := 24) (cs := #[.int .i64 k, .string ⟨#[]⟩, .int .i64 0, .slice none 0 0, .int .i64 0]) rfl).cell j
  rw [add_row, Nat.zero_add, h, ← hu]
  simp [ndsC, ndC]
theorem Kids.tail {W : World} {base : Nat} {p : NdV} {l : List NdV} (h : Kids W base (p :: l)) : Kids W base l :=
  ⟨fun q hq => h.row q (by simp [hq]), (List.pairwise_cons.1 h.apart).2, fun q hq => h.wide q (by simp [hq])⟩
set_option maxRecDepth 100000 in
set_option maxHeartbeats 16000000 in
theorem spoil_any (A : Option Addr) (l : List NdV) (n c : Nat) (hn : l.length = n) (hL : n ≤ 1000000) (base : Nat) (hks : ∀ p ∈ l, p.1.ks.length ≤ 1000000000000) (w : World) (h : OwnT w base (.slice A n c) l) (hB : base ≤ w.heap.size) :
    Calls Tryd.prog 13 #[.agg #[.slice A n c]] w fun e w' => (∃ v, e = .returned v) ∧ Below base w w' := by
  obtain ⟨i0, hi0, iz0, iz1, iz2⟩ := info_parts infoNode
  obtain ⟨j0, hj0, jz0, jz1, jz2⟩ := info_parts infoInt
  obtain ⟨wa, hwa⟩ : ∃ wa : World, wa = w.alloc (.cells #[.slice A n c] 29) := ⟨_, rfl⟩
  have bA : Below base w wa := by rw [hwa]; exact (Below.refl _ _).alloc hB _
  have zA : w.heap.size < wa.heap.size := by rw [hwa]; simp
  have rT : Row wa w.heap.size 29 #[.slice A n c] := by rw [hwa]; exact row_new rfl
  have hr0 := h.row
  rw [hn] at hr0
  obtain ⟨A', c', e, hcn, hcm⟩ := own_slice hr0
  injection e with e1 e2 e3
  subst e1 e3
  clear e2
  have HR := Lib.hid (show wa.ownsRow base 24 5 (.slice A n c) n (ndsC ([] ++ l.drop 0)) from by rw [hwa]; exact hr0.alloc _)
  have HK := Lib.hid (show Kids wa base (l.drop 0) from by rw [hwa]; exact h.kids.below ((Below.refl _ _).alloc (Nat.le_refl _) _))
  have HN := Lib.hid hn
  have HKS := Lib.hid hks
  unfold maxLen at hcm
  have t0 := rT.cell 0
  simp at t0
  clear h hn hks hr0
  go_enter Tryd.func13, Tryd.ntmps13
  go_upto_region 1 with fail
  rw [← hwa]
  clear hwa
  go_wp2
  go_loopw [2] (fun t wr => ∃ (q : Nat) (l1 : List NdV), t = .int .i64 (q : Int) ∧ q ≤ n ∧ Hid (l1.length = q) ∧ Hid (wr.ownsRow base 24 5 (.slice A n c) n (ndsC (l1 ++ l.drop q))) ∧ Hid (Kids wr base (l.drop q)) ∧ Row wr w.heap.size 29 #[.slice A n c] ∧ Below base w wr) (fun t _ => n - (intOf t).toNat)
  case atStart => exact ⟨0, [], rfl, Nat.zero_le _, Lib.hid rfl, HR, HK, rT, bA⟩
  case round =>
    obtain ⟨q, l1, rfl, hq, HLL, HO, HKI, rTo, hb⟩ := hrel
    clear rT bA HR HK t0
    generalize hwo : wr = wo at *
    clear hwo
    have hz := Below.size hb
    have lT := rTo.lt
    have t0 := rTo.cell 0
    simp at t0
    by_cases hlt : q < n
    · have hql : q < l.length := by rw [HN.out]; exact hlt
      have hd : l.drop q = l[q] :: l.drop (q + 1) := List.drop_eq_getElem_cons hql
      rcases hp0 : l[q] with ⟨y, S⟩
      rw [hp0] at hd
      have hown := HO.out
      rw [hd] at hown
      have hkid := HKI.out
      rw [hd] at hkid
      obtain ⟨g, rfl, hg1, hg2⟩ := own_form5 hown (by omega)
      have hat : (l1 ++ (y, S) :: l.drop (q + 1))[q]? = some (y, S) := by
        rw [List.getElem?_append_right (by rw [HLL.out]; exact Nat.le_refl _), HLL.out, Nat.sub_self]; rfl
      have hks0 := HKS.out (y, S) (by rw [← hp0]; exact List.getElem_mem hql)
      have n3 := (hown.cellAt (q * 5 + 3) (by omega)).trans (ndsC_at _ q _ hat 3 (by omega))
      have hSo : wo.ownsRow base 3 1 S y.ks.length (intsC y.ks) := hkid.row (y, S) (by simp)
      obtain ⟨AS, cS, rfl, hcS, hmS⟩ := own_slice hSo
      replace n3 : wo.cell? ⟨g, q * 5 + 3, none⟩ = some (.slice AS y.ks.length cS) := n3
      have hapart := Lib.hid (List.pairwise_cons.1 hkid.apart).1
      have hne := Lib.hid (own_two hown hSo ne_ND)
      have hneR := Lib.hid (row_ne rTo hSo (by decide))
      have HSO := Lib.hid hSo
      have HOW := Lib.hid hown
      have HKT := Lib.hid hkid.tail
      have HAT := Lib.hid hat
      have hz' : base ≤ wo.heap.size := by omega
      clear hd hp0 hown hkid hat hSo
      simp only at hks0 hcS
      generalize hm0 : y.ks.length = m at *
      clear hm0
      unfold maxLen at hmS
      go_upto_region 5 with (first
        | (at_builtin; refine wpList_append_rd _ rfl (.tmp 19) (.tmp 20) 22 rfl base 3 j0 _ 8 Tryd.underlying22 hj0 jz0 jz1 jz2 rfl (.slice AS m cS) m (intsC y.ks) rfl (HSO.out.alloc _) _ _ 1 1 _ rfl (rd_one wo 3 (.int .i64 99)) (fun _ => rfl) (by unfold maxLen; omega) (by omega) (by simp; omega) ?_; intro v2 w2 own2 hg2' hob2)
        | fail)
      obtain ⟨A2, c2, rfl, hc2, hm2⟩ := own_slice own2
      obtain ⟨g2, rfl, hg21, hg22⟩ := own_form5 own2 (by omega)
      have bw2 : Below base wo w2 := Below.grown ((Below.refl _ _).alloc hz' _) hg2' (by simp; omega) (fun k hk => own_ge HSO.out k hk)
      have hn2 : w2.ownsRow base 24 5 (.slice (some ⟨g, 0, none⟩) n c) n (ndsC (l1 ++ (y, .slice AS m cS) :: l.drop (q + 1))) := own_grown (HOW.out.alloc _) hg2' (fun b e e2 => hne.out b e2 e)
      have hk2 : Kids w2 base (l.drop (q + 1)) := by
        refine ⟨fun p hp => own_grown ((HKT.out.row p hp).alloc _) hg2' (fun b e e2 => hapart.out p hp b e2 e), HKT.out.apart, HKT.out.wide⟩
      have hT2 : Row w2 w.heap.size 29 #[.slice (some ⟨g, 0, none⟩) n c] := row_grown (rTo.alloc _) hg2' hneR.out
      have hgg : g ≠ g2 := fun e => own_two hn2 own2 ne_ND g2 (by simp [Value.ownBlock]) (by rw [e]; rfl)
      have htg : w.heap.size ≠ g2 := fun e => row_ne hT2 own2 (by decide) (by rw [e]; rfl)
      have hkg : ∀ p ∈ l.drop (q + 1), p.2.ownBlock ≠ some g2 := fun p hp e => by
        rcases hob2 with e2 | e2
        · exact hapart.out p hp g2 (by rw [← e2]; rfl) e
        · injection e2 with e2
          have := own_lt (HKT.out.row p hp) g2 e
          simp at e2
          omega
      have HN2 := Lib.hid hn2
      have HK2 := Lib.hid hk2
      have HOW2 := Lib.hid own2
      have HKG := Lib.hid hkg
      have b2 := hb.trans bw2
      have hm1 : ((m + 1 : Nat) : Int) = (m : Int) + 1 := by omega
      have HM1 := Lib.hid hm1
      clear hn2 hk2 hkg hm1 hob2 hg2' own2 HSO HOW HKT HO HKI n3 t0 hne hneR hapart bw2
      unfold maxLen at hm2
      go_wp2
      go_loopw [4] (fun t wi => ∃ j : Nat, t = .int .i64 (j : Int) ∧ j ≤ m + 1 ∧ Hid (∃ xs, wi.ownsRow base 3 1 (.slice (some ⟨g2, 0, none⟩) (m + 1) c2) (m + 1) xs) ∧ Hid (w2.grownBy wi (some g2)) ∧ Below base w2 wi) (fun t _ => m + 1 - (intOf t).toNat)
      case atStart => exact ⟨0, rfl, Nat.zero_le _, Lib.hid ⟨_, HOW2.out⟩, Lib.hid (World.grownBy.refl _ _), Below.refl _ _⟩
      case round =>
        obtain ⟨j, rfl, hj, HXS, HGB, bi⟩ := hrel
        generalize hwi : wr = wi at *
        clear hwi
        have zi := Below.size bi
        obtain ⟨xs, hxs⟩ := HXS.out
        by_cases hjm : j < m + 1
        · have hxl : xs.length = m + 1 := by have := hxs.1; simpa using this
          have kc := hxs.cellAt j (by omega)
          rw [List.getElem?_eq_getElem (by omega)] at kc
          have kf := hxs.frozenAt j
          have hst := hxs.stored j (.int .i64 98)
          have HST := Lib.hid hst
          have hji : (j : Int) < ((m + 1 : Nat) : Int) := by omega
          have hg2i : g2 < wi.heap.size := by omega
          clear hst hxs
          generalize xs[j] = xv at *
          go_wp2
          exact ⟨⟨j + 1, by go_num, by omega, Lib.hid ⟨_, HST.out.1⟩, Lib.hid (HGB.out.trans HST.out.2), bi.setCell (by show base ≤ g2; omega) _⟩, by simp [intOf]; omega⟩
        · obtain rfl : j = m + 1 := by omega
          have hni := own_grown HN2.out HGB.out (fun b e e2 => by
            simp [Value.ownBlock] at e
            injection e2 with e2
            omega)
          have hki : Kids wi base (l.drop (q + 1)) := ⟨fun p hp => own_grown (HK2.out.row p hp) HGB.out (fun b e e2 => HKG.out p hp (e2 ▸ e)), HK2.out.apart, HK2.out.wide⟩
          have rTi := row_grown hT2 HGB.out (by intro e; injection e with e; omega)
          have t1 := rTi.cell 0
          simp at t1
          have lTi := rTi.lt
          have nc := (hni.cellAt (q * 5 + 1) (by omega)).trans (ndsC_at _ q _ HAT.out 1 (by omega))
          replace nc : wi.cell? ⟨g, q * 5 + 1, none⟩ = some (.string y.x) := nc
          have nf := hni.frozenAt (q * 5 + 1)
          have hst := (hni.stored (q * 5 + 1) (.string ⟨#[115, 112, 111, 105, 108, 116]⟩)).1
          rw [ndsC_set1 _ q y _ _ HAT.out, List.set_append, if_neg (by rw [HLL.out]; omega), HLL.out, Nat.sub_self] at hst
          have HST := Lib.hid hst
          have HNI := Lib.hid hni
          have HKI := Lib.hid hki
          have hgi : g < wi.heap.size := (own_lt hni) g rfl
          clear hst hni hki hxs HXS
          go_wp2
          refine ⟨⟨q + 1, l1 ++ [(⟨y.k, ⟨#[115, 112, 111, 105, 108, 116]⟩, y.m, y.ks, y.p⟩, .slice AS m cS)], by go_num, by omega, Lib.hid (by simp [HLL.out]), Lib.hid ?_, Lib.hid ?_, rTi.far (by show w.heap.size ≠ g; exact fun e => row_ne rTi HNI.out (by decide) (by rw [e]; rfl)) _, (b2.trans bi).setCell (by show base ≤ g; omega) _⟩, by simp [intOf]; omega⟩
          · rw [List.append_assoc]; exact HST.out
          · exact ⟨fun p hp => ownsRow_setCell_other (HKI.out.row p hp) (fun e => own_two HNI.out (HKI.out.row p hp) ne_ND g e (by simp [Value.ownBlock])) _, HKI.out.apart, HKI.out.wide⟩
    · obtain rfl : q = n := by omega
      have hown := HO.out
      rw [show l.drop q = [] from List.drop_eq_nil_of_le (by rw [HN.out]; exact Nat.le_refl _), List.append_nil] at hown
      have HOW := Lib.hid hown
      have hz' : base ≤ wo.heap.size := by omega
      clear hown HO HKI
      go_upto_region 11 with (first
        | (at_builtin; refine wpList_append_opt rfl _ _ 27 rfl base 24 i0 _ 5 64 Tryd.underlying27 hi0 iz0 iz1 iz2 rfl (by decide) (.slice A q c) q (ndsC l1) rfl (HOW.out.alloc _) (some ⟨wo.heap.size, 0, none⟩) 1 1 (ndsC [((⟨97, ⟨#[]⟩, 0, [], 0⟩ : Nd), .slice none 0 0)]) rfl rfl (by simp) (fun ad e => by injection e with e; subst e; exact node_new wo 97) (fun u hu => by simp [ndsC, ndC] at hu; rcases hu with rfl | rfl | rfl | rfl | rfl <;> rfl) (by unfold maxLen; omega) (by omega) (by simp; omega) ?_; intro v2 w2 own2 hg2)
        | fail)
      have b2 : Below base wo w2 := Below.grown ((Below.refl _ _).alloc hz' _) hg2 (by simp; omega) (fun k hk => own_ge HOW.out k hk)
      obtain ⟨A2, c2, rfl, hc2, hm2⟩ := own_slice own2
      obtain ⟨g2, rfl, hg21, hg22⟩ := own_form5 own2 (by omega)
      have HXS := Lib.hid (show ∃ xs, w2.ownsRow base 24 5 (.slice (some ⟨g2, 0, none⟩) (q + 1) c2) (q + 1) xs from ⟨_, own2⟩)
      unfold maxLen at hm2
      clear own2 hg2 HOW t0
      go_wp2
      go_loopw [6] (fun t wi => ∃ j : Nat, t = .int .i64 (j : Int) ∧ j ≤ q + 1 ∧ Hid (∃ xs, wi.ownsRow base 24 5 (.slice (some ⟨g2, 0, none⟩) (q + 1) c2) (q + 1) xs) ∧ Below base w2 wi) (fun t _ => q + 1 - (intOf t).toNat)
      case atStart => exact ⟨0, rfl, Nat.zero_le _, HXS, Below.refl _ _⟩
      case round =>
        obtain ⟨j, rfl, hj, HXI, bi⟩ := hrel
        generalize hwi : wr = wi at *
        clear hwi
        have zi := Below.size bi
        obtain ⟨xs, hxs⟩ := HXI.out
        by_cases hjm : j < q + 1
        · have hxl : xs.length = (q + 1) * 5 := by have := hxs.1; simpa using this
          have kc := hxs.cellAt (j * 5) (by omega)
          rw [List.getElem?_eq_getElem (by omega)] at kc
          have kf := hxs.frozenAt (j * 5)
          have HST := Lib.hid (hxs.stored (j * 5) (.int .i64 96)).1
          have hji : (j : Int) < ((q + 1 : Nat) : Int) := by omega
          have hg2i : g2 < wi.heap.size := by omega
          clear hxs
          generalize xs[j * 5] = xv at *
          go_wp2
          exact ⟨⟨j + 1, by go_num, by omega, Lib.hid ⟨_, HST.out⟩, bi.setCell (by show base ≤ g2; omega) _⟩, by simp [intOf]; omega⟩
        · obtain rfl : j = q + 1 := by omega
          clear hxs
          go_wp2
          go_end0
          exact ⟨⟨_, rfl⟩, (hb.trans b2).trans bi⟩
end Go.Proofs.YtjaijlkonkgnmaaDoor
