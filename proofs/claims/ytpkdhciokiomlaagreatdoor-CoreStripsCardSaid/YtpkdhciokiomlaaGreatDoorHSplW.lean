/- The walk of chapter 5's laws' own: spoil; what lies behind its tree's blocks stands as well. -/
import Derived.Test.YtpkdhciokiomlaaGreatDoorHBZ24
namespace Go.Proofs.YtpkdhciokiomlaaGreatDoor
set_option linter.unusedVariables false
set_option linter.unusedSimpArgs false
set_option linter.unnecessarySimpa false
open Go.RowKit
attribute [local go_sem] cell_alloc_add cell_set_add lt_more
/-- All below base stands, and all from top on that was there. -/
structure Win (base top : Nat) (w w' : World) : Prop where
  b : Below base w w'
  hi : ∀ k, top ≤ k → k < w.heap.size → w'.heap[k]? = w.heap[k]?
section
variable {base top : Nat} {w w1 w2 : World}
theorem Win.refl (base top : Nat) (w : World) : Win base top w w := ⟨Below.refl _ _, fun _ _ _ => rfl⟩
theorem Win.of_below (h : Below w.heap.size w w1) (hb : base ≤ w.heap.size) : Win base top w w1 := ⟨h.mono hb, fun k _ hk => h.block k hk⟩
theorem Win.trans (h : Win base top w w1) (k : Win base top w1 w2) : Win base top w w2 := ⟨h.b.trans k.b, fun i h1 h2 => (k.hi i h1 (Nat.lt_of_lt_of_le h2 h.b.size)).trans (h.hi i h1 h2)⟩
theorem Win.alloc (h : Win base top w w1) (hb : base ≤ w1.heap.size) (o : Obj) : Win base top w (w1.alloc o) := ⟨h.b.alloc hb o, fun i h1 h2 => (Below.heap_alloc w1 o i (Nat.lt_of_lt_of_le h2 h.b.size)).trans (h.hi i h1 h2)⟩
theorem Win.setCell (h : Win base top w w1) {p : Addr} (h1 : base ≤ p.block) (h2 : p.block < top ∨ w.heap.size ≤ p.block) (u : Value) : Win base top w (w1.setCell p u) :=
  ⟨h.b.setCell h1 u, fun i h3 h4 => (Below.heap_setCell w1 p u i (by omega)).trans (h.hi i h3 h4)⟩
theorem Win.grown (h : Win base top w w1) {r : Option Nat} (hg : w1.grownBy w2 r) (hb : base ≤ w1.heap.size) (hr : ∀ k, r = some k → base ≤ k ∧ (k < top ∨ w.heap.size ≤ k)) : Win base top w w2 :=
  ⟨h.b.grown hg hb (fun k e => (hr k e).1), fun i h3 h4 => (hg.block i (Nat.lt_of_lt_of_le h4 h.b.size) (fun e => by have := (hr i e.symm).2; omega)).trans (h.hi i h3 h4)⟩
/-- A tree that lies behind stands. -/
theorem OwnT.stand {b : Nat} {v : Value} {l : List NdV} (h : OwnT w b v l) (hk : Win base top w w1) (ht : top ≤ b) : OwnT w1 b v l := by
  have key : ∀ {e : TypeId} {size n : Nat} {u : Value} {xs : List Value}, w.ownsRow b e size u n xs → w1.ownsRow b e size u n xs := by
    intro e size n u xs ho
    obtain ⟨hl, hh⟩ := ho
    refine ⟨hl, ?_⟩
    rcases hh with hh | ⟨g, cap, cur, hv, hb, hc, h3, h4, h5, h6⟩
    · exact .inl hh
    · refine .inr ⟨g, cap, cur, hv, hb, ?_, h3, h4, h5, h6⟩
      rw [hk.hi g (by omega) (by
        rcases Nat.lt_or_ge g w.heap.size with q | q
        · exact q
        · rw [Array.getElem?_eq_none q] at hc; cases hc)]
      exact hc
  exact ⟨key h.row, ⟨fun p hp => key (h.kids.row p hp), h.kids.apart, h.kids.wide⟩⟩
end
theorem wpList_append_opt2 {P : Program} {w : World} {ops : Array Oper} {rest : List Oper} {o : Oper} {a : Act} {Q : Exit → Act → World → Prop} (hgd : o.guard = none) (s x : Operand) (t : TypeId)
    (ho : o.op = .call { callee := .builtin .append, args := #[s, x], argTypes := #[t, t] })
    (base : Nat) (e : TypeId) (i : TypeInfo) (z : Value) (size bytes : Nat) (ht : P.underlying t = some (.slice e)) (hi : P.info? e = some i) (hz : i.zero = some z)
    (hsize : i.size = size) (hby : i.bytes = bytes) (hzs : z.cells.size = size) (hsz : 0 < size)
    (v : Value) (n : Nat) (xs : List Value) (hs : a.eval s = v) (hown : w.ownsRow base e size v n xs)
    (ad : Addr) (m c : Nat) (news : List Value) (hx : a.eval x = .slice (some ad) m c) (hl : news.length = m * size) (hnews : ∀ j u, news[j]? = some u → w.cell? (ad.add j) = some u) (h1 : ∀ u ∈ news, u.oneCell' = true)
    (h63 : n + m ≤ maxLen) (hbytes : (n + m) * bytes ≤ 140737488355328) (hbase : base ≤ w.heap.size)
    (h : ∀ v' w', w'.ownsRow base e size v' (n + m) (xs ++ news) → w.grownBy w' v.ownBlock → (v'.ownBlock = v.ownBlock ∨ v'.ownBlock = some w.heap.size) → wpList P ops Q rest (a.put o.dst v') w') :
    wpList P ops Q (o :: rest) a w := by
  refine wpList_plain hgd fun K hK => ?_
  obtain ⟨v', w', hr, h2, h3, _, h5⟩ := run_append_own_at (P := P) w base t o.type e i z size bytes ht hi hz hsize hby hzs hsz v n xs hown ad m c news hl hnews h1 h63 hbytes hbase
  unfold Oper.wp execOp
  simp only [ho, resolve, invoke, builtin, Sem.run_bind, Sem.run_pure, Result.andThen_ok, List.map_toArray, List.map_cons, List.map_nil, hs, hx, hr]
  exact hK _ _ (h v' w' h2 h3 h5)
set_option maxRecDepth 100000 in
set_option maxHeartbeats 16000000 in
theorem spoil_win (A : Option Addr) (l : List NdV) (n c : Nat) (hn : l.length = n) (hL : n ≤ 1000000) (base : Nat) (hks : ∀ p ∈ l, p.1.ks.length ≤ 1000000000000) (w : World) (h : OwnT w base (.slice A n c) l) (hB : base ≤ w.heap.size) (top : Nat) (htop : top ≤ w.heap.size) (hAt : ∀ g, (Value.slice A n c).ownBlock = some g → g < top) (hKt : ∀ p ∈ l, ∀ g, p.2.ownBlock = some g → g < top) :
    Calls Tryz.prog 9 #[.agg #[.slice A n c]] w fun e w' => (∃ v, e = .returned v) ∧ Win base top w w' := by
  obtain ⟨i0, hi0, iz0, iz1, iz2⟩ := info_parts infoNode
  obtain ⟨j0, hj0, jz0, jz1, jz2⟩ := info_parts infoInt
  obtain ⟨wa, hwa⟩ : ∃ wa : World, wa = w.alloc (.cells #[.slice A n c] 24) := ⟨_, rfl⟩
  have bA : Win base top w wa := by rw [hwa]; exact (Win.refl _ _ _).alloc hB _
  have zA : w.heap.size < wa.heap.size := by rw [hwa]; simp
  have rT : Row wa w.heap.size 24 #[.slice A n c] := by rw [hwa]; exact row_new rfl
  have hr0 := h.row
  rw [hn] at hr0
  obtain ⟨A', c', e, hcn, hcm⟩ := own_slice hr0
  injection e with e1 e2 e3
  subst e1 e3
  clear e2
  have HR := Lib.hid (show wa.ownsRow base 37 5 (.slice A n c) n (ndsC ([] ++ l.drop 0)) from by rw [hwa]; exact hr0.alloc _)
  have HK := Lib.hid (show Kids wa base (l.drop 0) from by rw [hwa]; exact h.kids.below ((Below.refl _ _).alloc (Nat.le_refl _) _))
  have HN := Lib.hid hn
  have HKS := Lib.hid hks
  unfold maxLen at hcm
  have t0 := rT.cell 0
  simp at t0
  have HKT0 := Lib.hid hKt
  have HAt := Lib.hid hAt
  clear h hn hks hr0 hKt hAt
  go_enter Tryz.func9, Tryz.ntmps9
  go_upto_region 1 with fail
  rw [← hwa]
  clear hwa
  go_wp2
  go_loopw [2] (fun t wr => ∃ (q : Nat) (l1 : List NdV), t = .int .i64 (q : Int) ∧ q ≤ n ∧ Hid (l1.length = q) ∧ Hid (wr.ownsRow base 37 5 (.slice A n c) n (ndsC (l1 ++ l.drop q))) ∧ Hid (Kids wr base (l.drop q)) ∧ Row wr w.heap.size 24 #[.slice A n c] ∧ Win base top w wr) (fun t _ => n - (intOf t).toNat)
  case atStart => exact ⟨0, [], rfl, Nat.zero_le _, Lib.hid rfl, HR, HK, rT, bA⟩
  case round =>
    obtain ⟨q, l1, rfl, hq, HLL, HO, HKI, rTo, hb⟩ := hrel
    clear rT bA HR HK t0
    generalize hwo : wr = wo at *
    clear hwo
    have hz := Below.size hb.b
    have lT := rTo.lt
    have t0 := rTo.cell 0
    simp at t0
    by_cases hlt : q < n
    · have hql : q < l.length := by rw [HN.out]; exact hlt
      have hd : l.drop q = l[q] :: l.drop (q + 1) := List.drop_eq_getElem_cons hql
      rcases hp0 : l[q] with ⟨y, S⟩
      rw [hp0] at hd
      have hown := HO.out
      rw [hd] at hown
      have hkid := HKI.out
      rw [hd] at hkid
      obtain ⟨g, rfl, hg1, hg2⟩ := own_form5 hown (by omega)
      have hgt : g < top := HAt.out g rfl
      have HST0 := Lib.hid (HKT0.out (y, S) (by rw [← hp0]; exact List.getElem_mem hql))
      have hat : (l1 ++ (y, S) :: l.drop (q + 1))[q]? = some (y, S) := by
        rw [List.getElem?_append_right (by rw [HLL.out]; exact Nat.le_refl _), HLL.out, Nat.sub_self]; rfl
      have hks0 := HKS.out (y, S) (by rw [← hp0]; exact List.getElem_mem hql)
      have n3 := (hown.cellAt (q * 5 + 3) (by omega)).trans (ndsC_at _ q _ hat 3 (by omega))
      have hSo : wo.ownsRow base 3 1 S y.ks.length (intsC y.ks) := hkid.row (y, S) (by simp)
      obtain ⟨AS, cS, rfl, hcS, hmS⟩ := own_slice hSo
      replace n3 : wo.cell? ⟨g, q * 5 + 3, none⟩ = some (.slice AS y.ks.length cS) := n3
      have hapart := Lib.hid (List.pairwise_cons.1 hkid.apart).1
      have hne := Lib.hid (own_two hown hSo ne_ND)
      have hneR := Lib.hid (row_ne rTo hSo (by decide))
      have HSO := Lib.hid hSo
      have HOW := Lib.hid hown
      have HKT := Lib.hid hkid.tail
      have HAT := Lib.hid hat
      have hz' : base ≤ wo.heap.size := by omega
      clear hd hp0 hown hkid hat hSo
      simp only at hks0 hcS
      generalize hm0 : y.ks.length = m at *
      clear hm0
      unfold maxLen at hmS
      go_upto_region 5 with (first
        | (at_builtin; refine wpList_append_rd _ rfl (.tmp 19) (.tmp 20) 35 rfl base 3 j0 _ 8 Tryz.underlying35 hj0 jz0 jz1 jz2 rfl (.slice AS m cS) m (intsC y.ks) rfl (HSO.out.alloc _) _ _ 1 1 _ rfl (rd_one wo 3 (.int .i64 99)) (fun _ => rfl) (by unfold maxLen; omega) (by omega) (by simp; omega) ?_; intro v2 w2 own2 hg2' hob2)
        | fail)
      obtain ⟨A2, c2, rfl, hc2, hm2⟩ := own_slice own2
      obtain ⟨g2, rfl, hg21, hg22⟩ := own_form5 own2 (by omega)
      have bw2 : Win base top wo w2 := Win.grown ((Win.refl _ _ _).alloc hz' _) hg2' (by simp; omega) (fun k hk => ⟨own_ge HSO.out k hk, .inl (HST0.out k hk)⟩)
      have hg2w : g2 < top ∨ w.heap.size ≤ g2 := by
        rcases hob2 with e2 | e2
        · exact .inl (HST0.out g2 (by rw [← e2]; rfl))
        · injection e2 with e2
          simp at e2
          right; omega
      have hn2 : w2.ownsRow base 37 5 (.slice (some ⟨g, 0, none⟩) n c) n (ndsC (l1 ++ (y, .slice AS m cS) :: l.drop (q + 1))) := own_grown (HOW.out.alloc _) hg2' (fun b e e2 => hne.out b e2 e)
      have hk2 : Kids w2 base (l.drop (q + 1)) := by
        refine ⟨fun p hp => own_grown ((HKT.out.row p hp).alloc _) hg2' (fun b e e2 => hapart.out p hp b e2 e), HKT.out.apart, HKT.out.wide⟩
      have hT2 : Row w2 w.heap.size 24 #[.slice (some ⟨g, 0, none⟩) n c] := row_grown (rTo.alloc _) hg2' hneR.out
      have hgg : g ≠ g2 := fun e => own_two hn2 own2 ne_ND g2 (by simp [Value.ownBlock]) (by rw [e]; rfl)
      have htg : w.heap.size ≠ g2 := fun e => row_ne hT2 own2 (by decide) (by rw [e]; rfl)
      have hkg : ∀ p ∈ l.drop (q + 1), p.2.ownBlock ≠ some g2 := fun p hp e => by
        rcases hob2 with e2 | e2
        · exact hapart.out p hp g2 (by rw [← e2]; rfl) e
        · injection e2 with e2
          have := own_lt (HKT.out.row p hp) g2 e
          simp at e2
          omega
      have HN2 := Lib.hid hn2
      have HK2 := Lib.hid hk2
      have HOW2 := Lib.hid own2
      have HKG := Lib.hid hkg
      have b2 := hb.trans bw2
      have hm1 : ((m + 1 : Nat) : Int) = (m : Int) + 1 := by omega
      have HM1 := Lib.hid hm1
      clear hn2 hk2 hkg hm1 hob2 hg2' own2 HSO HOW HKT HO HKI n3 t0 hne hneR hapart bw2
      unfold maxLen at hm2
      go_wp2
      go_loopw [4] (fun t wi => ∃ j : Nat, t = .int .i64 (j : Int) ∧ j ≤ m + 1 ∧ Hid (∃ xs, wi.ownsRow base 3 1 (.slice (some ⟨g2, 0, none⟩) (m + 1) c2) (m + 1) xs) ∧ Hid (w2.grownBy wi (some g2)) ∧ Below base w2 wi) (fun t _ => m + 1 - (intOf t).toNat)
      case atStart => exact ⟨0, rfl, Nat.zero_le _, Lib.hid ⟨_, HOW2.out⟩, Lib.hid (World.grownBy.refl _ _), Below.refl _ _⟩
      case round =>
        obtain ⟨j, rfl, hj, HXS, HGB, bi⟩ := hrel
        generalize hwi : wr = wi at *
        clear hwi
        have zi := Below.size bi
        obtain ⟨xs, hxs⟩ := HXS.out
        by_cases hjm : j < m + 1
        · have hxl : xs.length = m + 1 := by have := hxs.1; simpa using this
          have kc := hxs.cellAt j (by omega)
          rw [List.getElem?_eq_getElem (by omega)] at kc
          have kf := hxs.frozenAt j
          have hst := hxs.stored j (.int .i64 98)
          have HST := Lib.hid hst
          have hji : (j : Int) < ((m + 1 : Nat) : Int) := by omega
          have hg2i : g2 < wi.heap.size := by omega
          clear hst hxs
          generalize xs[j] = xv at *
          go_wp2
          exact ⟨⟨j + 1, by go_num, by omega, Lib.hid ⟨_, HST.out.1⟩, Lib.hid (HGB.out.trans HST.out.2), bi.setCell (by show base ≤ g2; omega) _⟩, by simp [intOf]; omega⟩
        · obtain rfl : j = m + 1 := by omega
          have hni := own_grown HN2.out HGB.out (fun b e e2 => by
            simp [Value.ownBlock] at e
            injection e2 with e2
            omega)
          have hki : Kids wi base (l.drop (q + 1)) := ⟨fun p hp => own_grown (HK2.out.row p hp) HGB.out (fun b e e2 => HKG.out p hp (e2 ▸ e)), HK2.out.apart, HK2.out.wide⟩
          have rTi := row_grown hT2 HGB.out (by intro e; injection e with e; omega)
          have t1 := rTi.cell 0
          simp at t1
          have lTi := rTi.lt
          have nc := (hni.cellAt (q * 5 + 1) (by omega)).trans (ndsC_at _ q _ HAT.out 1 (by omega))
          replace nc : wi.cell? ⟨g, q * 5 + 1, none⟩ = some (.string y.x) := nc
          have nf := hni.frozenAt (q * 5 + 1)
          have hst := (hni.stored (q * 5 + 1) (.string ⟨#[115, 112, 111, 105, 108, 116]⟩)).1
          rw [ndsC_set1 _ q y _ _ HAT.out, List.set_append, if_neg (by rw [HLL.out]; omega), HLL.out, Nat.sub_self] at hst
          have HST := Lib.hid hst
          have HNI := Lib.hid hni
          have HKI := Lib.hid hki
          have hgi : g < wi.heap.size := (own_lt hni) g rfl
          clear hst hni hki hxs HXS
          go_wp2
          refine ⟨⟨q + 1, l1 ++ [(⟨y.k, ⟨#[115, 112, 111, 105, 108, 116]⟩, y.m, y.ks, y.p⟩, .slice AS m cS)], by go_num, by omega, Lib.hid (by simp [HLL.out]), Lib.hid ?_, Lib.hid ?_, rTi.far (by show w.heap.size ≠ g; exact fun e => row_ne rTi HNI.out (by decide) (by rw [e]; rfl)) _, (Win.grown b2 HGB.out (by omega) (fun k e => by injection e with e; subst e; exact ⟨by omega, hg2w⟩)).setCell (by show base ≤ g; omega) (.inl hgt) _⟩, by simp [intOf]; omega⟩
          · rw [List.append_assoc]; exact HST.out
          · exact ⟨fun p hp => ownsRow_setCell_other (HKI.out.row p hp) (fun e => own_two HNI.out (HKI.out.row p hp) ne_ND g e (by simp [Value.ownBlock])) _, HKI.out.apart, HKI.out.wide⟩
    · obtain rfl : q = n := by omega
      have hown := HO.out
      rw [show l.drop q = [] from List.drop_eq_nil_of_le (by rw [HN.out]; exact Nat.le_refl _), List.append_nil] at hown
      have HOW := Lib.hid hown
      have hz' : base ≤ wo.heap.size := by omega
      clear hown HO HKI
      go_upto_region 11 with (first
        | (at_builtin; refine wpList_append_opt2 rfl _ _ 22 rfl base 37 i0 _ 5 64 Tryz.underlying22 hi0 iz0 iz1 iz2 rfl (by decide) (.slice A q c) q (ndsC l1) rfl (HOW.out.alloc _) ⟨wo.heap.size, 0, none⟩ 1 1 (ndsC [((⟨97, ⟨#[]⟩, 0, [], 0⟩ : Nd), .slice none 0 0)]) rfl rfl (node_new wo 97) (fun u hu => by simp [ndsC, ndC] at hu; rcases hu with rfl | rfl | rfl | rfl | rfl <;> rfl) (by unfold maxLen; omega) (by omega) (by simp; omega) ?_; intro v2 w2 own2 hg2 hob2)
        | fail)
      have b2 : Win base top wo w2 := Win.grown ((Win.refl _ _ _).alloc hz' _) hg2 (by simp; omega) (fun k hk => ⟨own_ge HOW.out k hk, .inl (HAt.out k hk)⟩)
      obtain ⟨A2, c2, rfl, hc2, hm2⟩ := own_slice own2
      obtain ⟨g2, rfl, hg21, hg22⟩ := own_form5 own2 (by omega)
      have hg2w : g2 < top ∨ w.heap.size ≤ g2 := by
        rcases hob2 with e2 | e2
        · exact .inl (HAt.out g2 (by rw [← e2]; rfl))
        · injection e2 with e2
          simp at e2
          right; omega
      have HXS := Lib.hid (show ∃ xs, w2.ownsRow base 37 5 (.slice (some ⟨g2, 0, none⟩) (q + 1) c2) (q + 1) xs from ⟨_, own2⟩)
      unfold maxLen at hm2
      clear own2 hg2 HOW t0 hob2
      go_wp2
      go_loopw [6] (fun t wi => ∃ j : Nat, t = .int .i64 (j : Int) ∧ j ≤ q + 1 ∧ Hid (∃ xs, wi.ownsRow base 37 5 (.slice (some ⟨g2, 0, none⟩) (q + 1) c2) (q + 1) xs) ∧ Hid (w2.grownBy wi (some g2)) ∧ Below base w2 wi) (fun t _ => q + 1 - (intOf t).toNat)
      case atStart => exact ⟨0, rfl, Nat.zero_le _, HXS, Lib.hid (World.grownBy.refl _ _), Below.refl _ _⟩
      case round =>
        obtain ⟨j, rfl, hj, HXI, HGB, bi⟩ := hrel
        generalize hwi : wr = wi at *
        clear hwi
        have zi := Below.size bi
        obtain ⟨xs, hxs⟩ := HXI.out
        by_cases hjm : j < q + 1
        · have hxl : xs.length = (q + 1) * 5 := by have := hxs.1; simpa using this
          have kc := hxs.cellAt (j * 5) (by omega)
          rw [List.getElem?_eq_getElem (by omega)] at kc
          have kf := hxs.frozenAt (j * 5)
          have HST := Lib.hid (hxs.stored (j * 5) (.int .i64 96))
          have hji : (j : Int) < ((q + 1 : Nat) : Int) := by omega
          have hg2i : g2 < wi.heap.size := by omega
          clear hxs
          generalize xs[j * 5] = xv at *
          go_wp2
          exact ⟨⟨j + 1, by go_num, by omega, Lib.hid ⟨_, HST.out.1⟩, Lib.hid (HGB.out.trans HST.out.2), bi.setCell (by show base ≤ g2; omega) _⟩, by simp [intOf]; omega⟩
        · obtain rfl : j = q + 1 := by omega
          clear hxs
          go_wp2
          go_end0
          exact ⟨⟨_, rfl⟩, Win.grown (hb.trans b2) HGB.out (by omega) (fun k e => by injection e with e; subst e; exact ⟨by omega, hg2w⟩)⟩
end Go.Proofs.YtpkdhciokiomlaaGreatDoor
