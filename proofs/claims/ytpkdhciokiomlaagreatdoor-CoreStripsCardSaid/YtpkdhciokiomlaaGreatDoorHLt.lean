/- The walk of chapter 5's laws' own: lent. -/
import Derived.Test.YtpkdhciokiomlaaGreatDoorHBZ17
import Derived.Test.YtpkdhciokiomlaaGreatDoorHBZ25
namespace Go.Proofs.YtpkdhciokiomlaaGreatDoor
set_option linter.unusedVariables false
set_option linter.unusedSimpArgs false
set_option linter.unnecessarySimpa false
open Go.RowKit
attribute [local go_sem] cell_alloc_add cell_set_add lt_more
theorem step_append_rd {P : Program} {ops : Array Oper} {o : Oper} {a : Act} {w : World} {K : Act → World → Prop} {Q : Exit → Act → World → Prop} {E : Prop} (hgd : o.guard = none) (s x : Operand) (t : TypeId)
    (ho : o.op = .call { callee := .builtin .append, args := #[s, x], argTypes := #[t, t] })
    (base : Nat) (e : TypeId) (i : TypeInfo) (z : Value) (bytes : Nat) (ht : P.underlying t = some (.slice e)) (hi : P.info? e = some i) (hz : i.zero = some z)
    (hsize : i.size = 1) (hby : i.bytes = bytes) (hzs : z.cells.size = 1)
    (v : Value) (n : Nat) (xs : List Value) (hs : a.eval s = v) (hown : w.ownsRow base e 1 v n xs)
    (B : Nat) (A : Option Addr) (m c : Nat) (f : Nat → Value) (hx : a.eval x = .slice A m c) (hr : Rd w B A m f) (h1 : ∀ j, (f j).oneCell' = true)
    (h63 : n + m ≤ maxLen) (hbytes : (n + m) * bytes ≤ 140737488355328) (hbase : base ≤ w.heap.size)
    (h : ∀ v' w', w'.ownsRow base e 1 v' (n + m) (xs ++ firsts f m) → w.grownBy w' v.ownBlock → (v'.ownBlock = v.ownBlock ∨ v'.ownBlock = some w.heap.size) → K (a.put o.dst v') w') : if Region.wanted o (yielded ops a.tmps) = true then Oper.wp P o a w K Q else E := by
  rw [if_pos (by simp [Region.wanted, hgd])]
  exact wp_append_rd w s x t ho base e i z bytes ht hi hz hsize hby hzs v n xs hs hown B A m c f hx hr h1 h63 hbytes hbase h
theorem wpList_append_opt {P : Program} {w : World} {ops : Array Oper} {rest : List Oper} {o : Oper} {a : Act} {Q : Exit → Act → World → Prop} (hgd : o.guard = none) (s x : Operand) (t : TypeId)
    (ho : o.op = .call { callee := .builtin .append, args := #[s, x], argTypes := #[t, t] })
    (base : Nat) (e : TypeId) (i : TypeInfo) (z : Value) (size bytes : Nat) (ht : P.underlying t = some (.slice e)) (hi : P.info? e = some i) (hz : i.zero = some z)
    (hsize : i.size = size) (hby : i.bytes = bytes) (hzs : z.cells.size = size) (hsz : 0 < size)
    (v : Value) (n : Nat) (xs : List Value) (hs : a.eval s = v) (hown : w.ownsRow base e size v n xs)
    (A : Option Addr) (m c : Nat) (news : List Value) (hx : a.eval x = .slice A m c) (hl : news.length = m * size) (hA : A = none → m = 0) (hnews : ∀ ad, A = some ad → ∀ j u, news[j]? = some u → w.cell? (ad.add j) = some u) (h1 : ∀ u ∈ news, u.oneCell' = true)
    (h63 : n + m ≤ maxLen) (hbytes : (n + m) * bytes ≤ 140737488355328) (hbase : base ≤ w.heap.size)
    (h : ∀ v' w', w'.ownsRow base e size v' (n + m) (xs ++ news) → w.grownBy w' v.ownBlock → wpList P ops Q rest (a.put o.dst v') w') :
    wpList P ops Q (o :: rest) a w := by
  refine wpList_plain hgd fun K hK => ?_
  rcases A with _ | ad
  · have hm := hA rfl
    subst hm
    have hn : news = [] := List.eq_nil_of_length_eq_zero (by simpa using hl)
    subst hn
    have hr := run_append_nil w base t o.type e i size ht hi v n xs hown c
    unfold Oper.wp execOp
    simp only [ho, resolve, invoke, builtin, Sem.run_bind, Sem.run_pure, Result.andThen_ok, List.map_toArray, List.map_cons, List.map_nil, hs, hx, hr]
    exact hK _ _ (h v w (by simpa using hown) (World.grownBy.refl w _))
  · obtain ⟨v', w', hr, h2, h3, _, h5⟩ := run_append_own_at (P := P) w base t o.type e i z size bytes ht hi hz hsize hby hzs hsz v n xs hown ad m c news hl (hnews ad rfl) h1 h63 hbytes hbase
    unfold Oper.wp execOp
    simp only [ho, resolve, invoke, builtin, Sem.run_bind, Sem.run_pure, Result.andThen_ok, List.map_toArray, List.map_cons, List.map_nil, hs, hx, hr]
    exact hK _ _ (h v' w' h2 h3)
theorem Row.cell1 {W : World} {g : Nat} {t : TypeId} {u : Value} (h : Row W g t #[u]) : ∀ j v, [u][j]? = some v → W.cell? ((⟨g, 0, none⟩ : Addr).add j) = some v := fun j v hj => by
  rw [add_row, h.cell, Nat.zero_add, ← hj]; simp
theorem own_dn {W : World} {base size n : Nat} {e : TypeId} {v : Value} {xs : List Value} (h : W.ownsRow base e size v n xs) : W.drew.ownsRow base e size v n xs := h
theorem mark_new (W : World) : ∀ j u, (ndsC [markN])[j]? = some u → (W.alloc (.cells #[.int .i64 171, .string ⟨#[]⟩, .int .i64 0, .slice none 0 0, .int .i64 0] 37)).cell? ((⟨W.heap.size, 0, none⟩ : Addr).add j) = some u := by
  intro j u hu
  have h := (row_new (w := W) (t := 37) (cs := #[.int .i64 171, .string ⟨#[]⟩, .int .i64 0, .slice none 0 0, .int .i64 0]) rfl).cell j
  rw [add_row, Nat.zero_add, h, ← hu]
  simp [ndsC, ndC, markN]
theorem mark_at (W : World) : ∀ (i : Nat) (v : Value), #[Value.int .i64 171, .string ⟨#[]⟩, .int .i64 0, .slice none 0 0, .int .i64 0][i]? = some v → (W.alloc (.cells #[.int .i64 171, .string ⟨#[]⟩, .int .i64 0, .slice none 0 0, .int .i64 0] 37)).cell? ⟨W.heap.size, i, none⟩ = some v := fun i v hv => ((row_new (w := W) (t := 37) (cs := #[.int .i64 171, .string ⟨#[]⟩, .int .i64 0, .slice none 0 0, .int .i64 0]) rfl).cell i).trans hv
set_option maxRecDepth 100000 in
set_option maxHeartbeats 16000000 in
theorem lent_any (A : Option Addr) (L : List Nd) (n : Nat) (hn : L.length = n) (c : Nat) (hc : n ≤ c) (hm : c ≤ maxLen) (hL : n ≤ 1000000) (hks : ∀ j : Nat, (nd L j).ks.length ≤ 1000000000) (w : World) (h : TreeAt w w.heap.size A L) :
    Calls Tryz.prog 5 #[.agg #[.slice A n c]] w fun e w' => (∃ v l, e = .returned (.agg #[v]) ∧ LentT w' w.heap.size v l ∧ l.map (·.1) = L) ∧ Below w.heap.size w w' := by
  obtain ⟨r, hr1, hr2, hr3⟩ := kept_of h
  have hrl : r.length = n := by have := congrArg List.length hr1; rw [hn] at this; simpa using this
  have HR1 := Lib.hid hr1
  have HR2 := Lib.hid hr2
  have HR3 := Lib.hid hr3
  have HRL := Lib.hid hrl
  have HKS := Lib.hid (show ∀ p ∈ r, p.1.ks.length ≤ 1000000000 from fun p hp => by
    obtain ⟨i, hi⟩ := List.getElem_of_mem hp
    obtain ⟨hi1, hi2⟩ := hi
    have h1 : (r.map (·.1))[i]? = some p.1 := by rw [List.getElem?_map, List.getElem?_eq_getElem hi1, hi2]; rfl
    rw [hr1] at h1
    have hiL : i < L.length := (List.getElem?_eq_some_iff.1 h1).1
    rw [nd_get hiL] at h1
    injection h1 with h1
    rw [← h1]
    exact hks i)
  have hblk : ∀ ad, A = some ad → 0 < n → ad.block < w.heap.size := fun ad e h0 => by
    obtain ⟨ad', e', hb⟩ := h.addr (by omega)
    rw [e] at e'; injection e' with e'; subst e'; exact hb
  have HBL := Lib.hid hblk
  have hT := Lib.hid h
  clear h hn hks hr1 hr2 hr3 hrl hblk
  obtain ⟨i0, hi0, iz0, iz1, iz2⟩ := info_parts infoNode
  obtain ⟨j0, hj0, jz0, jz1, jz2⟩ := info_parts infoInt
  unfold maxLen at hm
  obtain ⟨wa, hwa⟩ : ∃ wa : World, wa = (w.alloc (.cells #[.slice A n c] 24)).alloc (.cells #[.slice none 0 0] 24) := ⟨_, rfl⟩
  have bA : Below w.heap.size w wa := by rw [hwa]; exact (by (exact bl))
  have zA : w.heap.size + 1 < wa.heap.size := by rw [hwa]; simp
  have rT : Row wa w.heap.size 24 #[.slice A n c] := by rw [hwa]; exact (row_new rfl).alloc _
  have rO : Row wa (w.heap.size + 1) 24 #[.slice none 0 0] := by rw [hwa]; exact row_new (by simp)
  have t0 := rT.cell 0
  simp at t0
  have zA0 : w.heap.size < wa.heap.size := by omega
  go_enter Tryz.func5, Tryz.ntmps5
  go_upto_region 1 with fail
  rw [← hwa]
  clear hwa
  obtain ⟨wb, hwb⟩ : ∃ wb : World, wb = wa.alloc (.cells #[] 37) := ⟨_, rfl⟩
  have rTb : Row wb w.heap.size 24 #[.slice A n c] := by rw [hwb]; exact rT.alloc _
  have rOb : Row wb (w.heap.size + 1) 24 #[.slice none 0 0] := by rw [hwb]; exact rO.alloc _
  have bB : Below w.heap.size w wb := by rw [hwb]; exact bA.alloc (by omega) _
  have oB : wb.ownsRow (w.heap.size + 2) 37 5 (.slice (some ⟨wa.heap.size, 0, none⟩) 0 0) 0 [] := by rw [hwb]; exact own_mono (World.ownsRow_lit (base := wa.heap.size) wa #[] 0 (Nat.le_refl _) (by decide) rfl) (by omega)
  have zB : wa.heap.size < wb.heap.size := by rw [hwb]; simp
  have HB := Lib.hid hwb
  have hnw : ∀ ad, A = some ad → ∀ j u, (ndsC r)[j]? = some u → wb.cell? (ad.add j) = some u := fun ad e j u hu => by
    have h1 := HR3.out ad e j u hu
    have hn0 : 0 < n := by
      have := (List.getElem?_eq_some_iff.1 hu).1
      rw [ndsC_len, HRL.out] at this
      omega
    exact (bB.cell (by rw [block_add]; exact HBL.out ad e hn0)).trans h1
  have HNW := Lib.hid hnw
  have h1c : ∀ u ∈ ndsC r, u.oneCell' = true := fun u hu => by
    obtain ⟨p, hp, hu⟩ := List.mem_flatMap.1 hu
    obtain ⟨⟨K, kc, e, _⟩, _⟩ := HR2.out p hp
    simp [ndC] at hu
    rcases hu with rfl | rfl | rfl | rfl | rfl
    all_goals first | rfl | (rw [e]; rfl)
  have H1C := Lib.hid h1c
  have hA0 := Lib.hid (show A = none → n = 0 from fun e => by
    rcases Nat.eq_zero_or_pos n with h0 | h0
    · exact h0
    · have hL0 : 0 < L.length := by
        have := congrArg List.length HR1.out
        rw [List.length_map, HRL.out] at this
        omega
      obtain ⟨ad, e2, _⟩ := hT.out.addr hL0
      rw [e] at e2; cases e2)
  clear hnw h1c hwb rT rO
  go_upto_region 2 with (first
    | (at_builtin; rw [← HB.out]; refine wpList_append_opt rfl _ _ 22 rfl (w.heap.size + 2) 37 i0 _ 5 64 Tryz.underlying22 hi0 iz0 iz1 iz2 rfl (by decide) _ 0 [] rfl oB A n c (ndsC r) rfl (by rw [ndsC_len, HRL.out]) hA0.out HNW.out H1C.out (by unfold maxLen; omega) (by omega) (by omega) ?_; intro v1 w1 hown1 hg1; obtain ⟨A1, c1, rfl, hc1, hm1⟩ := own_slice hown1)
    | fail)
  rw [Nat.zero_add] at hown1 hc1
  rw [List.nil_append] at hown1
  have b1 : Below w.heap.size w w1 := bB.grown hg1 (by omega) (fun k hk => by have := own_ge oB k hk; omega)
  have rT1 := row_grown rTb hg1 (row_ne rTb oB (by decide))
  have rO1 := row_grown rOb hg1 (row_ne rOb oB (by decide))
  have HO1 := Lib.hid (show w1.ownsRow (w.heap.size + 2) 37 5 (.slice A1 n c1) n (ndsC ([] ++ r.drop 0)) from hown1)
  clear rTb rOb oB t0 hown1 hg1 bB bA
  unfold maxLen at hm1
  go_wp2
  go_loopw [4] (fun t wr => ∃ (q : Nat) (l1 : List NdV), t = .int .i64 (q : Int) ∧ q ≤ n ∧ Hid (l1.length = q) ∧ Hid (l1.map (·.1) = (r.take q).map (·.1)) ∧ Hid (wr.ownsRow (w.heap.size + 2) 37 5 (.slice A1 n c1) n (ndsC (l1 ++ r.drop q))) ∧ Hid (∀ p ∈ l1, LentK wr (w.heap.size + 2) p ∧ wideY p.1) ∧ Row wr w.heap.size 24 #[.slice A n c] ∧ Row wr (w.heap.size + 1) 24 #[.slice none 0 0] ∧ Below w.heap.size w wr) (fun t _ => n - (intOf t).toNat)
  case atStart => exact ⟨0, [], rfl, Nat.zero_le _, Lib.hid rfl, Lib.hid rfl, HO1, Lib.hid (fun p hp => by cases hp), rT1, rO1, b1⟩
  case round =>
    obtain ⟨q, l1, rfl, hq, HLL, HLM, HO, HLK, rT, rO, hb⟩ := hrel
    clear rT1 rO1 b1 HO1
    generalize hwo : wr = wo at *
    clear hwo
    have hz := Below.size hb
    have lT := rT.lt
    have lO := rO.lt
    by_cases hlt : q < n
    · have hqr : q < r.length := by rw [HRL.out]; exact hlt
      obtain ⟨p0, hp0⟩ : ∃ p0, r[q]? = some p0 := ⟨r[q], List.getElem?_eq_getElem hqr⟩
      have hpr : p0 ∈ r := List.mem_of_getElem? hp0
      have HDR := Lib.hid (show r.drop q = p0 :: r.drop (q + 1) by
        rw [List.drop_eq_getElem_cons hqr]
        rw [List.getElem?_eq_getElem hqr] at hp0
        injection hp0 with hp0
        rw [hp0])
      have HTR := Lib.hid (show (r.take (q + 1)).map (·.1) = (r.take q).map (·.1) ++ [p0.1] by
        rw [List.take_succ_eq_append_getElem hqr, List.map_append]
        rw [List.getElem?_eq_getElem hqr] at hp0
        injection hp0 with hp0
        rw [hp0]; rfl)
      obtain ⟨⟨K, kc, hs0, hrd0, hkk, hkm⟩, hw0⟩ := HR2.out p0 hpr
      have hml := HKS.out p0 hpr
      obtain ⟨y, s0⟩ := p0
      simp only at hs0 hrd0 hkk hw0 hml
      subst hs0
      have HW := Lib.hid hw0
      have hown := HO.out
      rw [HDR.out] at hown
      obtain ⟨g, hA1, hg1, hg2⟩ := own_form5 hown (by omega)
      subst hA1
      have hat : (l1 ++ (y, Value.slice K y.ks.length kc) :: r.drop (q + 1))[q]? = some (y, .slice K y.ks.length kc) := by
        rw [List.getElem?_append_right (by rw [HLL.out]; exact Nat.le_refl _), HLL.out, Nat.sub_self]; rfl
      have HAT := Lib.hid hat
      have n3 := (hown.cellAt (q * 5 + 3) (by omega)).trans (ndsC_at _ q _ hat 3 (by omega))
      simp only [ndC] at n3
      replace n3 : wo.cell? ⟨g, q * 5 + 3, none⟩ = some (.slice K y.ks.length kc) := n3
      have hrd := (hrd0.below hb).more hz
      have HRD := Lib.hid hrd
      have HOW := Lib.hid hown
      clear hown hrd hrd0 hw0 hat hp0 hpr hqr
      unfold maxLen at hkm
      generalize hm0 : y.ks.length = m at *
      have HM := Lib.hid hm0
      have HFK := Lib.hid (show firsts (ksV y.ks) m = intsC y.ks by rw [← hm0]; exact firsts_ks _)
      clear hm0
      have hmi : (m : Int) ≤ 1000000000 := by omega
      have hqi : (q : Int) < (n : Int) := by omega
      have hw0 : w.heap.size + 2 ≤ wo.heap.size := by omega
      have hw1 : w.heap.size + 2 ≤ wo.heap.size + 1 := by omega
      have own171 : ∀ (W : World) (b : Nat), b = W.heap.size → (W.alloc (.cells #[] 3)).ownsRow b 3 1 (.slice (some ⟨b, 0, none⟩) 0 0) 0 [] := fun W b e => by
        subst e; exact own_new (w := W) (n := 0) rfl (Nat.le_refl _) (by decide)
      have HO0 := Lib.hid own171
      clear own171
      go_upto_region 5 with fail
      go_region_law (first
        | ((refine step_append_rd (by rfl) (.tmp 17) (.tmp 22) 35 (by rfl) (w.heap.size + 2) 3 j0 _ 8 Tryz.underlying35 hj0 jz0 jz1 jz2 rfl (.slice (some ⟨wo.heap.size, 0, none⟩) 0 0) 0 [] (by rfl) (by exact own_mono (HO0.out wo _ rfl) (by omega)) _ K m kc (ksV y.ks) (by rfl) (by exact HRD.out.alloc (Nat.le_refl _) _) (fun _ => rfl) (by unfold maxLen; omega) (by omega) (by simp; omega) ?_); intro v23 w23 own23 hg23 hob23; rw [Nat.zero_add, List.nil_append, HFK.out] at own23; obtain ⟨A23, c23, rfl, hc23, hm23⟩ := own_slice own23; have hX23 := own_grown (e := 37) (v := .slice (some ⟨g, 0, none⟩) n c1) (by exact HOW.out.alloc _) hg23 (fun b e e2 => by have h7 := own_lt HOW.out b e; simp [Value.ownBlock] at e2; omega); have x23 := (hX23.cellAt (q * 5 + 3) (by omega)).trans (ndsC_at _ q _ HAT.out 3 (by omega)); simp only [ndC] at x23; replace x23 : w23.cell? ⟨g, q * 5 + 3, none⟩ = some (.slice K m kc) := (by rw [x23]; rfl); have z23 : wo.heap.size < w23.heap.size := (by have := hg23.size; simp at this; omega); have zg23 : g < w23.heap.size := (by omega); have bw23 : Below wo.heap.size wo w23 := Below.grown (by first | exact (((Below.refl _ wo).alloc (Nat.le_refl _) _)).drew | exact ((Below.refl _ wo).alloc (Nat.le_refl _) _)) hg23 (by simp; try omega) (fun k hk => by simp [Value.ownBlock] at hk; omega))
        | ((refine step_append_rd (by rfl) (.tmp 17) (.tmp 22) 35 (by rfl) (w.heap.size + 2) 3 j0 _ 8 Tryz.underlying35 hj0 jz0 jz1 jz2 rfl (.slice (some ⟨wo.heap.size, 0, none⟩) 0 0) 0 [] (by rfl) (by exact own_mono ((HO0.out wo _ rfl).alloc (.cells #[.int .i64 171] 3)) (by omega)) _ K m kc (ksV y.ks) (by rfl) (by exact (HRD.out.alloc (Nat.le_refl _) (.cells #[] 3)).alloc (by simp) (.cells #[.int .i64 171] 3)) (fun _ => rfl) (by unfold maxLen; omega) (by omega) (by simp; omega) ?_); intro v23 w23 own23 hg23 hob23; rw [Nat.zero_add, List.nil_append, HFK.out] at own23; obtain ⟨A23, c23, rfl, hc23, hm23⟩ := own_slice own23; have hX23 := own_grown (e := 37) (v := .slice (some ⟨g, 0, none⟩) n c1) (by exact (HOW.out.alloc (.cells #[] 3)).alloc (.cells #[.int .i64 171] 3)) hg23 (fun b e e2 => by have h7 := own_lt HOW.out b e; simp [Value.ownBlock] at e2; omega); have x23 := (hX23.cellAt (q * 5 + 3) (by omega)).trans (ndsC_at _ q _ HAT.out 3 (by omega)); simp only [ndC] at x23; replace x23 : w23.cell? ⟨g, q * 5 + 3, none⟩ = some (.slice K m kc) := (by rw [x23]; rfl); have z23 : wo.heap.size < w23.heap.size := (by have := hg23.size; simp at this; omega); have zg23 : g < w23.heap.size := (by omega); have bw23 : Below wo.heap.size wo w23 := Below.grown (by first | exact ((((Below.refl _ wo).alloc (Nat.le_refl _) _).alloc (by simp) _)).drew | exact (((Below.refl _ wo).alloc (Nat.le_refl _) _).alloc (by simp) _)) hg23 (by simp; try omega) (fun k hk => by simp [Value.ownBlock] at hk; omega); have rW23 : Row w23 (wo.heap.size + 1) 3 #[.int .i64 171] := row_grown (by exact row_new (by simp)) hg23 (fun e => by simp [Value.ownBlock] at e))
        | ((refine step_append_rd (by rfl) (.tmp 17) (.tmp 22) 35 (by rfl) (w.heap.size + 2) 3 j0 _ 8 Tryz.underlying35 hj0 jz0 jz1 jz2 rfl (.slice (some ⟨(wo.heap.size + 1), 0, none⟩) 0 0) 0 [] (by rfl) (by exact own_mono (HO0.out (wo.alloc (.cells #[.int .i64 171] 3)) _ (by simp)) (by omega)) _ K m kc (ksV y.ks) (by rfl) (by exact (HRD.out.alloc (Nat.le_refl _) (.cells #[.int .i64 171] 3)).alloc (by simp) (.cells #[] 3)) (fun _ => rfl) (by unfold maxLen; omega) (by omega) (by simp; omega) ?_); intro v23 w23 own23 hg23 hob23; rw [Nat.zero_add, List.nil_append, HFK.out] at own23; obtain ⟨A23, c23, rfl, hc23, hm23⟩ := own_slice own23; have hX23 := own_grown (e := 37) (v := .slice (some ⟨g, 0, none⟩) n c1) (by exact (HOW.out.alloc (.cells #[.int .i64 171] 3)).alloc (.cells #[] 3)) hg23 (fun b e e2 => by have h7 := own_lt HOW.out b e; simp [Value.ownBlock] at e2; omega); have x23 := (hX23.cellAt (q * 5 + 3) (by omega)).trans (ndsC_at _ q _ HAT.out 3 (by omega)); simp only [ndC] at x23; replace x23 : w23.cell? ⟨g, q * 5 + 3, none⟩ = some (.slice K m kc) := (by rw [x23]; rfl); have z23 : wo.heap.size < w23.heap.size := (by have := hg23.size; simp at this; omega); have zg23 : g < w23.heap.size := (by omega); have bw23 : Below wo.heap.size wo w23 := Below.grown (by first | exact ((((Below.refl _ wo).alloc (Nat.le_refl _) _).alloc (by simp) _)).drew | exact (((Below.refl _ wo).alloc (Nat.le_refl _) _).alloc (by simp) _)) hg23 (by simp; try omega) (fun k hk => by simp [Value.ownBlock] at hk; omega); have rW23 : Row w23 wo.heap.size 3 #[.int .i64 171] := row_grown (by exact (row_new rfl).alloc (.cells #[] 3)) hg23 (fun e => by simp [Value.ownBlock] at e))
        | ((refine step_append_own (by rfl) (.tmp 23) (.tmp 24) 35 (by rfl) (w.heap.size + 2) 3 j0 _ 1 8 Tryz.underlying35 hj0 jz0 jz1 jz2 rfl (by decide) (.slice A23 m c23) m (intsC y.ks) (by rfl) (by exact own23) ⟨(wo.heap.size + 1), 0, none⟩ 1 1 [.int .i64 171] (by rfl) rfl ((rW23.cell1)) (fun u hu => by simp at hu; subst hu; rfl) (by unfold maxLen; omega) (by omega) (by first | omega | (simp; omega)) ?_); intro v25 w25 own25 hg25 hob25; obtain ⟨A25, c25, rfl, hc25, hm25⟩ := own_slice own25; obtain ⟨g25, rfl, hg251, hg252⟩ := own_form5 own25 (by omega); have hX25 := own_grown (e := 37) (v := .slice (some ⟨g, 0, none⟩) n c1) (by exact hX23) hg25 (fun b e e2 => own_two hX23 own23 ne_ND b e2 e); have x25 := (hX25.cellAt (q * 5 + 3) (by omega)).trans (ndsC_at _ q _ HAT.out 3 (by omega)); simp only [ndC] at x25; replace x25 : w25.cell? ⟨g, q * 5 + 3, none⟩ = some (.slice K m kc) := (by rw [x25]; rfl); have f25 := hX25.frozenAt (q * 5 + 3); have hcc25 : (m : Int) ≤ (c25 : Int) := (by omega); have bw25 : Below wo.heap.size wo w25 := Below.grown (by first | exact (bw23).drew | exact bw23) hg25 (by first | omega | (simp; omega)) (fun k hk => by rcases hob23 with e | e <;> (rw [hk] at e; simp [Value.ownBlock] at e; omega)))
        | ((refine step_append_own (by rfl) (.tmp 23) (.tmp 24) 35 (by rfl) (w.heap.size + 2) 3 j0 _ 1 8 Tryz.underlying35 hj0 jz0 jz1 jz2 rfl (by decide) (.slice A23 m c23) m (intsC y.ks) (by rfl) (by exact own23) ⟨wo.heap.size, 0, none⟩ 1 1 [.int .i64 171] (by rfl) rfl ((rW23.cell1)) (fun u hu => by simp at hu; subst hu; rfl) (by unfold maxLen; omega) (by omega) (by first | omega | (simp; omega)) ?_); intro v25 w25 own25 hg25 hob25; obtain ⟨A25, c25, rfl, hc25, hm25⟩ := own_slice own25; obtain ⟨g25, rfl, hg251, hg252⟩ := own_form5 own25 (by omega); have hX25 := own_grown (e := 37) (v := .slice (some ⟨g, 0, none⟩) n c1) (by exact hX23) hg25 (fun b e e2 => own_two hX23 own23 ne_ND b e2 e); have x25 := (hX25.cellAt (q * 5 + 3) (by omega)).trans (ndsC_at _ q _ HAT.out 3 (by omega)); simp only [ndC] at x25; replace x25 : w25.cell? ⟨g, q * 5 + 3, none⟩ = some (.slice K m kc) := (by rw [x25]; rfl); have f25 := hX25.frozenAt (q * 5 + 3); have hcc25 : (m : Int) ≤ (c25 : Int) := (by omega); have bw25 : Below wo.heap.size wo w25 := Below.grown (by first | exact (bw23).drew | exact bw23) hg25 (by first | omega | (simp; omega)) (fun k hk => by rcases hob23 with e | e <;> (rw [hk] at e; simp [Value.ownBlock] at e; omega)))
        | ((refine step_append_own (by rfl) (.tmp 23) (.tmp 24) 35 (by rfl) (w.heap.size + 2) 3 j0 _ 1 8 Tryz.underlying35 hj0 jz0 jz1 jz2 rfl (by decide) (.slice A23 m c23) m (intsC y.ks) (by rfl) (by exact own23.alloc _) ⟨w23.heap.size, 0, none⟩ 1 1 [.int .i64 171] (by rfl) rfl (cell_one_new _ _ _) (fun u hu => by simp at hu; subst hu; rfl) (by unfold maxLen; omega) (by omega) (by first | omega | (simp; omega)) ?_); intro v25 w25 own25 hg25 hob25; obtain ⟨A25, c25, rfl, hc25, hm25⟩ := own_slice own25; obtain ⟨g25, rfl, hg251, hg252⟩ := own_form5 own25 (by omega); have hX25 := own_grown (e := 37) (v := .slice (some ⟨g, 0, none⟩) n c1) (by exact hX23.alloc _) hg25 (fun b e e2 => own_two hX23 own23 ne_ND b e2 e); have x25 := (hX25.cellAt (q * 5 + 3) (by omega)).trans (ndsC_at _ q _ HAT.out 3 (by omega)); simp only [ndC] at x25; replace x25 : w25.cell? ⟨g, q * 5 + 3, none⟩ = some (.slice K m kc) := (by rw [x25]; rfl); have f25 := hX25.frozenAt (q * 5 + 3); have hcc25 : (m : Int) ≤ (c25 : Int) := (by omega); have bw25 : Below wo.heap.size wo w25 := Below.grown (by first | exact ((bw23.alloc (by omega) _)).drew | exact (bw23.alloc (by omega) _)) hg25 (by first | omega | (simp; omega)) (fun k hk => by rcases hob23 with e | e <;> (rw [hk] at e; simp [Value.ownBlock] at e; omega)))
        | fail)
      all_goals
        go_wp2
        obtain ⟨l2, e1, e2, e3, e4⟩ := lent_round HLL.out HLM.out HTR.out HLK.out bw25 HW.out HM.out hX25 own25
        refine ⟨⟨q + 1, l2, by go_num, by omega, Lib.hid e1, Lib.hid e2, Lib.hid e3, Lib.hid e4, ?_, ?_, ?_⟩, by simp [intOf]; omega⟩
        · exact (rT.below bw25 lT).far (by show w.heap.size ≠ g; omega) _
        · exact (rO.below bw25 lO).far (by show w.heap.size + 1 ≠ g; omega) _
        · exact (hb.trans (bw25.mono hz)).setCell (by show w.heap.size ≤ g; omega) _
    · obtain rfl : q = n := by omega
      have hown := HO.out
      rw [show r.drop q = [] from List.drop_eq_nil_of_le (by rw [HRL.out]; exact Nat.le_refl _), List.append_nil] at hown
      have HOW := Lib.hid hown
      have t0 := rT.cell 0
      simp at t0
      have oF := rO.free 0
      clear hown HO
      go_upto_region 6 with fail
      go_region_law (first
        | (refine step_append_own (by rfl) (.tmp 35) (.tmp 37) 22 (by rfl) (w.heap.size + 2) 37 i0 _ 5 64 Tryz.underlying22 hi0 iz0 iz1 iz2 rfl (by decide) (.slice A1 q c1) q (ndsC l1) (by rfl) (HOW.out.alloc _) ⟨wo.heap.size, 0, none⟩ 1 1 (ndsC [markN]) (by rfl) rfl (mark_new wo) (fun u hu => by simp [ndsC, ndC, markN] at hu; rcases hu with rfl | rfl | rfl | rfl | rfl <;> rfl) (by unfold maxLen; omega) (by omega) (by first | omega | (simp; omega)) ?_; intro v38 w38 own38 hg38 hob38; obtain ⟨A38, c38, rfl, hc38, hm38⟩ := own_slice own38; have r38 : Row w38 w.heap.size 24 #[.slice A q c] := row_grown (by exact rT.alloc _) hg38 (row_ne rT HOW.out (by decide)); have o38 : Row w38 (w.heap.size + 1) 24 #[.slice none 0 0] := row_grown (by exact rO.alloc _) hg38 (row_ne rO HOW.out (by decide)); have oF38 := o38.free 0; have oL38 := o38.lt; have oC38 := o38.cell 0; simp at oC38; have x38 := r38.cell 0; simp at x38; have hcc38 : (q : Int) ≤ (c38 : Int) := (by omega))
        | fail)
      all_goals
        go_wp2
      all_goals
        have r2 := row_put1 o38 (.slice A38 q c38)
        have r20 := r2.cell 0
        simp at r20
        refine bodyPost_ret (v := .agg #[.slice A38 q c38]) (by simp [results, Tryz.results5, go_sem, r20, oF38, oL38]) rfl ?_
        refine ⟨⟨_, rfl, l1, ?_, ?_⟩, ?_⟩
        · have hm1 := HLL.out
          refine (LentT.set_row1 ⟨⟨A38, c38, by rw [hm1], by rw [hm1, ndsC_snoc]; exact own38⟩, fun p hp => ?_, fun p hp => ((HLK.out) p hp).2⟩ o38 (by decide) (by decide) _).mono (by omega)
          obtain ⟨K, kc, e, h⟩ := ((HLK.out) p hp).1
          exact ⟨K, kc, e, own_grown (by exact h.alloc _) hg38 (fun b e e2 => own_two HOW.out h ne_ND b e e2)⟩
        · rw [HLM.out, List.take_of_length_le (by rw [HRL.out]; exact Nat.le_refl _)]; exact HR1.out
        · exact (Below.grown (by first | exact (hb.alloc hz _).drew | exact hb.alloc hz _) hg38 (by first | omega | (simp; omega)) (fun k hk => by have := own_ge HOW.out k hk; omega)).setCell (by show w.heap.size ≤ w.heap.size + 1; omega) _
end Go.Proofs.YtpkdhciokiomlaaGreatDoor
