/- The walk of the program's Make. -/
import Derived.Test.YtjaijlkonkgnmaaDoorHBJ
import Derived.Test.YtjaijlkonkgnmaaDoorHBC
import Derived.Deep.RegionLaw
import Derived.Deep.CutRange
namespace Go.Proofs.YtjaijlkonkgnmaaDoor
set_option linter.unusedVariables false
set_option linter.unusedSimpArgs false
set_option linter.unnecessarySimpa false
open Go.RowKit
attribute [local go_sem] cell_alloc_add cell_set_add lt_more
theorem step_append_own {P : Program} {ops : Array Oper} {o : Oper} {a : Act} {w : World} {K : Act → World → Prop} {Q : Exit → Act → World → Prop} {E : Prop} (hgd : o.guard = none) (s x : Operand) (t : TypeId)
    (ho : o.op = .call { callee := .builtin .append, args := #[s, x], argTypes := #[t, t] })
    (base : Nat) (e : TypeId) (i : TypeInfo) (z : Value) (size bytes : Nat) (ht : P.underlying t = some (.slice e)) (hi : P.info? e = some i) (hz : i.zero = some z)
    (hsize : i.size = size) (hby : i.bytes = bytes) (hzs : z.cells.size = size) (hsz : 0 < size)
    (v : Value) (n : Nat) (xs : List Value) (hs : a.eval s = v) (hown : w.ownsRow base e size v n xs)
    (ad : Addr) (m c : Nat) (news : List Value) (hx : a.eval x = .slice (some ad) m c) (hl : news.length = m * size) (hnews : ∀ j u, news[j]? = some u → w.cell? (ad.add j) = some u) (h1 : ∀ u ∈ news, u.oneCell' = true)
    (h63 : n + m ≤ maxLen) (hbytes : (n + m) * bytes ≤ 140737488355328) (hbase : base ≤ w.heap.size)
    (h : ∀ v' w', w'.ownsRow base e size v' (n + m) (xs ++ news) → w.grownBy w' v.ownBlock → (v'.ownBlock = v.ownBlock ∨ v'.ownBlock = some w.heap.size) → K (a.put o.dst v') w') : if Region.wanted o (yielded ops a.tmps) = true then Oper.wp P o a w K Q else E := by
  rw [if_pos (by simp [Region.wanted, hgd])]
  obtain ⟨v', w', hr, h2, h3, _, h5⟩ := run_append_own_at (P := P) w base t o.type e i z size bytes ht hi hz hsize hby hzs hsz v n xs hown ad m c news hl hnews h1 h63 hbytes hbase
  unfold Oper.wp execOp
  simp only [ho, resolve, invoke, builtin, Sem.run_bind, Sem.run_pure, Result.andThen_ok, List.map_toArray, List.map_cons, List.map_nil, hs, hx, hr]
  exact h v' w' h2 h3 h5
set_option maxRecDepth 100000 in
set_option maxHeartbeats 16000000 in
theorem Make_any (y : Nd) (S0 : Option Addr) (n0 c0 : Nat) (Ls : List (List Nd)) (N : Nat) (hN : Ls.length = N) (K : Option Addr) (c : Nat) (hc : N ≤ c) (hm : c ≤ maxLen) (hsum : sumL Ls ≤ 1000000) (hNN : N ≤ 1000000) (hks : ∀ q, q < N → ∀ j : Nat, (nd (Ls.getD q []) j).ks.length ≤ 1000000000000) (hym : -9223372036854775808 ≤ y.m ∧ y.m ≤ 9223372036854775807) (w : World) (h : Forest w w.heap.size K Ls) :
    Calls Tryd.prog 10 #[.agg #[.int .i64 y.k, .string y.x, .int .i64 y.m, .slice S0 n0 c0, .int .i64 y.p], .slice K N c] w fun e w' => (∃ v l, e = .returned (.agg #[v]) ∧ OwnT w' w.heap.size v l ∧ l.map (·.1) = mkL y Ls) ∧ Below w.heap.size w w' := by
  have hF := Lib.hid h
  have HN := Lib.hid hN
  have HK := Lib.hid hks
  have HS := Lib.hid hsum
  have HW := Lib.hid hym
  clear h hN hks hsum hym
  obtain ⟨i0, hi0, iz0, iz1, iz2⟩ := info_parts infoNode
  obtain ⟨j0, hj0, jz0, jz1, jz2⟩ := info_parts infoInt
  unfold maxLen at hm
  obtain ⟨k, x, m, ks0, p⟩ := y
  simp only at HW ⊢
  have HR := Lib.hid (show mkL ⟨k, x, m, ks0, p⟩ Ls = ⟨k, x, m, (mkA [] [] Ls).1, p⟩ :: (mkA [] [] Ls).2 from rfl)
  have HA := Lib.hid (show mkA [] [] (Ls.drop 0) = mkA [] [] Ls from rfl)
  generalize mkL ⟨k, x, m, ks0, p⟩ Ls = RL at *
  generalize mkA [] [] Ls = RA at *
  go_enter Tryd.func10, Tryd.ntmps10
  go_upto_region 3 with fail
  obtain ⟨wa, hwa⟩ : ∃ wa : World, wa = (((w.alloc (.cells #[.int .i64 k, .string x, .int .i64 m, .slice none 0 0, .int .i64 p] 24)).alloc (.cells #[.slice none 0 0] 29)).alloc (.cells #[.int .i64 k, .string x, .int .i64 m, .slice none 0 0, .int .i64 p] 24)).alloc (.cells #[.slice (some ⟨w.heap.size + 1 + 1, 0, none⟩) 1 1] 29) := ⟨_, rfl⟩
  rw [← hwa]
  have rR : Row wa (w.heap.size + 1) 29 #[.slice none 0 0] := by rw [hwa]; exact ((row_new (by simp)).alloc _).alloc _
  have rT : Row wa (w.heap.size + 1 + 1 + 1) 29 #[.slice (some ⟨w.heap.size + 1 + 1, 0, none⟩) 1 1] := by rw [hwa]; exact row_new (by simp)
  have oT : OwnT wa (w.heap.size + 1 + 1) (.slice (some ⟨w.heap.size + 1 + 1, 0, none⟩) 1 1) [(⟨k, x, m, [], p⟩, .slice none 0 0)] := by
    rw [hwa]
    refine ⟨?_, Kids.one (World.ownsRow_nil _ _ _ _) ⟨HW.out, fun k hk => by cases hk⟩⟩
    refine World.ownsRow.alloc ?_ _
    have e := World.ownsRow_lit (base := w.heap.size + 1 + 1) (e := 24) (size := 5) ((w.alloc (.cells #[.int .i64 k, .string x, .int .i64 m, .slice none 0 0, .int .i64 p] 24)).alloc (.cells #[.slice none 0 0] 29)) #[.int .i64 k, .string x, .int .i64 m, .slice none 0 0, .int .i64 p] 1 (by simp) (by decide) rfl
    simpa [ndsC, ndC] using e
  have bA : Below w.heap.size w wa := by rw [hwa]; exact (by (repeat (first | (with_reducible exact Below.refl _ _) | (with_reducible assumption) | (with_reducible refine Below.setCell ?_ (by first | omega | (simp <;> omega)) _) | (with_reducible refine Below.alloc ?_ (by first | omega | (simp <;> omega)) _) | (with_reducible refine Below.drew ?_) | (with_reducible refine below_drewN ?_ _) | (with_reducible refine Below.trans ?_ (Below.mono (by with_reducible assumption) (by first | omega | (simp <;> omega)))))))
  clear hwa
  go_wp2
  go_loopw [15] (fun t wr => ∃ (q : Nat) (ks : List Int) (acc : List Nd) (v S : Value) (l : List NdV), t = .int .i64 (q : Int) ∧ q ≤ N ∧ Hid (mkA ks acc (Ls.drop q) = RA) ∧ Hid (l.map (·.1) = acc) ∧ Hid (l.length + 1 + sumL (Ls.drop q) ≤ 1000001 ∧ ks.length ≤ l.length ∧ ∀ k ∈ ks, 0 ≤ k ∧ k ≤ 1000001) ∧ Row wr (w.heap.size + 1) 29 #[.slice none 0 0] ∧ Row wr (w.heap.size + 1 + 1 + 1) 29 #[v] ∧ OwnT wr (w.heap.size + 1 + 1) v ((⟨k, x, m, ks, p⟩, S) :: l) ∧ Below w.heap.size w wr) (fun t _ => N - (intOf t).toNat)
  case atStart => exact ⟨0, [], [], _, _, [], rfl, Nat.zero_le _, HA, Lib.hid rfl, Lib.hid ⟨by have := HS.out; simp; omega, by simp, fun k hk => by cases hk⟩, rR, rT, oT, bA⟩
  case round =>
    obtain ⟨q, ks, acc, v, S, l, rfl, hq, HM, HL, HB, hR, hT, hO, hb⟩ := hrel
    clear rR rT oT bA
    generalize hwo : wr = wo at *
    clear hwo
    have hz := Below.size hb
    have hrl := hR.lt
    have htl := hT.lt
    by_cases hlt : q < N
    · have hqL : q < Ls.length := by rw [HN.out]; exact hlt
      obtain ⟨ad, A, c1, rfl, hab, hcell, hl1, hl2, hTr⟩ := hF.out q hqL
      have hcw : wo.cell? (ad.add q) = some (.slice A (Ls.getD q []).length c1) := (hb.cell (by rw [block_add]; exact hab)).trans hcell
      have HTr := Lib.hid hTr
      have HD := Lib.hid (drop_L [] hqL)
      have HKq := Lib.hid (HK.out q hlt)
      have hB0 := HB.out
      rw [HD.out, sumL_cons] at hB0
      have HB2 := Lib.hid hB0
      clear hcell hTr hB0 HB
      unfold maxLen at hl2
      generalize hLq : Ls.getD q [] = Lq at *
      clear hLq
      generalize hlq : Lq.length = nq at *
      have HLQ := Lib.hid hlq
      clear hlq
      obtain ⟨wb, hwb⟩ : ∃ wb : World, wb = wo.alloc (.cells #[.slice A nq c1] 29) := ⟨_, rfl⟩
      have bB : Below wo.heap.size wo wb := by rw [hwb]; exact (Below.refl _ _).alloc (Nat.le_refl _) _
      have r7 : Row wb wo.heap.size 29 #[.slice A nq c1] := by rw [hwb]; exact row_new rfl
      have rR := hR.below bB hrl
      have rT := hT.below bB htl
      have oT := hO.below bB
      have bb := hb.trans (bB.mono hz)
      have zb : wo.heap.size < wb.heap.size := by rw [hwb]; simp
      go_upto_region 6 with fail
      rw [← hwb]
      clear hwb hT hR hcw
      have c7 := r7.cell 0
      simp at c7
      by_cases hn0 : nq = 0
      · have hn1 : ((nq : Int) == 0) = true := beq_iff_eq.2 (by omega)
        go_wp2
        have hM := HM.out
        rw [HD.out, mkA_skip (by rw [HLQ.out]; exact hn0)] at hM
        exact ⟨⟨q + 1, ks, acc, v, S, l, by go_num, by omega, Lib.hid hM, HL, Lib.hid ⟨by have := HB2.out; omega, HB2.out.2⟩, rR, rT, oT, bb⟩, by simp [intOf]; omega⟩
      · have hn1 : ((nq : Int) == 0) = false := beq_eq_false_iff_ne.2 (by omega)
        obtain ⟨An, cn, rfl, hcn, hcm⟩ := own_slice oT.row
        obtain ⟨gn, rfl, hgn1, hgn2⟩ := own_form5 oT.row (by simp)
        simp only [List.length_cons] at hcn oT rT
        have hll := HB2.out
        obtain ⟨hll1, hll2, hll3⟩ := hll
        have t0 := rT.cell 0
        simp at t0
        have hSo : wb.ownsRow (w.heap.size + 1 + 1) 3 1 S ks.length (intsC ks) := oT.kids.row (⟨k, x, m, ks, p⟩, S) (by simp)
        obtain ⟨AS, cS, rfl, hcS, hmS⟩ := own_slice hSo
        have n3 := (oT.row.cellAt 3 (by omega)).trans (ndsC_3 _ _)
        simp only at n3
        have hge2 := Lib.hid (own_ge hSo)
        have HSO := Lib.hid hSo
        have HOT := Lib.hid oT
        have fne := Lib.hid (own_two (oT.row) (oT.kids.row (⟨k, x, m, ks, p⟩, .slice AS ks.length cS) (by simp)) ne_ND)
        have hwr : IntKind.i64.wrap ((l.length : Int) + 1) = (l.length : Int) + 1 := by rw [IntKind.wrap_i64]; omega
        have tne := Lib.hid (row_ne rT hSo (by decide))
        have htb : w.heap.size + 1 + 1 + 1 < wb.heap.size := by omega
        clear hSo oT
        go_upto_region 8 with fail
        go_cut [] from 26 to 37 (fun wx => ∃ S8 : Value, OwnT wx (w.heap.size + 1 + 1) (.slice (some ⟨gn, 0, none⟩) (l.length + 1) cn) ((⟨k, x, m, ks ++ [((l.length + 1 : Nat) : Int)], p⟩, S8) :: l) ∧ Row wx (w.heap.size + 1) 29 #[.slice none 0 0] ∧ Row wx (w.heap.size + 1 + 1 + 1) 29 #[.slice (some ⟨gn, 0, none⟩) (l.length + 1) cn] ∧ Row wx wo.heap.size 29 #[.slice A nq c1] ∧ Below w.heap.size w wx)
        case first =>
          have rne := Lib.hid (row_ne rR HSO.out (by decide))
          have kne := Lib.hid (row_ne r7 HSO.out (by decide))
          have gq1 : w.heap.size + 1 ≠ gn := fun e => row_ne rR HOT.out.row (by decide) (by rw [← e]; rfl)
          have gq2 : w.heap.size + 1 + 1 + 1 ≠ gn := fun e => row_ne rT HOT.out.row (by decide) (by rw [← e]; rfl)
          have gq3 : wo.heap.size ≠ gn := fun e => row_ne r7 HOT.out.row (by decide) (by rw [← e]; rfl)
          go_region_law ((refine step_append_own (by rfl) (.tmp 32) (.tmp 34) 22 (by rfl) (w.heap.size + 1 + 1) 3 j0 _ 1 8 Tryd.underlying22 hj0 jz0 jz1 jz2 rfl (by decide) (.slice AS ks.length cS) ks.length (intsC ks) (by rfl) (HSO.out.alloc _) ⟨wb.heap.size, 0, none⟩ 1 1 [.int .i64 ((l.length : Int) + 1)] (by rfl) rfl (cell_one_new _ _ _) (fun u hu => by simp at hu; subst hu; rfl) (by unfold maxLen; omega) (by omega) (by simp; omega) ?_); intro S8 w8 hS8 hg8 hob8; obtain ⟨A8, cS8, rfl, hcS8, hmS8⟩ := own_slice hS8; have hX8 := own_grown (e := 24) (v := .slice (some ⟨gn, 0, none⟩) (l.length + 1) cn) (by exact HOT.out.row.alloc _) hg8 (fun g e e2 => fne.out g e2 e); have c8 := (hX8.cellAt 3 (by omega)).trans (ndsC_3 _ _); have f8 := hX8.frozenAt 3; have rT8 := row_grown (g := w.heap.size + 1 + 1 + 1) (t := 29) (by exact rT.alloc _) hg8 tne.out; have t8 := rT8.cell 0; simp at t8)
          all_goals
            go_wp2
            go_meet
            refine ⟨_, OwnT.head (n := l.length + 1) (by exact HOT.out.below (by (repeat (first | (with_reducible exact Below.refl _ _) | (with_reducible assumption) | (with_reducible refine Below.setCell ?_ (by first | omega | (simp <;> omega)) _) | (with_reducible refine Below.alloc ?_ (by first | omega | (simp <;> omega)) _) | (with_reducible refine Below.drew ?_) | (with_reducible refine below_drewN ?_ _) | (with_reducible refine Below.trans ?_ (Below.mono (by with_reducible assumption) (by first | omega | (simp <;> omega)))))))) rfl (by rw [List.length_append]; show World.ownsRow _ _ _ _ _ _ (intsC (ks ++ [((l.length + 1 : Nat) : Int)])); rw [intsC, List.map_append]; exact hS8) hg8 hob8 (fun k hk => by
              rcases List.mem_append.1 hk with hk | hk
              · have := hll3 k hk; omega
              · simp at hk; omega), ?_, ?_, ?_, ?_⟩
            · exact (row_grown (by exact rR.alloc _) hg8 rne.out).far gq1 _
            · exact rT8.far gq2 _
            · exact (row_grown (by exact r7.alloc _) hg8 kne.out).far gq3 _
            · exact (Below.grown (by (repeat (first | (with_reducible exact Below.refl _ _) | (with_reducible assumption) | (with_reducible refine Below.setCell ?_ (by first | omega | (simp <;> omega)) _) | (with_reducible refine Below.alloc ?_ (by first | omega | (simp <;> omega)) _) | (with_reducible refine Below.drew ?_) | (with_reducible refine below_drewN ?_ _) | (with_reducible refine Below.trans ?_ (Below.mono (by with_reducible assumption) (by first | omega | (simp <;> omega))))))) hg8 (by simp; omega) (fun j hj => by have := hge2.out j hj; omega)).setCell (by show w.heap.size ≤ gn; omega) _
        case rest =>
          obtain ⟨S8, oT2, rR2, rT2, r72, bb2⟩ := hcut
          clear HSO HOT fne tne hge2 n3 hcS hmS rR rT r7 bb t0 c7 hO bB hgn2 htb zb hgn1
          have oL := Lib.hid (own_lt oT2.row)
          have HT2 := Lib.hid oT2
          have zc := Below.size bb2
          have lR := rR2.lt
          have lT := rT2.lt
          have l7 := r72.lt
          have t0 := rT2.cell 0
          have c7 := r72.cell 0
          simp at t0 c7
          have HMV := Lib.hid (fun W (hb2 : Below w.heap.size w W) => moved_any A Lq nq HLQ.out c1 ((l.length : Int) + 1) hl1 (by unfold maxLen; exact hl2) (by omega) HKq.out W ((HTr.out.below hb2).more hb2.size))
          go_upto_region 9 with fail
          go_region_law (first
            | (go_simp; go_at_call 22; (with_reducible refine (HMV.out _ (by (repeat (first | (with_reducible exact Below.refl _ _) | (with_reducible assumption) | (with_reducible refine Below.setCell ?_ (by first | omega | (simp <;> omega)) _) | (with_reducible refine Below.alloc ?_ (by first | omega | (simp <;> omega)) _) | (with_reducible refine Below.drew ?_) | (with_reducible refine below_drewN ?_ _) | (with_reducible refine Below.trans ?_ (Below.mono (by with_reducible assumption) (by first | omega | (simp <;> omega)))))))).mono ?_); rintro e w9 ⟨⟨v9, l9, rfl, hO9, hl9⟩, b9⟩; dsimp only; have b9' : Below wc.heap.size wc w9 := ⟨b9.os, b9.tape, b9.output, b9.size, b9.block⟩; have z9 := Below.size b9'; have hn9 : l9.length = nq := (by have := congrArg List.length hl9; simp at this; rw [this]; exact HLQ.out); have hr9 := hO9.row; rw [hn9] at hr9; obtain ⟨A9, c9, rfl, hc9, hm9⟩ := own_slice hr9; obtain ⟨g9, rfl, hg91, hg92⟩ := own_form5 hr9 (by omega); have oT9 := HT2.out.below b9'; have rT9 := rT2.below b9' lT; have t9 := rT9.cell 0; simp at t9; have HN9 := Lib.hid hn9; have HL9 := Lib.hid hl9; clear hn9 hl9 b9)
            | ((refine step_append_own (by rfl) (.tmp 39) (.tmp 43) 27 (by rfl) (w.heap.size + 1 + 1) 24 i0 _ 5 64 Tryd.underlying27 hi0 iz0 iz1 iz2 rfl (by decide) (.slice (some ⟨gn, 0, none⟩) (l.length + 1) cn) (l.length + 1) (ndsC ((⟨k, x, m, ks ++ [((l.length + 1 : Nat) : Int)], p⟩, S8) :: l)) (by rfl) oT9.row ⟨g9, 0, none⟩ nq c9 (ndsC l9) (by rfl) (by rw [ndsC_len, HN9.out]) (hr9.cells rfl) (ndsC_one hO9.kids) (by unfold maxLen; omega) (by omega) (by omega) ?_); intro v10 w10 hX10 hg10 hob10; obtain ⟨A10, c10, rfl, hc10, hm10⟩ := own_slice hX10; have rT10 := row_grown rT9 hg10 (row_ne rT9 oT9.row (by decide)); have t10 := rT10.cell 0; simp at t10; have f10 := rT10.free 0; have l10 := rT10.lt)
            | fail)
          all_goals
            go_wp2
          all_goals
            have hX11 := hX10
            rw [← HN9.out] at hX11
            have oT10 := OwnT.app (B := wc.heap.size) oT9 (hO9.mono (by show wc.heap.size ≤ wc.heap.size; exact Nat.le_refl _)) (by omega) (fun p hp g e => by
              have := HT2.out.kids.lt p hp g e
              exact this) hX11 hg10
            rw [HN9.out] at oT10
            have eacc : acc.length = l.length := by rw [← HL.out, List.length_map]
            refine ⟨⟨q + 1, ks ++ [((l.length + 1 : Nat) : Int)], acc ++ Lq.map (shN ((l.length + 1 : Nat) : Int)), .slice A10 (l.length + 1 + nq) c10, S8, l ++ l9, by go_num, by omega, ?_, ?_, ?_, ?_, ?_, ?_, ?_⟩, by simp [intOf]; omega⟩
            · have hM := HM.out
              rw [HD.out, mkA_step (by rw [HLQ.out]; exact hn0), eacc] at hM
              exact Lib.hid hM
            · refine Lib.hid ?_
              rw [List.map_append, HL.out, HL9.out]; rfl
            · refine Lib.hid ⟨?_, ?_, ?_⟩
              · rw [List.length_append, HN9.out]; omega
              · rw [List.length_append, List.length_append, HN9.out]; simp; omega
              · intro k hk
                rcases List.mem_append.1 hk with hk | hk
                · exact hll3 k hk
                · simp at hk; omega
            · exact (row_grown (rR2.below b9' lR) hg10 (row_ne (rR2.below b9' lR) oT9.row (by decide))).far (by simp) _
            · exact row_put1 rT10 _
            · exact oT10.set_row rT10 (by decide) (by decide) _
            · exact ((bb2.trans (b9'.mono zc)).grown hg10 (by omega) (fun j hj => by have := own_ge oT9.row j hj; omega)).setCell (by show w.heap.size ≤ w.heap.size + 1 + 1 + 1; omega) _
    · obtain rfl : q = N := by omega
      have hM := HM.out
      rw [List.drop_of_length_le (by rw [HN.out]; exact Nat.le_refl _), mkA_nil] at hM
      have HM2 := Lib.hid hM
      obtain ⟨A, c2, rfl, _, _⟩ := own_slice hO.row
      have HO := Lib.hid hO
      have t0 := hT.cell 0
      have r0 := hR.cell 0
      have rf := hR.free 0
      simp at t0 r0
      clear hM HM hO
      go_wp2
      refine bodyPost_ret (v := .agg #[.slice A (l.length + 1) c2]) (by simp [results, Tryd.results10, go_sem, rf, r0, hrl]) rfl ?_
      refine ⟨⟨_, _, rfl, (HO.out.far (a := ⟨w.heap.size + 1, 0, none⟩) (by show w.heap.size + 1 < _; omega) _).mono (by omega), ?_⟩, (by (repeat (first | (with_reducible exact Below.refl _ _) | (with_reducible assumption) | (with_reducible refine Below.setCell ?_ (by first | omega | (simp <;> omega)) _) | (with_reducible refine Below.alloc ?_ (by first | omega | (simp <;> omega)) _) | (with_reducible refine Below.drew ?_) | (with_reducible refine below_drewN ?_ _) | (with_reducible refine Below.trans ?_ (Below.mono (by with_reducible assumption) (by first | omega | (simp <;> omega)))))))⟩
      rw [HR.out, ← HM2.out, ← HL.out]; rfl
end Go.Proofs.YtjaijlkonkgnmaaDoor
