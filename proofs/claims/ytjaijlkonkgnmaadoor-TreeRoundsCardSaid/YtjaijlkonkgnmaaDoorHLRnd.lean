/- The walk of chapter 3's law TreeRounds. -/
import Derived.Test.YtjaijlkonkgnmaaDoorHRp
import Derived.Test.YtjaijlkonkgnmaaDoorHM3
import Derived.Test.YtjaijlkonkgnmaaDoorHBY
import Derived.Test.YtjaijlkonkgnmaaDoorHBL
import Derived.Test.YtjaijlkonkgnmaaDoorHBA
import Derived.Deep.CutRange
namespace Go.Proofs.YtjaijlkonkgnmaaDoor
set_option linter.unusedVariables false
set_option linter.unusedSimpArgs false
set_option linter.unnecessarySimpa false
open Go.RowKit
attribute [local go_sem] cell_alloc_add cell_set_add lt_more
theorem infoTree : (Tryd.prog.info? 29).map (fun i => (i.zero, i.size, i.bytes)) = some (some (.agg #[.slice none 0 0]), 1, 24) := by kernel_rfl
theorem OwnT.grown_tr {W W' : World} {base b n : Nat} {v v8 : Value} {l : List NdV} {xs : List Value} (h : OwnT W base v l) (ho : W.ownsRow b 29 1 v8 n xs) (hg : W.grownBy W' v8.ownBlock) : OwnT W' base v l :=
  ⟨own_grown h.row hg (fun g e e2 => own_two h.row ho (by decide) g e2 e), ⟨fun p hp => own_grown (h.kids.row p hp) hg (fun g e e2 => own_two (h.kids.row p hp) ho (by decide) g e2 e), h.kids.apart, h.kids.wide⟩⟩
theorem kid_span {L : List Nd} {n e : Nat} (h : Sp L n e) (j : Nat) (hj : j < (nd L n).ks.length) : ∃ b m : Nat, (nd L n).ks.getD j 0 = (b : Int) ∧ Sp L b m := by
  obtain ⟨i, e1, e2, e3⟩ := h.2.2.kid _ (getD_mem hj)
  obtain ⟨m, hs, _⟩ := h.2.2.sub i e2 e3
  exact ⟨i, m, e1, hs⟩
theorem sameB_refl (L : List Nd) : sameB L L = true := (sameB_iff L L).2 ⟨rfl, fun i _ => (sameN_iff _ _).2 ⟨rfl, rfl, rfl, rfl⟩⟩
/-- A row of trees that a call has made. -/
structure Grove (W : World) (base : Nat) (v : Value) (p : Nat) (Ls : List (List Nd)) : Prop where
  len : Ls.length = p
  row : ∃ xs : List Value, W.ownsRow base 29 1 v p xs ∧ ∀ j, j < p → ∃ A c l, xs[j]? = some (.slice A (l : List NdV).length c) ∧ OwnT W base (.slice A l.length c) l ∧ l.map (·.1) = Ls.getD j []
theorem Grove.nil (W : World) (base : Nat) : Grove W base (.slice none 0 0) 0 [] := ⟨rfl, [], World.ownsRow_nil _ _ _ _, fun j hj => by omega⟩
theorem Grove.below {W W' : World} {base p : Nat} {v : Value} {Ls : List (List Nd)} (h : Grove W base v p Ls) (hb : Below W.heap.size W W') : Grove W' base v p Ls := by
  obtain ⟨xs, ho, ht⟩ := h.row
  exact ⟨h.len, xs, own_below ho hb, fun j hj => by
    obtain ⟨A, c, l, e, h1, h2⟩ := ht j hj
    exact ⟨A, c, l, e, h1.below hb, h2⟩⟩
theorem Grove.forest {W : World} {base p : Nat} {A : Option Addr} {c : Nat} {Ls : List (List Nd)} (h : Grove W base (.slice A p c) p Ls) : Forest W W.heap.size A Ls := fun j hj => by
  obtain ⟨xs, ho, ht⟩ := h.row
  rw [h.len] at hj
  obtain ⟨A', c', l, e, h1, h2⟩ := ht j hj
  obtain ⟨g, hA, hg1, hg2⟩ := own_form5 ho (by omega)
  subst hA
  obtain ⟨A2, c2, e2, h3, h4, h5⟩ := h1.tree
  injection e2 with e21 _ e22
  subst e21 e22
  rw [h2] at h5
  have hl : (Ls.getD j []).length = l.length := by rw [← h2, List.length_map]
  refine ⟨_, A', c', rfl, hg2, ?_, by rw [hl]; exact h3, h4, h5⟩
  rw [hl, add_row, Nat.zero_add, ho.cellAt j (by omega), e]
theorem grove_snoc {W W' : World} {base p : Nat} {v v' : Value} {Ls : List (List Nd)} {xs : List Value} {A : Option Addr} {c : Nat} {l : List NdV} {K : List Nd} (hlen : Ls.length = p) (ho : W.ownsRow base 29 1 v p xs)
    (ht : ∀ j, j < p → ∃ A c l, xs[j]? = some (.slice A (l : List NdV).length c) ∧ OwnT W base (.slice A l.length c) l ∧ l.map (·.1) = Ls.getD j []) (hl : OwnT W base (.slice A l.length c) l) (hK : l.map (·.1) = K)
    (ho' : W'.ownsRow base 29 1 v' (p + 1) (xs ++ [.slice A l.length c])) (hg : W.grownBy W' v.ownBlock) : Grove W' base v' (p + 1) (Ls ++ [K]) := by
  have hx : xs.length = p := by have := ho.1; simpa using this
  refine ⟨by simp [hlen], _, ho', fun j hj => ?_⟩
  rcases Nat.lt_or_ge j p with h1 | h1
  · obtain ⟨A', c', l', e, h3, h4⟩ := ht j h1
    refine ⟨A', c', l', by rw [List.getElem?_append_left (by omega)]; exact e, h3.grown_tr ho hg, ?_⟩
    rw [List.getD_eq_getElem?_getD, List.getElem?_append_left (by rw [hlen]; exact h1), ← List.getD_eq_getElem?_getD]; exact h4
  · obtain rfl : j = p := by omega
    refine ⟨A, c, l, by rw [List.getElem?_append_right (by omega), hx, Nat.sub_self]; rfl, hl.grown_tr ho hg, ?_⟩
    rw [List.getD_eq_getElem?_getD, List.getElem?_append_right (by rw [hlen]; exact Nat.le_refl _), hlen, Nat.sub_self]
    exact hK
set_option maxRecDepth 100000 in
set_option maxHeartbeats 16000000 in
theorem TreeRounds_any (A : Option Addr) (L : List Nd) (n c : Nat) (hn : L.length = n) (hc : n ≤ c) (hm : c ≤ maxLen) (hx : ∀ j : Nat, (nd L j).ks.length ≤ 1000000000000000 ∧ (nd L j).x.size ≤ 1000000000000000) (w : World) (h : TreeAt w w.heap.size A L) (hmx : Mx w) (hw00 : 0 < w.heap.size) : Calls Tryd.prog 7 #[.agg #[.slice A n c]] w fun e w' => e = .returned (.bool true) ∧ Below w.heap.size w w' := by
  have HG := Lib.hid (fun W (hb : Below w.heap.size w W) => hn ▸ great_any A L c (by omega) hm hx W (h.later hb))
  have hX := Lib.hid hmx
  have HN := Lib.hid hn
  have hT := Lib.hid h
  have hxs : wt L ≤ 3000 → (∀ j : Nat, (nd L j).x.size ≤ 4000000) ∧ (∀ j : Nat, (nd L j).ks.length ≤ 1000000000000) ∧ n ≤ 1000000 := fun hg => ⟨fun j => by have := wt_nd L j; omega, fun j => by have := wt_nd L j; omega, by have := wt_len L; omega⟩
  have HCK := Lib.hid (fun hg W (hb : Below w.heap.size w W) => hn ▸ Check_any A L c (by omega) hm (by rw [hn]; have := (hxs hg).2.2; omega) (hxs hg).1 W (h.later hb) (hmx.below hb hw00) (by have := Below.size hb; omega))
  have HSU := Lib.hid (fun hg i W (hb : Below w.heap.size w W) => Sub_any A L n c hn hc hm (hxs hg).2.2 (hxs hg).1 (hxs hg).2.1 i W (h.later hb) (hmx.below hb hw00) (by have := Below.size hb; omega))
  have HGI := Lib.hid (good_iff (L := L))
  have HOR := Lib.hid (chk_or (L := L))
  have hwn := Lib.hid (fun j => wt_nd L j)
  have hm2 := Lib.hid hm
  unfold maxLen at hm
  obtain ⟨wa, hwa⟩ : ∃ wa : World, wa = w.alloc (.cells #[.slice A n c] 29) := ⟨_, rfl⟩
  have bA : Below w.heap.size w wa := by rw [hwa]; exact (by (repeat (first | (with_reducible exact Below.refl _ _) | (with_reducible assumption) | (with_reducible refine Below.setCell ?_ (by first | omega | (simp <;> omega)) _) | (with_reducible refine Below.alloc ?_ (by first | omega | (simp <;> omega)) _) | (with_reducible refine Below.drew ?_) | (with_reducible refine below_drewN ?_ _) | (with_reducible refine Below.trans ?_ (Below.mono (by with_reducible assumption) (by first | omega | (simp <;> omega)))))))
  have zA : w.heap.size < wa.heap.size := by rw [hwa]; simp
  have rA : Row wa w.heap.size 29 #[.slice A n c] := by rw [hwa]; exact row_new rfl
  have a0 := rA.cell 0
  simp at a0
  clear h hn hx hmx hxs
  go_enter Tryd.func7, Tryd.ntmps7
  go_upto_region 1 with fail
  rw [← hwa]
  clear hwa
  by_cases hg1 : 3000 < wt L
  · rw [decide_eq_true hg1] at HG
    go_wp2_with (first
      | (go_at_call 8; (with_reducible refine (HG.out _ bA).mono ?_); rintro e w1 ⟨rfl, b1⟩)
      | fail)
    go_ret
    exact ⟨rfl, bA.trans (b1.mono (by omega))⟩
  · rw [decide_eq_false hg1] at HG
    have hg : wt L ≤ 3000 := by omega
    have HCK := Lib.hid (HCK.out hg)
    have HSU := Lib.hid (HSU.out hg)
    by_cases h60 : 60 < n
    · have h60' : (60 : Int) < (n : Int) := by omega
      go_wp2_with (first
        | (go_at_call 8; (with_reducible refine (HG.out _ bA).mono ?_); rintro e w1 ⟨rfl, b1⟩; have q1 := bA.trans (b1.mono bA.size); have rA1 := rA.below b1 zA; have e1 := rA1.cell 0; simp at e1)
        | fail)
      go_ret
      exact ⟨rfl, q1⟩
    · have h60' : ¬ (60 : Int) < (n : Int) := by omega
      rcases hR : chk L with ⟨ra, re⟩
      rw [hR] at HCK HGI HOR
      simp only at HCK HGI
      go_upto_region 4 with (first
        | (go_at_call 8; (with_reducible refine (HG.out _ bA).mono ?_); rintro e w1 ⟨rfl, b1⟩; have q1 := bA.trans (b1.mono bA.size); have rA1 := rA.below b1 zA; have e1 := rA1.cell 0; simp at e1)
        | (go_at_call 16; (with_reducible refine (HCK.out _ q1).mono ?_); rintro r w2 ⟨rfl, b2⟩)
        | fail)
      have q2 := q1.trans (b2.mono q1.size)
      have z2 := Below.size q2
      have rA2 := rA1.below b2 rA1.lt
      have a2 := rA2.cell 0
      have l2 := rA2.lt
      simp at a2
      clear bA zA rA a0 rA1 e1 q1 b1 b2 HCK HG
      by_cases he : re = 0
      · subst he
        have HGT := Lib.hid (HGI.out.1 rfl)
        have HSO := Lib.hid (fun (i e : Nat) (hs : Sp L i e) W (hb : Below w.heap.size w W) => (HSU.out (i : Int) W hb).mono (R' := fun r w' => (∃ v l, r = .returned (.tuple #[.agg #[v], .int .i64 0]) ∧ OwnT w' W.heap.size v l ∧ l.map (·.1) = cutL L i e) ∧ Below W.heap.size W w') fun r w' ⟨⟨v, l, h1, h2, h3⟩, h4⟩ => by
          have h0 : subE L (i : Int) = 0 := by
            unfold subE
            rw [hR, if_pos rfl, if_pos ⟨by omega, by have := hs.1; omega⟩]
          rw [h0] at h1
          obtain ⟨e', h5, h6⟩ := h3.2 h0
          rw [Int.toNat_natCast] at h5 h6
          obtain rfl := hs.det h5
          exact ⟨⟨v, l, h1, h2, h6⟩, h4⟩)
        obtain ⟨i0, hi0, iz0, iz1, iz2⟩ := info_parts infoTree
        clear HSU HOR HGI
        go_wp2
        go_loopw [7] (fun t wr => ∃ q : Nat, q ≤ n ∧ t = .int .i64 (q : Int) ∧ Row wr w.heap.size 29 #[.slice A n c] ∧ Below w.heap.size w wr) (fun t _ => n - (intOf t).toNat)
        case atStart => exact ⟨0, Nat.zero_le _, rfl, rA2, q2⟩
        case round =>
          obtain ⟨q, hq, rfl, rA, hb⟩ := hrel
          clear rA2 q2 z2 a2 l2
          generalize hwo : wr = wo at *
          clear hwo
          have hz := Below.size hb
          have lA := rA.lt
          have a0 := rA.cell 0
          simp at a0
          by_cases hlt : q < n
          · have hqL : q < L.length := by rw [HN.out]; exact hlt
            obtain ⟨ad, rfl, hn⟩ := hT.out q hqL
            have hn' := hn.keep (W' := wo) (fun p hp => hb.cell hp)
            have hbq : (ad.add (q * 5)).block < wo.heap.size := Nat.lt_of_lt_of_le hn.blk hz
            have hba : ad.block < wo.heap.size := by rw [block_add] at hbq; exact hbq
            obtain ⟨K, kc, c0, c1, c2, c3, c4, hK, hkk, hkm⟩ := node_open hn'
            have hym := hn.wm
            obtain ⟨e, hs⟩ := good_sub HGT.out hqL
            have HKN := Lib.hid (hK.more hz)
            have HSP := Lib.hid hs
            have hkq := hwn.out q
            have HCM := Lib.hid (fun Ls hc => cuts_make (L := L) (n := q) (e := e) (by rw [HN.out]; omega) hs (Ls := Ls) hc)
            have HCS := Lib.hid (fun Ls hc => cuts_sum (L := L) (n := q) (e := e) (by rw [HN.out]; omega) hs (Ls := Ls) hc)
            have HKD := Lib.hid (fun j (hj : j < (nd L q).ks.length) => kid_span hs j hj)
            have HC := Lib.hid (And.intro c0 (And.intro c1 (And.intro c2 c4)))
            clear hn hn' hK hs c0 c1 c2 c4
            generalize hyy : nd L q = y at *
            obtain ⟨yk, yx, ym, yks, yp⟩ := y
            simp only at HC c3 hkk HKN hkq HCM HCS HKD hym
            unfold maxLen at hkm
            generalize hMM : yks.length = M at *
            have HMM := Lib.hid hMM
            clear hMM hyy
            have hM3 : M ≤ 3000 := by omega
            go_wp2
            go_loopw [8, 9] (fun v t wi => ∃ (p : Nat) (Ls : List (List Nd)), t = .int .i64 (p : Int) ∧ p ≤ M ∧ Hid (Grove wi wo.heap.size v p Ls) ∧ Hid (∀ j, j < p → ∃ b m : Nat, yks.getD j 0 = (b : Int) ∧ Sp L b m ∧ Ls.getD j [] = cutL L b m) ∧ Below wo.heap.size wo wi) (fun _ t _ => M - (intOf t).toNat)
            case atStart => exact ⟨0, [], rfl, Nat.zero_le _, Lib.hid (Grove.nil _ _), Lib.hid (fun j hj => by omega), Below.refl _ _⟩
            case round =>
              obtain ⟨p, Ls, rfl, hp, HGV, HCU, bi⟩ := hrel
              generalize hwi : wr = wi at *
              clear hwi a0
              have zi := Below.size bi
              have rAi := rA.below bi lA
              have lAi := rAi.lt
              have ai := rAi.cell 0
              simp at ai
              have c3i : wi.cell? ⟨(ad.add (q * 5)).block, (ad.add (q * 5)).off + 3, none⟩ = some (.slice K M kc) := (bi.cell (p := ⟨(ad.add (q * 5)).block, (ad.add (q * 5)).off + 3, none⟩) hbq).trans c3
              clear c3
              have bwi := hb.trans (bi.mono hz)
              obtain ⟨xs0, ho0, -⟩ := HGV.out.row
              obtain ⟨A8, c8, hv8, hc8, hm8⟩ := own_slice ho0
              subst hv8
              clear ho0 xs0
              by_cases hpm : p < M
              · obtain ⟨b, m, hkb, hsb⟩ := HKD.out p hpm
                obtain ⟨kd, hKd, hkbl, kcell⟩ := HKN.out p hpm
                subst hKd
                replace kcell : wi.cell? (kd.add p) = some (.int .i64 (b : Int)) := by
                  refine (bi.cell (by rw [block_add]; exact hkbl)).trans (kcell.trans ?_)
                  show some (Value.int .i64 (yks.getD p 0)) = _
                  rw [hkb]
                have hkbl' : kd.block < wi.heap.size := by omega
                have hbqi : (ad.add (q * 5)).block < wi.heap.size := by omega
                have hbai : ad.block < wi.heap.size := by omega
                have HS1 := Lib.hid (HSO.out b m hsb)
                have HKB := Lib.hid hkb
                have HSB := Lib.hid hsb
                have hpi : (p : Int) < (M : Int) := by omega
                have hqi : (q : Int) < (n : Int) := by omega
                clear hkb hsb HKD
                go_upto_region 14 with fail
                go_cut [10, 11] from 48 to 78 (fun v10 v11 wx => ∃ (g10 : Nat) (A3 : Option Addr) (c3 : Nat) (l : List NdV), v10 = .pointer (some ⟨g10, 0, none⟩) ∧ v11 = .int .i64 0 ∧ Row wx g10 29 #[.slice A3 l.length c3] ∧ OwnT wx wi.heap.size (.slice A3 l.length c3) l ∧ l.map (·.1) = cutL L b m ∧ wi.heap.size ≤ g10 ∧ Below wi.heap.size wi wx)
                case first =>
                  go_region_law (first
                    | (go_simp; go_at_call 21; (with_reducible refine (HS1.out _ (by (repeat (first | (with_reducible exact Below.refl _ _) | (with_reducible assumption) | (with_reducible refine Below.setCell ?_ (by first | omega | (simp <;> omega)) _) | (with_reducible refine Below.alloc ?_ (by first | omega | (simp <;> omega)) _) | (with_reducible refine Below.drew ?_) | (with_reducible refine below_drewN ?_ _) | (with_reducible refine Below.trans ?_ (Below.mono (by with_reducible assumption) (by first | omega | (simp <;> omega)))))))).mono ?_); rintro r w3 ⟨⟨v, l, rfl, hO, hl⟩, b3⟩; obtain ⟨A3, c3, rfl, hc3, hm3⟩ := own_slice hO.row; have bw3 : Below wi.heap.size wi w3 := Below.trans (b := _) (by (repeat (first | (with_reducible exact Below.refl _ _) | (with_reducible assumption) | (with_reducible refine Below.setCell ?_ (by first | omega | (simp <;> omega)) _) | (with_reducible refine Below.alloc ?_ (by first | omega | (simp <;> omega)) _) | (with_reducible refine Below.drew ?_) | (with_reducible refine below_drewN ?_ _) | (with_reducible refine Below.trans ?_ (Below.mono (by with_reducible assumption) (by first | omega | (simp <;> omega))))))) (b3.mono (by simp)); have r10 : Row w3 wi.heap.size 29 #[.slice none 0 0] := Row.below (by exact row_new (w := wi) rfl) b3 (by simp); have x10 := r10.cell 0; have f10 := r10.free 0; have l10 := r10.lt; simp at x10)
                    | (go_simp; go_at_call 21; (with_reducible refine (HS1.out _ (by (repeat (first | (with_reducible exact Below.refl _ _) | (with_reducible assumption) | (with_reducible refine Below.setCell ?_ (by first | omega | (simp <;> omega)) _) | (with_reducible refine Below.alloc ?_ (by first | omega | (simp <;> omega)) _) | (with_reducible refine Below.drew ?_) | (with_reducible refine below_drewN ?_ _) | (with_reducible refine Below.trans ?_ (Below.mono (by with_reducible assumption) (by first | omega | (simp <;> omega)))))))).mono ?_); rintro r w3 ⟨⟨v, l, rfl, hO, hl⟩, b3⟩; obtain ⟨A3, c3, rfl, hc3, hm3⟩ := own_slice hO.row; have bw3 : Below wi.heap.size wi w3 := Below.trans (b := _) (by (repeat (first | (with_reducible exact Below.refl _ _) | (with_reducible assumption) | (with_reducible refine Below.setCell ?_ (by first | omega | (simp <;> omega)) _) | (with_reducible refine Below.alloc ?_ (by first | omega | (simp <;> omega)) _) | (with_reducible refine Below.drew ?_) | (with_reducible refine below_drewN ?_ _) | (with_reducible refine Below.trans ?_ (Below.mono (by with_reducible assumption) (by first | omega | (simp <;> omega))))))) (b3.mono (by simp)))
                    | fail)
                  all_goals go_wp2
                  all_goals go_meet
                  all_goals first
                    | exact ⟨_, _, _, l, rfl, rfl, row_new rfl, (hO.below ((Below.refl _ _).alloc (Nat.le_refl _) _)).mono (by simp), hl, bw3.size, bw3.alloc bw3.size _⟩
                    | exact ⟨_, _, _, l, rfl, rfl, row_put1 r10 _, (hO.set_row r10 (by decide) (by decide) _).mono (by simp), hl, Nat.le_refl _, bw3.setCell (Nat.le_refl _) _⟩
                case rest =>
                  obtain ⟨g10, A3, c3, l, rfl, rfl, r10, hO, hl, hg10, bx⟩ := hcut
                  obtain ⟨hlen8, xs8, ho8, ht8⟩ := HGV.out.below bx
                  have HT8 := Lib.hid ht8
                  have HO8 := Lib.hid ho8
                  have x10 := r10.cell 0
                  have l10 := r10.lt
                  simp at x10
                  have hge := own_ge ho8
                  have zx := Below.size bx
                  have HL := Lib.hid hl
                  have HO := Lib.hid hO
                  clear hl hO ht8 ho8 kcell c3i ai
                  go_wp2_with (first
                    | (at_builtin; refine wpList_append_rd _ rfl (.tmp 75) (.tmp 77) _ rfl wo.heap.size 29 i0 _ 24 Tryd.underlying25 hi0 iz0 iz1 iz2 rfl (.slice A8 p c8) p xs8 rfl (HO8.out.alloc _) _ _ 1 1 _ rfl (rd_one wc 29 (.slice A3 l.length c3)) (fun _ => rfl) (by unfold maxLen; omega) (by omega) (by simp; omega) ?_; intro v9 w9 own9 hg9 hob9)
                    | fail)
                  refine ⟨⟨p + 1, Ls ++ [cutL L b m], by go_num, by omega, Lib.hid ?_, Lib.hid ?_, ?_⟩, by simp [intOf]; omega⟩
                  · exact grove_snoc (W := wc.alloc (.cells #[.slice A3 l.length c3] 29)) hlen8 (HO8.out.alloc _) (fun j hj => by
                      obtain ⟨A', c', l', h1, h2, h3⟩ := HT8.out j hj
                      exact ⟨A', c', l', h1, h2.below ((Below.refl _ _).alloc (Nat.le_refl _) _), h3⟩) ((HO.out.below ((Below.refl _ _).alloc (Nat.le_refl _) _)).mono (by omega)) HL.out own9 hg9
                  · intro j hj
                    rcases Nat.lt_or_ge j p with h1 | h1
                    · obtain ⟨b', m', e1, e2, e3⟩ := HCU.out j h1
                      refine ⟨b', m', e1, e2, ?_⟩
                      rw [List.getD_eq_getElem?_getD, List.getElem?_append_left (by rw [hlen8]; exact h1), ← List.getD_eq_getElem?_getD]; exact e3
                    · obtain rfl : j = p := by omega
                      refine ⟨b, m, HKB.out, HSB.out, ?_⟩
                      rw [List.getD_eq_getElem?_getD, List.getElem?_append_right (by rw [hlen8]; exact Nat.le_refl _), hlen8, Nat.sub_self]; rfl
                  · exact Below.grown ((bi.trans (bx.mono zi)).alloc (by omega) _) hg9 (by simp; omega) (fun k hk => hge k hk)
              · obtain rfl : p = M := by omega
                have hcut : CutsOf L yks Ls := ⟨by rw [HGV.out.len, HMM.out], fun j hj => HCU.out j (by rw [← HMM.out]; exact hj)⟩
                have hmk := HCM.out Ls hcut
                have hsum := HCS.out Ls hcut
                have hll := HGV.out.len
                have hse := HSP.out.len
                have hsn := HN.out
                have hkl : ∀ i, i < p → ∀ j : Nat, (nd (Ls.getD i []) j).ks.length ≤ 1000000000000 := fun i hi j => by
                  obtain ⟨b, m, _, _, e3⟩ := HCU.out i hi
                  rw [e3]
                  have := cut_ks (L := L) (b := b) (m := m) (B := 3000) (fun i => by have := hwn.out i; omega) j
                  omega
                have HMK := Lib.hid (fun W (hb2 : Below wi.heap.size wi W) => (Make_any ⟨yk, yx, ym, yks, yp⟩ K p kc Ls p hll A8 c8 hc8 hm8 (by omega) (by omega) hkl hym W (HGV.out.below hb2).forest))
                rw [hmk] at HMK
                have HS1 := Lib.hid (HSO.out q e HSP.out)
                have HLC := Lib.hid (cut_len HSP.out)
                have hqi : (q : Int) < (n : Int) := by omega
                have hbqi : (ad.add (q * 5)).block < wi.heap.size := by omega
                have HCC := Lib.hid (And.intro ((bi.cell hbq).trans HC.out.1) (And.intro ((bi.cell (p := ⟨(ad.add (q * 5)).block, (ad.add (q * 5)).off + 1, none⟩) hbq).trans HC.out.2.1) (And.intro ((bi.cell (p := ⟨(ad.add (q * 5)).block, (ad.add (q * 5)).off + 2, none⟩) hbq).trans HC.out.2.2.1) ((bi.cell (p := ⟨(ad.add (q * 5)).block, (ad.add (q * 5)).off + 4, none⟩) hbq).trans HC.out.2.2.2))))
                clear hcut hmk hsum hll hse hsn hkl HKD HCM HCS HSO HCU
                go_upto_region 19 with (first
                  | (go_at_call 21; (with_reducible refine (HS1.out _ bwi).mono ?_); rintro r w3 ⟨⟨v, l, rfl, hO, hl⟩, b3⟩; obtain ⟨A3, c3, hv3, hc3, hm3, hT3⟩ := hO.tree; subst hv3)
                  | fail)
                obtain ⟨w4, hw4⟩ : ∃ w4 : World, w4 = w3.alloc (.cells #[.slice A3 l.length c3] 29) := ⟨_, rfl⟩
                rw [← hw4]
                have b4 : Below wi.heap.size wi w4 := by rw [hw4]; exact b3.alloc b3.size _
                obtain ⟨gX, hgX⟩ : ∃ gX, gX = w3.heap.size := ⟨_, rfl⟩
                have rX : Row w4 gX 29 #[.slice A3 l.length c3] := by rw [hw4]; exact row_new hgX
                rw [← hgX]
                have hT4 : TreeAt w4 w4.heap.size A3 (cutL L q e) := by rw [← hl, hw4]; exact hT3.later ((Below.refl _ _).alloc (Nat.le_refl _) _)
                have hll : (cutL L q e).length = l.length := by rw [← hl, List.length_map]
                have hlX := rX.lt
                have x0 := rX.cell 0
                simp at x0
                have z4 := Below.size b4
                have rA4 := rAi.below b4 lAi
                have a4 := rA4.cell 0
                have lA4 := rA4.lt
                simp at a4
                have c40 := (b4.cell hbqi).trans HCC.out.1
                have c41 := (b4.cell (p := ⟨(ad.add (q * 5)).block, (ad.add (q * 5)).off + 1, none⟩) hbqi).trans HCC.out.2.1
                have c42 := (b4.cell (p := ⟨(ad.add (q * 5)).block, (ad.add (q * 5)).off + 2, none⟩) hbqi).trans HCC.out.2.2.1
                have c43 := (b4.cell (p := ⟨(ad.add (q * 5)).block, (ad.add (q * 5)).off + 3, none⟩) hbqi).trans c3i
                have c44 := (b4.cell (p := ⟨(ad.add (q * 5)).block, (ad.add (q * 5)).off + 4, none⟩) hbqi).trans HCC.out.2.2.2
                have bw4 := bwi.trans (b4.mono (by have := bwi.size; omega))
                have HT4 := Lib.hid hT4
                have HLL := Lib.hid hll
                have HSM := Lib.hid (fun (A6 : Option Addr) (c6 N6 : Nat) (hN6 : (cutL L q e).length = N6) (hc6 : N6 ≤ c6) (hm6 : c6 ≤ maxLen) W (hb2 : Below w4.heap.size w4 W) (hT6 : TreeAt W W.heap.size A6 (cutL L q e)) => by
                  have := Same_any A6 A3 (cutL L q e) (cutL L q e) N6 c6 l.length c3 hN6 hll hc6 hc3 hm6 hm3 W hT6 (hT4.later hb2)
                  rw [sameB_refl] at this
                  exact this)
                clear hw4 hgX hO hl hT3 hT4 hll b3 c3i ai rAi HCC HC HS1
                go_region_law (first
                  | (go_simp; go_at_call 10; (with_reducible refine (HMK.out _ (b4.trans (Below.mono (B := w4.heap.size) (by (repeat (first | (with_reducible exact Below.refl _ _) | (with_reducible assumption) | (with_reducible refine Below.setCell ?_ (by first | omega | (simp <;> omega)) _) | (with_reducible refine Below.alloc ?_ (by first | omega | (simp <;> omega)) _) | (with_reducible refine Below.drew ?_) | (with_reducible refine below_drewN ?_ _) | (with_reducible refine Below.trans ?_ (Below.mono (by with_reducible assumption) (by first | omega | (simp <;> omega))))))) z4))).mono ?_); rintro r w5 ⟨⟨v5, l5, rfl, hO5, hl5⟩, b5⟩; obtain ⟨A5, c5, hv5, hc5, hm5, hT5⟩ := hO5.tree; subst hv5; rw [hl5] at hT5; have hl5' := congrArg List.length hl5; rw [List.length_map] at hl5'; have hc5' : (cutL L q e).length ≤ c5 := (by rw [← hl5']; exact hc5); have b45 : Below w4.heap.size w4 w5 := Below.trans (b := _) (by (repeat (first | (with_reducible exact Below.refl _ _) | (with_reducible assumption) | (with_reducible refine Below.setCell ?_ (by first | omega | (simp <;> omega)) _) | (with_reducible refine Below.alloc ?_ (by first | omega | (simp <;> omega)) _) | (with_reducible refine Below.drew ?_) | (with_reducible refine below_drewN ?_ _) | (with_reducible refine Below.trans ?_ (Below.mono (by with_reducible assumption) (by first | omega | (simp <;> omega))))))) (b5.mono (by simp)); have rX5 := rX.below b45 hlX; have x5 := rX5.cell 0; simp at x5; have z5 := rX5.lt)
                  | (go_simp; go_at_call 19; (with_reducible refine (HSM.out A5 c5 (cutL L q e).length rfl hc5' hm5 _ b45 hT5).mono ?_); rintro r w6 ⟨rfl, b6⟩)
                  | fail)
                all_goals go_wp2
                all_goals
                  have b46 := b45.trans (b6.mono b45.size)
                  exact ⟨⟨q + 1, by omega, by go_num, rA4.below b46 lA4, bw4.trans (b46.mono bw4.size)⟩, by simp [intOf]; omega⟩
          · obtain rfl : q = n := by omega
            have hs0 : Sp L 0 q := by have := HGT.out; rw [HN.out] at this; exact this
            have hall := cut_all HGT.out (by rw [HN.out]; omega)
            rw [HN.out] at hall
            have HS0 : Hid (∀ W (hb : Below w.heap.size w W), Calls Tryd.prog 21 #[.agg #[.slice A q c], .int .i64 0] W fun r w' => (∃ v l, r = .returned (.tuple #[.agg #[v], .int .i64 0]) ∧ OwnT w' W.heap.size v l ∧ l.map (·.1) = L) ∧ Below W.heap.size W w') := Lib.hid (fun W hb => by
              have := HSO.out 0 q hs0 W hb
              rw [hall] at this
              exact this)
            have HLN := Lib.hid (fun (x : Nat) (h : x = L.length) => h.trans HN.out)
            have HSM := Lib.hid (fun (A6 : Option Addr) (c6 : Nat) (hc6 : q ≤ c6) (hm6 : c6 ≤ maxLen) W (hb2 : Below w.heap.size w W) (hT6 : TreeAt W W.heap.size A6 L) => by
              have := Same_any A6 A L L q c6 q c HN.out HN.out hc6 hc hm6 hm2.out W hT6 (hT.out.later hb2)
              rw [sameB_refl] at this
              exact this)
            clear hs0 hall HSO
            go_upto_region 22 with (first
              | (go_at_call 21; (with_reducible refine (HS0.out _ hb).mono ?_); rintro r w3 ⟨⟨v, l, rfl, hO, hl⟩, b3⟩; obtain ⟨A3, c3, hv3, hc3, hm3, hT3⟩ := hO.tree; have hl3 := HLN.out l.length (by rw [← hl, List.length_map]); rw [hl3] at hv3 hc3; subst hv3; clear hl3)
              | fail)
            have q3 := hb.trans (b3.mono hz)
            obtain ⟨w4, hw4⟩ : ∃ w4 : World, w4 = w3.alloc (.cells #[.slice A3 q c3] 29) := ⟨_, rfl⟩
            rw [← hw4]
            have q4 : Below w.heap.size w w4 := by rw [hw4]; exact q3.alloc q3.size _
            obtain ⟨gX, hgX⟩ : ∃ gX, gX = w3.heap.size := ⟨_, rfl⟩
            have rX : Row w4 gX 29 #[.slice A3 q c3] := by rw [hw4]; exact row_new hgX
            rw [← hgX]
            have hT4 : TreeAt w4 w4.heap.size A3 L := by rw [← hl, hw4]; exact hT3.later ((Below.refl _ _).alloc (Nat.le_refl _) _)
            have rA4 : Row w4 w.heap.size 29 #[.slice A q c] := by rw [hw4]; exact (rA.below b3 lA).alloc _
            have x0 := rX.cell 0
            have a4 := rA4.cell 0
            have lX := rX.lt
            have lA4 := rA4.lt
            simp at x0 a4
            have HT4 := Lib.hid hT4
            clear hw4 hgX hO hl hT3 hT4 b3 q3 a0
            go_wp2_with (first
              | (go_at_call 19; (with_reducible refine (HSM.out A3 c3 hc3 hm3 _ q4 HT4.out).mono ?_); rintro r w6 ⟨rfl, b6⟩; have q6 := q4.trans (b6.mono q4.size); have z6 := Below.size q6)
              | (go_at_call 15; (with_reducible refine (known_any _ (hX.out.below (B := w.heap.size) q6 hw00) (by have := Below.size q6; omega)).mono ?_); rintro r wk ⟨rfl, bk⟩)
              | fail)
            go_ret
            exact ⟨rfl, q6.trans (bk.mono q6.size)⟩
      · have h7 : re = 7 := by
          rcases HOR.out with e | ⟨e, _⟩
          · injection e with _ e; exact absurd e he
          · exact e
        subst h7
        have hse : subE L 0 = 7 := by unfold subE; rw [hR]; rfl
        have HSU0 := Lib.hid (fun W hb => HSU.out 0 W hb)
        rw [hse] at HSU0
        go_wp2_with (first
          | (go_at_call 21; (with_reducible refine (HSU0.out _ q2).mono ?_); rintro r w3 ⟨⟨v, l, rfl, hO, -⟩, b3⟩; obtain ⟨A3, c3, rfl, hc3, hm3⟩ := own_slice hO.row; have q3 := (q2.trans (b3.mono q2.size)).alloc (o := .cells #[.slice A3 l.length c3] 29) (by have := b3.size; omega); have z3 := Below.size q3)
          | (go_at_call 15; (with_reducible refine (known_any _ (hX.out.below (B := w.heap.size) q3 hw00) (by have := Below.size q3; omega)).mono ?_); rintro r wk ⟨rfl, bk⟩)
          | fail)
        go_ret
        exact ⟨rfl, q3.trans (bk.mono q3.size)⟩
end Go.Proofs.YtjaijlkonkgnmaaDoor
