/- Some texts of this claim, put together. -/
import Derived.Test.YtpkdhciokiomlaaGreatDoorHBZ7
import Derived.IntWalk
namespace Go.Proofs.YtpkdhciokiomlaaGreatDoor
section
set_option linter.unusedVariables false
set_option linter.unusedSimpArgs false
set_option linter.unnecessarySimpa false
open Go.RowKit
attribute [local go_sem] cell_alloc_add cell_set_add lt_more
/-- A kid's node as the reference gives it: its value, its row of kids in memory. -/
def GivesNd (W : World) (B : Nat) (y : Nd) (e : Ending) : Prop := ∃ K kc, e = .returned (nodeV y K kc) ∧ Rd W B K y.ks.length (ksV y.ks) ∧ y.ks.length ≤ kc ∧ kc ≤ maxLen
set_option maxRecDepth 100000 in
set_option maxHeartbeats 4000000 in
theorem Kid_any (A : Option Addr) (L : List Nd) (c i : Nat) (w : World) (h : TreeAt w w.heap.size A L) (hc : L.length ≤ c) (hm : c ≤ maxLen) (hi : i < L.length) (j : Nat) (hj : j ≤ 9223372036854775807) :
    Calls Tryz.prog 93 #[.agg #[.slice A L.length c], .int .i64 (i : Int), .int .i64 (j : Int)] w fun e w' => GivesNd w w.heap.size (kidB L (nd L i) j) e ∧ Below w.heap.size w w' := by
  have hT := Lib.hid h
  obtain ⟨ad, rfl, hn⟩ := h i hi
  have hb2 := hn.blk
  have hb1 : ad.block < w.heap.size := (by rw [block_add] at hb2; exact hb2)
  obtain ⟨K, kc, c0, c1, c2, c3, c4, hK, hkk, hkm⟩ := node_open hn
  unfold maxLen at hm hkm
  have H := Lib.hid (show kidB L (nd L i) j = if j < (nd L i).ks.length then nd L ((nd L i).ks.getD j 0) else nd0 from rfl)
  clear h hn c0 c1 c2 c4
  generalize (nd L i).ks = ks at *
  have hK2 := Lib.hid hK
  clear hK
  rw [H.out]
  clear H
  by_cases hlt : j < ks.length
  · rw [if_pos hlt]
    obtain ⟨ka, hKa, hkb, kcell⟩ := hK2.out j hlt
    subst hKa
    replace kcell : w.cell? (ka.add j) = some (.int .i64 (ks.getD j 0)) := kcell
    generalize ks.getD j 0 = x at *
    generalize hn : ks.length = n at *
    clear hn hK2
    rcases Bool.eq_false_or_eq_true (inL L x) with hx | hx
    · obtain ⟨xn, rfl, hxn⟩ := inL_nat hx
      have hd := hT.out.at_ hxn
      have hd2 := hd.blk
      obtain ⟨K', kc', d0, d1, d2, d3, d4, hK', hkk', hkm'⟩ := node_open hd
      have HK' := Lib.hid hK'
      clear hd hK' hx
      generalize nd L xn = y at *
      go_enter Tryz.func93, Tryz.ntmps93
      go_wp2
      refine bodyPost_ret (v := nodeV y K' kc') (by simp [results, Tryz.results93, go_sem, nodeV, *]) rfl ⟨⟨K', kc', rfl, HK'.out, hkk', hkm'⟩, (by (exact bl))⟩
    · have hx2 : ¬ (0 ≤ x ∧ x < L.length) := by rw [← inL_iff, hx]; simp
      rw [nd_out hx]
      clear hx
      by_cases hneg : x < 0
      · go_enter Tryz.func93, Tryz.ntmps93
        go_wp2
        refine bodyPost_ret (v := nodeV nd0 none 0) (by simp [results, Tryz.results93, go_sem, nodeV, nd0, *]) rfl ⟨⟨none, 0, rfl, Rd.none_, Nat.le_refl _, by decide⟩, (by (exact bl))⟩
      · have hge : (L.length : Int) ≤ x := by omega
        go_enter Tryz.func93, Tryz.ntmps93
        go_wp2
        refine bodyPost_ret (v := nodeV nd0 none 0) (by simp [results, Tryz.results93, go_sem, nodeV, nd0, *]) rfl ⟨⟨none, 0, rfl, Rd.none_, Nat.le_refl _, by decide⟩, (by (exact bl))⟩
  · rw [if_neg hlt]
    have hge : (ks.length : Int) ≤ (j : Int) := by omega
    go_enter Tryz.func93, Tryz.ntmps93
    go_wp2
    refine bodyPost_ret (v := nodeV nd0 none 0) (by simp [results, Tryz.results93, go_sem, nodeV, nd0, *]) rfl ⟨⟨none, 0, rfl, Rd.none_, Nat.le_refl _, by decide⟩, (by (exact bl))⟩
end
section
set_option linter.unusedVariables false
set_option linter.unusedSimpArgs false
set_option linter.unnecessarySimpa false
open Go.RowKit
attribute [local go_sem] cell_alloc_add cell_set_add lt_more
theorem is_nd (y : Nd) (K : Option Addr) (n kc : Nat) (which : Int) (w : World) :
    Calls Tryz.prog 105 #[.agg #[.int .i64 y.k, .string y.x, .int .i64 y.m, .slice K n kc, .int .i64 y.p], .int .i64 which] w fun e w' => e = .returned (.bool (isW which y)) ∧ Below w.heap.size w w' := by
  obtain ⟨k, x, m, ks, p⟩ := y
  exact is_any k m p x ks K n kc which w
set_option maxRecDepth 100000 in
set_option maxHeartbeats 4000000 in
theorem list_any (A : Option Addr) (L : List Nd) (c i : Nat) (w : World) (h : TreeAt w w.heap.size A L) (hc : L.length ≤ c) (hm : c ≤ maxLen) (hi : i < L.length) (j : Nat) (hj : j ≤ 9223372036854775807) (which : Int) :
    Calls Tryz.prog 90 #[.agg #[.slice A L.length c], .int .i64 (i : Int), .int .i64 (j : Int), .int .i64 which] w fun e w' => e = .returned (.bool (listB L (nd L i) j which)) ∧ Below w.heap.size w w' := by
  have hT := Lib.hid h
  have bx : Below w.heap.size w (w.alloc (.cells #[.slice A L.length c] 24)) := (by (exact bl))
  have HK := Lib.hid (Kid_any A L c i _ (h.later bx) hc hm hi j hj)
  have H := Lib.hid (show listB L (nd L i) j which = ((kidB L (nd L i) j).k == 2 && (kidB L (nd L i) j).ks.all fun j => inL L j && isW which (nd L j)) from rfl)
  have hm2 := Lib.hid hm
  unfold maxLen at hm
  rw [H.out]
  clear H h
  generalize kidB L (nd L i) j = y at *
  obtain ⟨k, x, m, ks, p⟩ := y
  simp only
  by_cases k2 : k = 2
  · subst k2
    go_enter Tryz.func90, Tryz.ntmps90
    go_wp2_with (first
      | (go_at_call 93; (with_reducible refine HK.out.mono ?_); rintro e w1 ⟨⟨K, kc, rfl, hK, hkk, hkm⟩, b1⟩; have hK0 := Lib.hid hK; clear hK; unfold nodeV; have z1 := Below.size b1; have x1 : w1.cell? ⟨w.heap.size, 0, none⟩ = some (.slice A L.length c) := (b1.cell (p := ⟨w.heap.size, 0, none⟩) (by simp)).trans (by simp [World.cell?_alloc_mark]); have bw1 := bx.trans (b1.mono bx.size); have zw := Below.size bw1)
      | fail)
    generalize hn : ks.length = n at hkk hK0 ⊢
    have HN := Lib.hid hn
    clear hn
    unfold maxLen at hkm
    obtain ⟨wa, hwa⟩ : ∃ wa : World, wa = w1.alloc (.cells #[.int .i64 2, .string x, .int .i64 m, .slice K n kc, .int .i64 p] 37) := ⟨_, rfl⟩
    have a0 : wa.cell? ⟨w.heap.size, 0, none⟩ = some (.slice A L.length c) := by rw [hwa, World.cell?_alloc_lt w1 _ ⟨w.heap.size, 0, none⟩ (World.block_lt_of_cell? w1 _ x1)]; exact x1
    have a3 : wa.cell? ⟨w1.heap.size, 3, none⟩ = some (.slice K n kc) := by rw [hwa, World.cell?_alloc_mark]; rfl
    have bwa : Below w.heap.size w wa := by rw [hwa]; (exact bl)
    rw [← hwa]
    have hKw := Lib.hid (hK0.out.below (w' := wa) (by rw [hwa]; (exact bl)))
    clear hwa hK0 HK
    have l0 := World.block_lt_of_cell? wa _ a0
    have l3 := World.block_lt_of_cell? wa _ a3
    simp only at l0 l3
    go_loopw [10] (fun t wr => ∃ q : Nat, q ≤ n ∧ t = .int .i64 (q : Int) ∧ Hid ((ks.take q).all (fun j => inL L j && isW which (nd L j)) = true) ∧ Below wa.heap.size wa wr) (fun t _ => n - (intOf t).toNat)
    case atStart => exact ⟨0, Nat.zero_le _, rfl, Lib.hid rfl, Below.refl _ _⟩
    case round =>
      obtain ⟨q, hq, rfl, HT, hb⟩ := hrel
      have e0 := (hb.cell (p := ⟨w.heap.size, 0, none⟩) l0).trans a0
      have e3 := (hb.cell (p := ⟨w1.heap.size, 3, none⟩) l3).trans a3
      have hz := Below.size hb
      have bw := bwa.trans (hb.mono bwa.size)
      by_cases hlt : q < n
      · obtain ⟨ka, hKa, hkb, kcell0⟩ := hKw.out q hlt
        subst hKa
        have kcell : wr.cell? (ka.add q) = some (.int .i64 (ks.getD q 0)) := (hb.cell (World.block_lt_of_cell? wa _ kcell0)).trans kcell0
        clear kcell0
        have HY := Lib.hid (fun e => all_take (f := fun j => inL L j && isW which (nd L j)) (by rw [HN.out]; exact hlt) HT.out e)
        have HB := Lib.hid (fun e => all_bad (f := fun j => inL L j && isW which (nd L j)) (by rw [HN.out]; exact hlt) e)
        generalize ks.getD q 0 = u at *
        rcases Bool.eq_false_or_eq_true (inL L u) with hx | hx
        · obtain ⟨un, rfl, hun⟩ := inL_nat hx
          obtain ⟨ad, hA, hnn⟩ := hT.out un hun
          subst hA
          have hd := hnn.keep fun p hp => bw.cell hp
          have hd2 := hd.blk
          have hd1 : ad.block < w.heap.size := by rw [block_add] at hd2; exact hd2
          obtain ⟨K', kc', d0, d1, d2, d3, d4, _, _, _⟩ := node_open hd
          clear hd hnn
          generalize nd L un = y at *
          cases hr : isW which y
          · go_wp2_with (first
              | (go_at_call 105; (with_reducible refine (is_nd y _ _ _ _ _).mono ?_); rintro e w2 ⟨rfl, b2⟩; have z2 := Below.size b2)
              | fail)
            go_ret
            exact ⟨ret_bool (by rw [HB.out (by rw [hx, hr]; rfl)]; rfl), bw.trans (b2.mono bw.size)⟩
          · go_wp2_with (first
              | (go_at_call 105; (with_reducible refine (is_nd y _ _ _ _ _).mono ?_); rintro e w2 ⟨rfl, b2⟩; have z2 := Below.size b2)
              | fail)
            go_roundw
            case rel => exact ⟨q + 1, by omega, by go_num, Lib.hid (HY.out (by rw [hx, hr]; rfl)), hb.trans (b2.mono hb.size)⟩
            case measure => simp [intOf]; omega
        · have hx2 : ¬ (0 ≤ u ∧ u < L.length) := by rw [← inL_iff, hx]; simp
          by_cases hneg : u < 0
          · go_wp2
            go_ret
            exact ⟨ret_bool (by rw [HB.out (by simp [hx])] <;> rfl), bw⟩
          · have hge : (L.length : Int) ≤ u := by omega
            go_wp2
            go_ret
            exact ⟨ret_bool (by rw [HB.out (by simp [hx])] <;> rfl), bw⟩
      · obtain rfl : q = n := by omega
        go_wp2
        go_ret
        refine ⟨ret_bool ?_, bw⟩
        have := HT.out
        rw [← HN.out, List.take_length] at this
        rw [this]; rfl
  · have k2' : (k != 2) = true := by simpa using k2
    have k3 : (k == 2) = false := by simpa using k2
    go_enter Tryz.func90, Tryz.ntmps90
    go_wp2_with (first
      | (go_at_call 93; (with_reducible refine HK.out.mono ?_); rintro e w1 ⟨⟨K, kc, rfl, hK, hkk, hkm⟩, b1⟩; unfold nodeV; have z1 := Below.size b1; have bw1 := bx.trans (b1.mono bx.size); have zw := Below.size bw1)
      | fail)
    go_ret
    exact ⟨ret_bool (by rw [k3]; rfl), (by (exact bl))⟩
theorem rowG_at (L : List Nd) : ∀ (ks l : List Int), rowG L ks l = (List.zipWith (fun k w => spot1 w (nd L k)) ks l).all id
  | [], _ => by cases ‹List Int› <;> rfl
  | _ :: _, [] => rfl
  | k :: ks, w :: l => by simp [rowG, rowG_at L ks l]
def rowTo (L : List Nd) (ks l : List Int) (q : Nat) : Bool := (List.zipWith (fun k w => spot1 w (nd L k)) ks l |>.take q).all id
theorem rowg_next {L : List Nd} {ks l : List Int} {q : Nat} (h1 : q < ks.length) (h2 : q < l.length) (h : rowTo L ks l q = true) (hs : spot1 (l.getD q 0) (nd L (ks.getD q 0)) = true) : rowTo L ks l (q + 1) = true := by
  unfold rowTo at *
  have hz : q < (List.zipWith (fun k w => spot1 w (nd L k)) ks l).length := by simp; omega
  have e1 : l.getD q 0 = l[q] := by simp [List.getD, h2]
  have e2 : ks.getD q 0 = ks[q] := by simp [List.getD, h1]
  rw [e1, e2] at hs
  rw [List.take_succ_eq_append_getElem hz, List.all_append, h, Bool.true_and]
  simp [hs]
theorem rowg_bad {L : List Nd} {ks l : List Int} {q : Nat} (h1 : q < ks.length) (h2 : q < l.length) (hs : spot1 (l.getD q 0) (nd L (ks.getD q 0)) = false) : rowG L ks l = false := by
  rw [rowG_at]
  have hz : q < (List.zipWith (fun k w => spot1 w (nd L k)) ks l).length := by simp; omega
  have e1 : l.getD q 0 = l[q] := by simp [List.getD, h2]
  have e2 : ks.getD q 0 = ks[q] := by simp [List.getD, h1]
  rw [e1, e2] at hs
  rcases Bool.eq_false_or_eq_true ((List.zipWith (fun k w => spot1 w (nd L k)) ks l).all id) with h | h
  · have := List.all_eq_true.1 h _ (List.getElem_mem hz)
    simp at this
    rw [this] at hs; cases hs
  · exact h
theorem rowg_fin {L : List Nd} {ks l : List Int} {q : Nat} (h1 : q = ks.length) (h : rowTo L ks l q = true) : rowG L ks l = true := by
  rw [rowG_at]
  unfold rowTo at h
  rwa [List.take_of_length_le (by simp; omega)] at h
end
section
set_option linter.unusedVariables false
set_option linter.unusedSimpArgs false
set_option linter.unnecessarySimpa false
open Go.RowKit
attribute [local go_sem] cell_alloc_add cell_set_add lt_more
theorem spot_neg {w : Int} (h : w < 0) (y : Nd) : spot1 w y = (y.k == 1 || isW (-w) y) := by
  have h2 : decide (w < 0) = true := decide_eq_true h
  have h3 : decide (0 < w) = false := decide_eq_false (by omega)
  simp only [spot1, h2, h3, Bool.true_and, Bool.false_and, Bool.or_false]
theorem spot_pos {w : Int} (h : 0 < w) (y : Nd) : spot1 w y = isW w y := by
  have h2 : decide (w < 0) = false := decide_eq_false (by omega)
  have h3 : decide (0 < w) = true := decide_eq_true h
  simp only [spot1, h2, h3, Bool.true_and, Bool.false_and, Bool.false_or]
theorem spot_zero (y : Nd) : spot1 0 y = false := by simp [spot1]
theorem Kid_at (A : Option Addr) (L : List Nd) (c i : Nat) (w : World) (h : TreeAt w w.heap.size A L) (hc : L.length ≤ c) (hm : c ≤ maxLen) (hi : i < L.length) (q : Nat) (hq : q < (nd L i).ks.length) (hq2 : q ≤ 9223372036854775807) :
    Calls Tryz.prog 93 #[.agg #[.slice A L.length c], .int .i64 (i : Int), .int .i64 (q : Int)] w fun e w' => GivesNd w w.heap.size (nd L ((nd L i).ks.getD q 0)) e ∧ Below w.heap.size w w' := by
  have := Kid_any A L c i w h hc hm hi q hq2
  rwa [show kidB L (nd L i) q = nd L ((nd L i).ks.getD q 0) from if_pos hq] at this
set_option maxRecDepth 100000 in
set_option maxHeartbeats 8000000 in
theorem row_any (A : Option Addr) (L : List Nd) (c i : Nat) (w : World) (h : TreeAt w w.heap.size A L) (hc : L.length ≤ c) (hm : c ≤ maxLen) (hi : i < L.length) (l : List Int) (Kl : Option Addr) (cl : Nat) (hl : Rd w w.heap.size Kl l.length (ksV l)) (hl1 : l.length ≤ 1000) (hl2 : ∀ v ∈ l, -1000000 ≤ v ∧ v ≤ 1000000) :
    Calls Tryz.prog 91 #[.agg #[.slice A L.length c], .int .i64 (i : Int), .slice Kl l.length cl] w fun e w' => e = .returned (.bool (rowB L (nd L i).ks l)) ∧ Below w.heap.size w w' := by
  have hT := Lib.hid h
  have bx : Below w.heap.size w (w.alloc (.cells #[.slice A L.length c] 24)) := (by (exact bl))
  have hm2 := Lib.hid hm
  obtain ⟨ad, rfl, hn⟩ := h i hi
  have hb2 := hn.blk
  have hb1 : ad.block < w.heap.size := (by rw [block_add] at hb2; exact hb2)
  obtain ⟨K0, kc0, c0, c1, c2, c3, c4, _, hkk, hkm⟩ := node_open hn
  unfold maxLen at hm hkm
  have H := Lib.hid (show rowB L (nd L i).ks l = (decide ((nd L i).ks.length = l.length) && rowG L (nd L i).ks l) from rfl)
  rw [H.out]
  clear H
  have HK := Lib.hid (fun q (hq : q < (nd L i).ks.length) (hq2 : q ≤ 9223372036854775807) W (hb : Below w.heap.size w W) => Kid_at (some ad) L c i W (h.later hb) hc hm2.out hi q hq hq2)
  clear h hn c0 c1 c2 c4
  generalize (nd L i).ks = ks at *
  have HL2 := Lib.hid (fun q (hq : q < l.length) => hl2 (l.getD q 0) (by
    have e : l.getD q 0 = l[q] := by simp [List.getD, hq]
    rw [e]; exact List.getElem_mem _))
  have HL := Lib.hid hl
  clear hl hl2
  generalize hN : l.length = N at *
  generalize hM : ks.length = M at *
  have HN := Lib.hid hN
  have HM := Lib.hid hM
  clear hN hM
  by_cases hMN : M = N
  · subst hMN
    go_enter Tryz.func91, Tryz.ntmps91
    go_wp2
    have l0 : w.heap.size < (w.alloc (.cells #[.slice (some ad) L.length c] 24)).heap.size := by simp
    have a0 : (w.alloc (.cells #[.slice (some ad) L.length c] 24)).cell? ⟨w.heap.size, 0, none⟩ = some (.slice (some ad) L.length c) := by simp [World.cell?_alloc_mark]
    obtain ⟨wa, hwa⟩ : ∃ wa : World, wa = w.alloc (.cells #[.slice (some ad) L.length c] 24) := ⟨_, rfl⟩
    rw [← hwa] at a0 l0 bx ⊢
    clear hwa
    go_loopw [7] (fun t wr => ∃ q : Nat, q ≤ M ∧ t = .int .i64 (q : Int) ∧ Hid (rowTo L ks l q = true) ∧ Below wa.heap.size wa wr) (fun t _ => M - (intOf t).toNat)
    case atStart => exact ⟨0, Nat.zero_le _, rfl, Lib.hid rfl, Below.refl _ _⟩
    case round =>
      obtain ⟨q, hq, rfl, HT, hb⟩ := hrel
      have e0 := (hb.cell (p := ⟨w.heap.size, 0, none⟩) l0).trans a0
      have hz := Below.size hb
      have bw := bx.trans (hb.mono bx.size)
      by_cases hlt : q < M
      · obtain ⟨la, hla, hlb, lcell0⟩ := HL.out q hlt
        subst hla
        have lcell : wr.cell? (la.add q) = some (.int .i64 (l.getD q 0)) := (bw.cell (by rw [block_add]; exact hlb)).trans lcell0
        clear lcell0
        have hv := HL2.out q hlt
        have HY := Lib.hid (fun e => rowg_next (L := L) (by rw [HM.out]; exact hlt) (by rw [HN.out]; exact hlt) HT.out e)
        have HB := Lib.hid (fun e => rowg_bad (L := L) (ks := ks) (l := l) (q := q) (by rw [HM.out]; exact hlt) (by rw [HN.out]; exact hlt) e)
        have HKq := Lib.hid (HK.out q hlt (by omega) wr bw)
        generalize l.getD q 0 = v at *
        generalize nd L (ks.getD q 0) = y at *
        go_wp2_with (first
          | (go_at_call 93; (with_reducible refine HKq.out.mono ?_); rintro e w1 ⟨⟨K, kc, rfl, hK, hkk1, hkm1⟩, b1⟩; clear hK; unfold nodeV; have z1 := Below.size b1; have x0 := (b1.cell (p := ⟨w.heap.size, 0, none⟩) (by show w.heap.size < wr.heap.size; omega)).trans e0; have xl := (b1.cell (p := la.add q) (by rw [block_add]; omega)).trans lcell)
          | fail)
        have f0 : (w1.alloc (.cells #[.int .i64 y.k, .string y.x, .int .i64 y.m, .slice K y.ks.length kc, .int .i64 y.p] 37)).cell? ⟨w1.heap.size, 0, none⟩ = some (.int .i64 y.k) := by rw [World.cell?_alloc_mark]; rfl
        have f1 : (w1.alloc (.cells #[.int .i64 y.k, .string y.x, .int .i64 y.m, .slice K y.ks.length kc, .int .i64 y.p] 37)).cell? ⟨w1.heap.size, 1, none⟩ = some (.string y.x) := by rw [World.cell?_alloc_mark]; rfl
        have f2 : (w1.alloc (.cells #[.int .i64 y.k, .string y.x, .int .i64 y.m, .slice K y.ks.length kc, .int .i64 y.p] 37)).cell? ⟨w1.heap.size, 2, none⟩ = some (.int .i64 y.m) := by rw [World.cell?_alloc_mark]; rfl
        have f3 : (w1.alloc (.cells #[.int .i64 y.k, .string y.x, .int .i64 y.m, .slice K y.ks.length kc, .int .i64 y.p] 37)).cell? ⟨w1.heap.size, 3, none⟩ = some (.slice K y.ks.length kc) := by rw [World.cell?_alloc_mark]; rfl
        have f4 : (w1.alloc (.cells #[.int .i64 y.k, .string y.x, .int .i64 y.m, .slice K y.ks.length kc, .int .i64 y.p] 37)).cell? ⟨w1.heap.size, 4, none⟩ = some (.int .i64 y.p) := by rw [World.cell?_alloc_mark]; rfl
        have fl : (w1.alloc (.cells #[.int .i64 y.k, .string y.x, .int .i64 y.m, .slice K y.ks.length kc, .int .i64 y.p] 37)).cell? (la.add q) = some (.int .i64 v) := by rw [World.cell?_alloc_lt w1 _ _ (World.block_lt_of_cell? w1 _ xl)]; exact xl
        have fx : (w1.alloc (.cells #[.int .i64 y.k, .string y.x, .int .i64 y.m, .slice K y.ks.length kc, .int .i64 y.p] 37)).cell? ⟨w.heap.size, 0, none⟩ = some (.slice (some ad) L.length c) := by rw [World.cell?_alloc_lt w1 _ ⟨w.heap.size, 0, none⟩ (World.block_lt_of_cell? w1 _ x0)]; exact x0
        have bz : Below wa.heap.size wa (w1.alloc (.cells #[.int .i64 y.k, .string y.x, .int .i64 y.m, .slice K y.ks.length kc, .int .i64 y.p] 37)) := (by (exact bl))
        have lw1 : w1.heap.size < (w1.alloc (.cells #[.int .i64 y.k, .string y.x, .int .i64 y.m, .slice K y.ks.length kc, .int .i64 y.p] 37)).heap.size := by simp
        obtain ⟨wn, hwn⟩ : ∃ wn : World, wn = w1.alloc (.cells #[.int .i64 y.k, .string y.x, .int .i64 y.m, .slice K y.ks.length kc, .int .i64 y.p] 37) := ⟨_, rfl⟩
        rw [← hwn] at f0 f1 f2 f3 f4 fl fx bz lw1 ⊢
        clear hwn lcell e0 xl x0
        have bwn := bx.trans (bz.mono bx.size)
        have zwn := Below.size bwn
        have zbz := Below.size bz
        have ll := World.block_lt_of_cell? wn _ fl
        have lx := World.block_lt_of_cell? wn _ fx
        simp only at lx
        rw [block_add] at ll
        have ne0 := World.new_ne wn _ f0
        by_cases hneg : v < 0
        · have hs := Lib.hid (spot_neg hneg y)
          by_cases k1 : y.k = 1
          · have k1' : (y.k == 1) = true := by simpa using k1
            go_quiet (fail)
            go_wp2
            exact ⟨⟨q + 1, by omega, by go_num, Lib.hid (HY.out (by rw [hs.out, k1']; rfl)), (by (exact bl))⟩, by simp [intOf]; omega⟩
          · have k1' : (y.k == 1) = false := by simpa using k1
            have hnn : IntKind.i64.wrap (-v) = -v := IntWalk.i64_in _ (by omega)
            cases hr : isW (-v) y
            · go_region_held3 (fun w' => w'.cell? ⟨w1.heap.size, 0, none⟩ = some (.int .i64 y.k) ∧ w'.cell? ⟨w1.heap.size, 1, none⟩ = some (.string y.x) ∧ w'.cell? ⟨w1.heap.size, 2, none⟩ = some (.int .i64 y.m) ∧ w'.cell? ⟨w1.heap.size, 3, none⟩ = some (.slice K y.ks.length kc) ∧ w'.cell? ⟨w1.heap.size, 4, none⟩ = some (.int .i64 y.p) ∧ w'.cell? (la.add q) = some (.int .i64 v)) (go_keep) (first | (go_at_call 105; (with_reducible refine (is_nd y _ _ _ _ _).mono ?_); rintro e w2 ⟨rfl, b2⟩; have z2 := Below.size b2; have g0 := (b2.cell (p := ⟨w1.heap.size, 0, none⟩) lw1).trans f0; have g1 := (b2.cell (p := ⟨w1.heap.size, 1, none⟩) lw1).trans f1; have g2 := (b2.cell (p := ⟨w1.heap.size, 2, none⟩) lw1).trans f2; have g3 := (b2.cell (p := ⟨w1.heap.size, 3, none⟩) lw1).trans f3; have g4 := (b2.cell (p := ⟨w1.heap.size, 4, none⟩) lw1).trans f4; have gl := (b2.cell (p := la.add q) (by rw [block_add]; exact ll)).trans fl) | fail)
              go_wp2
              have hd2 : decide (v ≤ 0) = true := decide_eq_true (by omega)
              go_quiet (fail)
              go_wp2
              go_ret
              exact ⟨ret_bool (by rw [HB.out (by rw [hs.out, k1', hr]; rfl)] <;> rfl), (by (exact bl))⟩
            · go_region_held3 (fun w' => w'.cell? ⟨w1.heap.size, 0, none⟩ = some (.int .i64 y.k) ∧ w'.cell? ⟨w1.heap.size, 1, none⟩ = some (.string y.x) ∧ w'.cell? ⟨w1.heap.size, 2, none⟩ = some (.int .i64 y.m) ∧ w'.cell? ⟨w1.heap.size, 3, none⟩ = some (.slice K y.ks.length kc) ∧ w'.cell? ⟨w1.heap.size, 4, none⟩ = some (.int .i64 y.p) ∧ w'.cell? (la.add q) = some (.int .i64 v)) (go_keep) (first | (go_at_call 105; (with_reducible refine (is_nd y _ _ _ _ _).mono ?_); rintro e w2 ⟨rfl, b2⟩; have z2 := Below.size b2; have g0 := (b2.cell (p := ⟨w1.heap.size, 0, none⟩) lw1).trans f0; have g1 := (b2.cell (p := ⟨w1.heap.size, 1, none⟩) lw1).trans f1; have g2 := (b2.cell (p := ⟨w1.heap.size, 2, none⟩) lw1).trans f2; have g3 := (b2.cell (p := ⟨w1.heap.size, 3, none⟩) lw1).trans f3; have g4 := (b2.cell (p := ⟨w1.heap.size, 4, none⟩) lw1).trans f4; have gl := (b2.cell (p := la.add q) (by rw [block_add]; exact ll)).trans fl) | fail)
              go_wp2
              exact ⟨⟨q + 1, by omega, by go_num, Lib.hid (HY.out (by rw [hs.out, k1', hr]; rfl)), (by (exact bl))⟩, by simp [intOf]; omega⟩
        · by_cases hzero : v = 0
          · subst hzero
            have hs := Lib.hid (spot_zero y)
            go_quiet (fail)
            go_wp2
            go_quiet (fail)
            go_wp2
            go_ret
            exact ⟨ret_bool (by rw [HB.out hs.out] <;> rfl), (by (exact bl))⟩
          · have hpos : 0 < v := by omega
            have hs := Lib.hid (spot_pos hpos y)
            have hd1 : decide (v < 0) = false := decide_eq_false (by omega)
            have hd2 : decide (v ≤ 0) = false := decide_eq_false (by omega)
            go_quiet (fail)
            go_wp2
            cases hr : isW v y
            · go_region_held3 (fun w' => w'.cell? ⟨w1.heap.size, 0, none⟩ = some (.int .i64 y.k) ∧ w'.cell? ⟨w1.heap.size, 1, none⟩ = some (.string y.x) ∧ w'.cell? ⟨w1.heap.size, 2, none⟩ = some (.int .i64 y.m) ∧ w'.cell? ⟨w1.heap.size, 3, none⟩ = some (.slice K y.ks.length kc) ∧ w'.cell? ⟨w1.heap.size, 4, none⟩ = some (.int .i64 y.p) ∧ w'.cell? (la.add q) = some (.int .i64 v)) (go_keep) (first | (go_at_call 105; (with_reducible refine (is_nd y _ _ _ _ _).mono ?_); rintro e w2 ⟨rfl, b2⟩; have z2 := Below.size b2; have g0 := (b2.cell (p := ⟨w1.heap.size, 0, none⟩) lw1).trans f0; have g1 := (b2.cell (p := ⟨w1.heap.size, 1, none⟩) lw1).trans f1; have g2 := (b2.cell (p := ⟨w1.heap.size, 2, none⟩) lw1).trans f2; have g3 := (b2.cell (p := ⟨w1.heap.size, 3, none⟩) lw1).trans f3; have g4 := (b2.cell (p := ⟨w1.heap.size, 4, none⟩) lw1).trans f4; have gl := (b2.cell (p := la.add q) (by rw [block_add]; exact ll)).trans fl) | fail)
              go_wp2
              go_ret
              exact ⟨ret_bool (by rw [HB.out (by rw [hs.out, hr])] <;> rfl), (by (exact bl))⟩
            · go_region_held3 (fun w' => w'.cell? ⟨w1.heap.size, 0, none⟩ = some (.int .i64 y.k) ∧ w'.cell? ⟨w1.heap.size, 1, none⟩ = some (.string y.x) ∧ w'.cell? ⟨w1.heap.size, 2, none⟩ = some (.int .i64 y.m) ∧ w'.cell? ⟨w1.heap.size, 3, none⟩ = some (.slice K y.ks.length kc) ∧ w'.cell? ⟨w1.heap.size, 4, none⟩ = some (.int .i64 y.p) ∧ w'.cell? (la.add q) = some (.int .i64 v)) (go_keep) (first | (go_at_call 105; (with_reducible refine (is_nd y _ _ _ _ _).mono ?_); rintro e w2 ⟨rfl, b2⟩; have z2 := Below.size b2; have g0 := (b2.cell (p := ⟨w1.heap.size, 0, none⟩) lw1).trans f0; have g1 := (b2.cell (p := ⟨w1.heap.size, 1, none⟩) lw1).trans f1; have g2 := (b2.cell (p := ⟨w1.heap.size, 2, none⟩) lw1).trans f2; have g3 := (b2.cell (p := ⟨w1.heap.size, 3, none⟩) lw1).trans f3; have g4 := (b2.cell (p := ⟨w1.heap.size, 4, none⟩) lw1).trans f4; have gl := (b2.cell (p := la.add q) (by rw [block_add]; exact ll)).trans fl) | fail)
              go_wp2
              exact ⟨⟨q + 1, by omega, by go_num, Lib.hid (HY.out (by rw [hs.out, hr])), (by (exact bl))⟩, by simp [intOf]; omega⟩
      · obtain rfl : q = M := by omega
        go_wp2
        go_ret
        refine ⟨ret_bool ?_, bw⟩
        rw [rowg_fin HM.out.symm HT.out]
        simp
  · have hne : ((M : Int) != (N : Int)) = true := by simp; omega
    have hd : decide (M = N) = false := by simpa using hMN
    rw [hd]
    go_enter Tryz.func91, Tryz.ntmps91
    go_wp2
    go_ret
    exact ⟨rfl, bx⟩
end
end Go.Proofs.YtpkdhciokiomlaaGreatDoor
