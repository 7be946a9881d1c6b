/- Some texts of this claim, put together. -/
import Derived.Test.YtpkdhciokiomlaaGreatDoorHBZ8
namespace Go.Proofs.YtpkdhciokiomlaaGreatDoor
section
set_option linter.unusedVariables false
set_option linter.unusedSimpArgs false
set_option linter.unnecessarySimpa false
open Go.RowKit
attribute [local go_sem] cell_alloc_add cell_set_add lt_more
set_option maxRecDepth 100000 in
set_option maxHeartbeats 8000000 in
theorem each_any (A : Option Addr) (L : List Nd) (c i : Nat) (w : World) (h : TreeAt w w.heap.size A L) (hc : L.length ≤ c) (hm : c ≤ maxLen) (hi : i < L.length) (a b : Int) :
    Calls Tryz.prog 92 #[.agg #[.slice A L.length c], .int .i64 (i : Int), .int .i64 a, .int .i64 b] w fun e w' => e = .returned (.bool (eachB L (nd L i).ks a b)) ∧ Below w.heap.size w w' := by
  have hT := Lib.hid h
  have bx : Below w.heap.size w (w.alloc (.cells #[.slice A L.length c] 24)) := (by (exact bl))
  have hm2 := Lib.hid hm
  obtain ⟨ad, rfl, hn⟩ := h i hi
  have hb2 := hn.blk
  have hb1 : ad.block < w.heap.size := (by rw [block_add] at hb2; exact hb2)
  obtain ⟨K0, kc0, c0, c1, c2, c3, c4, hK0, hkk, hkm⟩ := node_open hn
  unfold maxLen at hm hkm
  have H := Lib.hid (show eachB L (nd L i).ks a b = (nd L i).ks.all (fun k => isW a (nd L k) || isW b (nd L k)) from rfl)
  rw [H.out]
  clear H
  have HK := Lib.hid (fun q (hq : q < (nd L i).ks.length) (hq2 : q ≤ 9223372036854775807) W (hb : Below w.heap.size w W) => Kid_at (some ad) L c i W (h.later hb) hc hm2.out hi q hq hq2)
  clear h hn c0 c1 c2 c4 hK0
  generalize (nd L i).ks = ks at *
  generalize hM : ks.length = M at *
  have HM := Lib.hid hM
  clear hM
  go_enter Tryz.func92, Tryz.ntmps92
  go_wp2
  have l0 : w.heap.size < (w.alloc (.cells #[.slice (some ad) L.length c] 24)).heap.size := by simp
  have a0 : (w.alloc (.cells #[.slice (some ad) L.length c] 24)).cell? ⟨w.heap.size, 0, none⟩ = some (.slice (some ad) L.length c) := by simp [World.cell?_alloc_mark]
  obtain ⟨wa, hwa⟩ : ∃ wa : World, wa = w.alloc (.cells #[.slice (some ad) L.length c] 24) := ⟨_, rfl⟩
  rw [← hwa] at a0 l0 bx ⊢
  clear hwa
  go_loopw [9] (fun t wr => ∃ q : Nat, q ≤ M ∧ t = .int .i64 (q : Int) ∧ Hid ((ks.take q).all (fun k => isW a (nd L k) || isW b (nd L k)) = true) ∧ Below wa.heap.size wa wr) (fun t _ => M - (intOf t).toNat)
  case atStart => exact ⟨0, Nat.zero_le _, rfl, Lib.hid rfl, Below.refl _ _⟩
  case round =>
    obtain ⟨q, hq, rfl, HT, hb⟩ := hrel
    have e0 := (hb.cell (p := ⟨w.heap.size, 0, none⟩) l0).trans a0
    have hz := Below.size hb
    have zx := Below.size bx
    have bw := bx.trans (hb.mono bx.size)
    have d3 := (bw.cell (p := ⟨(ad.add (i * 5)).block, (ad.add (i * 5)).off + 3, none⟩) hb2).trans c3
    by_cases hlt : q < M
    · have HY := Lib.hid (fun e => all_take (f := fun k => isW a (nd L k) || isW b (nd L k)) (by rw [HM.out]; exact hlt) HT.out e)
      have HB := Lib.hid (fun e => all_bad (f := fun k => isW a (nd L k) || isW b (nd L k)) (l := ks) (j := q) (by rw [HM.out]; exact hlt) e)
      have HKq := Lib.hid (HK.out q hlt (by omega) wr bw)
      generalize nd L (ks.getD q 0) = y at *
      have kid := 0
      cases ha : isW a y
      · cases hb' : isW b y
        · go_wp2_with (first
            | (go_at_call 93; (with_reducible refine HKq.out.mono ?_); rintro e w1 ⟨⟨K, kc, rfl, hK, hkk1, hkm1⟩, b1⟩; clear hK; unfold nodeV; have z1 := Below.size b1; have q1 := bw.trans (b1.mono bw.size); have r1 := hb.trans (b1.mono hb.size))
            | (go_at_call 105; (with_reducible refine (is_nd y _ _ _ a _).mono ?_); rintro e w2 ⟨rfl, b2⟩; have q2 := (q1.alloc q1.size _).trans (b2.mono (B' := w.heap.size) (by simp; omega)); have r2 := (r1.alloc r1.size _).trans (b2.mono (B' := wa.heap.size) (by simp; omega)); have z2 := Below.size b2; have g0 := b2.cell (p := ⟨w1.heap.size, 0, none⟩) (by simp); have g1 := b2.cell (p := ⟨w1.heap.size, 1, none⟩) (by simp); have g2 := b2.cell (p := ⟨w1.heap.size, 2, none⟩) (by simp); have g3 := b2.cell (p := ⟨w1.heap.size, 3, none⟩) (by simp); have g4 := b2.cell (p := ⟨w1.heap.size, 4, none⟩) (by simp); rw [World.cell?_alloc_mark] at g0 g1 g2 g3 g4)
            | (go_at_call 105; (with_reducible refine (is_nd y _ _ _ b _).mono ?_); rintro e w3 ⟨rfl, b3⟩; have q3 := q2.trans (b3.mono q2.size); have r3 := r2.trans (b3.mono r2.size); have z3 := Below.size b3)
            | fail)
          go_ret
          exact ⟨ret_bool (by rw [HB.out (by rw [ha, hb']; rfl)] <;> rfl), (by (exact bl))⟩
        · go_wp2_with (first
            | (go_at_call 93; (with_reducible refine HKq.out.mono ?_); rintro e w1 ⟨⟨K, kc, rfl, hK, hkk1, hkm1⟩, b1⟩; clear hK; unfold nodeV; have z1 := Below.size b1; have q1 := bw.trans (b1.mono bw.size); have r1 := hb.trans (b1.mono hb.size))
            | (go_at_call 105; (with_reducible refine (is_nd y _ _ _ a _).mono ?_); rintro e w2 ⟨rfl, b2⟩; have q2 := (q1.alloc q1.size _).trans (b2.mono (B' := w.heap.size) (by simp; omega)); have r2 := (r1.alloc r1.size _).trans (b2.mono (B' := wa.heap.size) (by simp; omega)); have z2 := Below.size b2; have g0 := b2.cell (p := ⟨w1.heap.size, 0, none⟩) (by simp); have g1 := b2.cell (p := ⟨w1.heap.size, 1, none⟩) (by simp); have g2 := b2.cell (p := ⟨w1.heap.size, 2, none⟩) (by simp); have g3 := b2.cell (p := ⟨w1.heap.size, 3, none⟩) (by simp); have g4 := b2.cell (p := ⟨w1.heap.size, 4, none⟩) (by simp); rw [World.cell?_alloc_mark] at g0 g1 g2 g3 g4)
            | (go_at_call 105; (with_reducible refine (is_nd y _ _ _ b _).mono ?_); rintro e w3 ⟨rfl, b3⟩; have q3 := q2.trans (b3.mono q2.size); have r3 := r2.trans (b3.mono r2.size); have z3 := Below.size b3)
            | fail)
          go_roundw
          case rel => exact ⟨q + 1, by omega, by go_num, Lib.hid (HY.out (by rw [ha, hb']; rfl)), (by (exact bl))⟩
          case measure => simp [intOf]; omega
      · go_wp2_with (first
          | (go_at_call 93; (with_reducible refine HKq.out.mono ?_); rintro e w1 ⟨⟨K, kc, rfl, hK, hkk1, hkm1⟩, b1⟩; clear hK; unfold nodeV; have z1 := Below.size b1; have q1 := bw.trans (b1.mono bw.size); have r1 := hb.trans (b1.mono hb.size))
          | (go_at_call 105; (with_reducible refine (is_nd y _ _ _ a _).mono ?_); rintro e w2 ⟨rfl, b2⟩; have q2 := (q1.alloc q1.size _).trans (b2.mono (B' := w.heap.size) (by simp; omega)); have r2 := (r1.alloc r1.size _).trans (b2.mono (B' := wa.heap.size) (by simp; omega)); have z2 := Below.size b2; have g0 := b2.cell (p := ⟨w1.heap.size, 0, none⟩) (by simp); have g1 := b2.cell (p := ⟨w1.heap.size, 1, none⟩) (by simp); have g2 := b2.cell (p := ⟨w1.heap.size, 2, none⟩) (by simp); have g3 := b2.cell (p := ⟨w1.heap.size, 3, none⟩) (by simp); have g4 := b2.cell (p := ⟨w1.heap.size, 4, none⟩) (by simp); rw [World.cell?_alloc_mark] at g0 g1 g2 g3 g4)
          | (go_at_call 105; (with_reducible refine (is_nd y _ _ _ b _).mono ?_); rintro e w3 ⟨rfl, b3⟩; have q3 := q2.trans (b3.mono q2.size); have r3 := r2.trans (b3.mono r2.size); have z3 := Below.size b3)
          | fail)
        go_roundw
        case rel => exact ⟨q + 1, by omega, by go_num, Lib.hid (HY.out (by rw [ha]; rfl)), (by (exact bl))⟩
        case measure => simp [intOf]; omega
    · obtain rfl : q = M := by omega
      go_wp2
      go_ret
      refine ⟨ret_bool ?_, bw⟩
      have := HT.out
      rw [← HM.out, List.take_length] at this
      exact this.symm
theorem namedIn_out {L : List Nd} {f : Nat} {i : Int} (h : inL L i = false) : namedIn L (f + 1) i = false := by rw [namedIn, h]; rfl
theorem namedIn_name {L : List Nd} {f : Nat} {i : Int} (h : inL L i = true) (h1 : (nd L i).k = 17) : namedIn L (f + 1) i = true := by rw [namedIn, h, if_pos h1]; rfl
theorem namedIn_no {L : List Nd} {f : Nat} {i : Int} (h1 : (nd L i).k ≠ 17) (h2 : (nd L i).k ≠ 29) : namedIn L (f + 1) i = false := by rw [namedIn, if_neg h1, if_neg h2, Bool.and_false]
theorem namedIn_bad {L : List Nd} {f : Nat} {i : Int} (h2 : (nd L i).k = 29) (h3 : (nd L i).ks.length ≠ 1) : namedIn L (f + 1) i = false := by
  rw [namedIn, if_neg (by omega), if_pos h2]
  match (nd L i).ks, h3 with
  | [], _ => simp
  | [a], h => exact absurd rfl h
  | _ :: _ :: _, _ => simp
theorem namedIn_go {L : List Nd} {f : Nat} {i : Int} (h : inL L i = true) (h2 : (nd L i).k = 29) (h3 : (nd L i).ks.length = 1) : namedIn L (f + 1) i = namedIn L f ((nd L i).ks.getD 0 0) := by
  rw [namedIn, h, if_neg (by omega), if_pos h2]
  match (nd L i).ks, h3 with
  | [a], _ => simp
set_option maxRecDepth 100000 in
set_option maxHeartbeats 8000000 in
theorem named_any (A : Option Addr) (L : List Nd) (c : Nat) (i : Int) (w : World) (h : TreeAt w w.heap.size A L) (hc : L.length ≤ c) (hm : c ≤ maxLen) (hL : L.length ≤ 1000000000000) :
    Calls Tryz.prog 94 #[.agg #[.slice A L.length c], .int .i64 i] w fun e w' => e = .returned (.bool (namedB L i)) ∧ Below w.heap.size w w' := by
  have hT := Lib.hid h
  have bx : Below w.heap.size w (w.alloc (.cells #[.slice A L.length c] 24)) := (by (exact bl))
  have hm2 := Lib.hid hm
  unfold maxLen at hm
  obtain ⟨R, hR⟩ : ∃ R, R = namedB L i := ⟨_, rfl⟩
  rw [← hR]
  have HR := Lib.hid (show namedIn L (L.length + 1 - 0) i = R by rw [hR]; rfl)
  obtain ⟨N, hN⟩ : ∃ N, N = L.length := ⟨_, rfl⟩
  rw [← hN] at hc hL HR ⊢
  have HN := Lib.hid hN
  clear h hR hN
  have hN63 : N ≤ 9223372036854775806 := by omega
  have bx : Below w.heap.size w (w.alloc (.cells #[.slice A N c] 24)) := (by (exact bl))
  go_enter Tryz.func94, Tryz.ntmps94
  go_wp2
  go_loopw [1, 5] (fun cu t wr => ∃ (j : Nat) (i : Int), j ≤ N + 1 ∧ t = .int .i64 (j : Int) ∧ cu = .int .i64 i ∧ Hid (namedIn L (N + 1 - j) i = R) ∧ Below w.heap.size w wr ∧ w.heap.size < wr.heap.size ∧ wr.cell? ⟨w.heap.size, 0, none⟩ = some (.slice A N c)) (fun _ t _ => N + 1 - (intOf t).toNat)
  case atStart => exact ⟨0, i, Nat.zero_le _, rfl, rfl, HR, bx, by simp, by simp [World.cell?_alloc_mark]⟩
  case round =>
    clear bx HR
    clear i
    obtain ⟨j, i, hj, rfl, rfl, HR, hb, hz, hbox⟩ := hrel
    by_cases hlt : j ≤ N
    · rw [show N + 1 - j = (N - j) + 1 by omega] at HR
      have HO := Lib.hid (fun e => (namedIn_out (L := L) (f := N - j) (i := i) e).symm.trans HR.out)
      have H17 := Lib.hid (fun e e1 => (namedIn_name (L := L) (f := N - j) (i := i) e e1).symm.trans HR.out)
      have HNO := Lib.hid (fun e e1 => (namedIn_no (L := L) (f := N - j) (i := i) e e1).symm.trans HR.out)
      have HBA := Lib.hid (fun e e1 => (namedIn_bad (L := L) (f := N - j) (i := i) e e1).symm.trans HR.out)
      have HGO := Lib.hid (fun e e1 e2 => (namedIn_go (L := L) (f := N - j) (i := i) e e1 e2).symm.trans HR.out)
      clear HR
      rcases Bool.eq_false_or_eq_true (inL L i) with hi | hi
      · obtain ⟨n, rfl, hn⟩ := inL_nat hi
        obtain ⟨ad, hA, hnn⟩ := hT.out n hn
        subst hA
        rw [← HN.out] at hn
        have hd := hnn.keep fun p hp => hb.cell hp
        have hd2 := hd.blk
        have hd1 : ad.block < w.heap.size := by rw [block_add] at hd2; exact hd2
        obtain ⟨K, kc, c0, c1, c2, c3, c4, hK, hkk, hkm⟩ := node_open hd
        unfold maxLen at hkm
        have hKK := Lib.hid hK
        clear hK hnn hd HO
        generalize nd L n = y at *
        obtain ⟨k, x, m, ks, p⟩ := y
        simp only at c0 c1 c2 c3 c4 hkk H17 HNO HBA HGO hKK
        by_cases k17 : k = 17
        · subst k17
          have hres := H17.out hi rfl
          subst hres
          go_wp2
          go_ret
          exact ⟨rfl, (by (exact bl))⟩
        · have k17' : (k == 17) = false := by simpa using k17
          by_cases k29 : k = 29
          · subst k29
            obtain ⟨q, hq⟩ : ∃ q, q = ks.length := ⟨_, rfl⟩
            rw [← hq] at c3 hkk HBA HGO hKK
            clear hq
            by_cases n1 : q = 1
            · subst n1
              obtain ⟨ka, hKa, hkb, kcell⟩ := hKK.out 0 (by decide)
              subst hKa
              replace kcell : wr.cell? ka = some (.int .i64 (ks.getD 0 0)) := by rw [add_zero] at kcell; exact kcell
              have HC2 := Lib.hid (HGO.out hi rfl rfl)
              generalize ks.getD 0 0 = x0 at *
              have ckb : ka.block < wr.heap.size := by have h9 := World.block_lt_of_cell? wr ka kcell; exact h9
              clear H17 HNO HBA HGO hKK
              go_wp2
              go_roundw
              case rel => exact ⟨j + 1, x0, by omega, by go_num, rfl, by rw [show N + 1 - (j + 1) = N - j by omega]; exact HC2, (by (exact bl)), by simp; omega, by rw [World.cell?_alloc_lt wr _ ⟨w.heap.size, 0, none⟩ hz]; exact hbox⟩
              case measure => simp [intOf]; omega
            · have n1' : ((q : Int) != 1) = true := by simp; omega
              have hres := HBA.out rfl n1
              subst hres
              go_wp2
              go_ret
              exact ⟨rfl, (by (exact bl))⟩
          · have k29' : (k != 29) = true := by simpa using k29
            have hres := HNO.out k17 k29
            subst hres
            go_wp2
            go_ret
            exact ⟨rfl, (by (exact bl))⟩
      · have hres := HO.out hi
        subst hres
        have hx2 : ¬ (0 ≤ i ∧ i < L.length) := by rw [← inL_iff, hi]; simp
        rw [← HN.out] at hx2
        by_cases hneg : i < 0
        · go_wp2
          go_ret
          exact ⟨rfl, (by (exact bl))⟩
        · have hge : (N : Int) ≤ i := by omega
          go_wp2
          go_ret
          exact ⟨rfl, (by (exact bl))⟩
    · obtain rfl : j = N + 1 := by omega
      have hres : R = false := by rw [← HR.out, Nat.sub_self]; rfl
      subst hres
      go_wp2
      go_ret
      exact ⟨rfl, hb⟩
end
section
set_option linter.unusedVariables false
set_option linter.unusedSimpArgs false
set_option linter.unnecessarySimpa false
open Go.RowKit
attribute [local go_sem] cell_alloc_add cell_set_add lt_more
/-- A row of numbers that the call itself has just laid. -/
theorem row_lit (A : Option Addr) (L : List Nd) (c i : Nat) (w : World) (h : TreeAt w w.heap.size A L) (hc : L.length ≤ c) (hm : c ≤ maxLen) (hi : i < L.length) (l : List Int) (n : Nat) (cs : Array Value) (hn : l.length = n) (hl1 : n ≤ 1000) (hl2 : ∀ v ∈ l, -1000000 ≤ v ∧ v ≤ 1000000) (hcs : cs = (l.map fun k => Value.int .i64 k).toArray) :
    Calls Tryz.prog 91 #[.agg #[.slice A L.length c], .int .i64 (i : Int), .slice (some ⟨w.heap.size, 0, none⟩) n n] (w.alloc (.cells cs 3)) fun e w' => e = .returned (.bool (rowB L (nd L i).ks l)) ∧ Below w.heap.size w w' := by
  subst hn
  have b0 : Below w.heap.size w (w.alloc (.cells cs 3)) := (by (exact bl))
  exact (row_any A L c i _ (h.later b0) hc hm hi l _ _ (rd_lit w l cs 3 hcs) hl1 hl2).mono fun _ _ ⟨h1, h2⟩ => ⟨h1, b0.trans (h2.mono b0.size)⟩
set_option maxHeartbeats 4000000 in
theorem rExported_any (y : Nd) (K : Option Addr) (n kc : Nat) (w : World) :
    Calls Tryz.prog 97 #[.agg #[.int .i64 y.k, .string y.x, .int .i64 y.m, .slice K n kc, .int .i64 y.p]] w fun e w' => e = .returned (.bool (expK y)) ∧ Below w.heap.size w w' := by
  obtain ⟨k, x, m, ks, p⟩ := y
  simp only
  have H := Lib.hid (show expK ⟨k, x, m, ks, p⟩ = if k = 40 then m == 1 else if k = 47 then !(m == 1) else k == 41 || k == 42 || k == 49 || k == 51 || k == 52 from rfl)
  generalize expK ⟨k, x, m, ks, p⟩ = R at *
  go_enter Tryz.func97, Tryz.ntmps97
  go_wp2
  all_goals go_ret
  all_goals (refine ⟨ret_bool ?_, (by (exact bl))⟩; (try simp only [beq_iff_eq, beq_eq_false_iff_ne, bne_iff_ne, bne_eq_false_iff_eq, ne_eq, decide_eq_true_eq, decide_eq_false_iff_not, Bool.and_eq_true, Bool.or_eq_true, Bool.not_eq_true, Bool.not_eq_false, Bool.false_eq_true, Decidable.not_not, Bool.not_eq_eq_eq_not, Bool.not_true, Bool.not_false] at *); rw [H.out]; simp_all [bne])
theorem list_at (A : Option Addr) (L : List Nd) (c i : Nat) (w : World) (h : TreeAt w w.heap.size A L) (hc : L.length ≤ c) (hm : c ≤ maxLen) (hi : i < L.length) (j : Nat) (z : Int) (hz : (j : Int) = z) (hj : j ≤ 9223372036854775807) (which : Int) :
    Calls Tryz.prog 90 #[.agg #[.slice A L.length c], .int .i64 (i : Int), .int .i64 z, .int .i64 which] w fun e w' => e = .returned (.bool (listB L (nd L i) j which)) ∧ Below w.heap.size w w' := by
  subst hz
  exact list_any A L c i w h hc hm hi j hj which
theorem kid_lit (A : Option Addr) (L : List Nd) (c i : Nat) (w : World) (h : TreeAt w w.heap.size A L) (hc : L.length ≤ c) (hm : c ≤ maxLen) (hi : i < L.length) (j : Nat) (z : Int) (hz : (j : Int) = z) (hj : j ≤ 9223372036854775807) :
    Calls Tryz.prog 93 #[.agg #[.slice A L.length c], .int .i64 (i : Int), .int .i64 z] w fun e w' => GivesNd w w.heap.size (kidB L (nd L i) j) e ∧ Below w.heap.size w w' := by
  subst hz
  exact Kid_any A L c i w h hc hm hi j hj
theorem fld0 (k m p : Int) (x : ByteArray) (K : Option Addr) (n kc : Nat) (W : World) : (Instr.field 37 (.agg #[.int .i64 k, .string x, .int .i64 m, .slice K n kc, .int .i64 p]) 0).run Tryz.prog W = .ok (.int .i64 k) W := by kernel_rfl
theorem fld2 (k m p : Int) (x : ByteArray) (K : Option Addr) (n kc : Nat) (W : World) : (Instr.field 37 (.agg #[.int .i64 k, .string x, .int .i64 m, .slice K n kc, .int .i64 p]) 2).run Tryz.prog W = .ok (.int .i64 m) W := by kernel_rfl
end
section
set_option linter.unusedVariables false
set_option linter.unusedSimpArgs false
set_option linter.unnecessarySimpa false
open Go.RowKit
attribute [local go_sem] cell_alloc_add cell_set_add lt_more
theorem rctors_next {L : List Nd} {ks : List Int} {j : Nat} (h : j < ks.length) : ctorsB L (ks.take (j + 1)) = ctorsB L (ks.take j) + if (nd L (ks.getD j 0)).k = 46 then 1 else 0 := by
  have e : ks.getD j 0 = ks[j] := by simp [List.getD, h]
  unfold ctorsB
  rw [List.take_succ_eq_append_getElem h, List.filter_append, List.length_append, e]
  by_cases h2 : (nd L ks[j]).k = 46
  · have h3 : ((nd L ks[j]).k == 46) = true := by simpa using h2
    simp [List.filter_cons, h3, h2]
  · have h3 : ((nd L ks[j]).k == 46) = false := by simpa using h2
    simp [List.filter_cons, h3, h2]
theorem rctors_le (L : List Nd) (ks : List Int) : ctorsB L ks ≤ ks.length := List.length_filter_le _ _
set_option maxRecDepth 100000 in
set_option maxHeartbeats 8000000 in
theorem rCtors_any (A : Option Addr) (L : List Nd) (c i : Nat) (w : World) (h : TreeAt w w.heap.size A L) (hc : L.length ≤ c) (hm : c ≤ maxLen) (hi : i < L.length) (hlist : listB L (nd L i) 3 1005 = true) :
    Calls Tryz.prog 96 #[.agg #[.slice A L.length c], .int .i64 (i : Int)] w fun e w' => e = .returned (.int .i64 (ctorsB L (kidB L (nd L i) 3).ks)) ∧ Below w.heap.size w w' := by
  have hT := Lib.hid h
  have bx : Below w.heap.size w (w.alloc (.cells #[.slice A L.length c] 24)) := (by (exact bl))
  have HK := Lib.hid (kid_lit A L c i _ (h.later bx) hc hm hi 3 3 rfl (by decide))
  have hm2 := Lib.hid hm
  unfold maxLen at hm
  have hall := Lib.hid (fun j (hj : j ∈ (kidB L (nd L i) 3).ks) => (show inL L j = true by
    unfold listB at hlist
    rw [Bool.and_eq_true] at hlist
    have := List.all_eq_true.1 hlist.2 j hj
    rw [Bool.and_eq_true] at this
    exact this.1))
  clear h hlist
  generalize kidB L (nd L i) 3 = y at *
  obtain ⟨k, x, m, ks, p⟩ := y
  simp only at hall ⊢
  have HE2 := Lib.hid (fun j hj => rctors_next (L := L) (ks := ks) (j := j) hj)
  have HE3 := Lib.hid (fun j => rctors_le L (ks.take j))
  go_enter Tryz.func96, Tryz.ntmps96
  go_wp2_with (first
    | (go_at_call 93; (with_reducible refine HK.out.mono ?_); rintro e w1 ⟨⟨K, kc, rfl, hK, hkk, hkm⟩, b1⟩; have hK0 := Lib.hid hK; clear hK; unfold nodeV; have z1 := Below.size b1; have x1 : w1.cell? ⟨w.heap.size, 0, none⟩ = some (.slice A L.length c) := (b1.cell (p := ⟨w.heap.size, 0, none⟩) (by simp)).trans (by simp [World.cell?_alloc_mark]); have bw1 := bx.trans (b1.mono bx.size); have zw := Below.size bw1)
    | fail)
  generalize hn : ks.length = n at hkk hK0 ⊢
  have HN := Lib.hid hn
  clear hn
  unfold maxLen at hkm
  obtain ⟨wa, hwa⟩ : ∃ wa : World, wa = w1.alloc (.cells #[.int .i64 k, .string x, .int .i64 m, .slice K n kc, .int .i64 p] 37) := ⟨_, rfl⟩
  have a0 : wa.cell? ⟨w.heap.size, 0, none⟩ = some (.slice A L.length c) := by rw [hwa, World.cell?_alloc_lt w1 _ ⟨w.heap.size, 0, none⟩ (World.block_lt_of_cell? w1 _ x1)]; exact x1
  have a3 : wa.cell? ⟨w1.heap.size, 3, none⟩ = some (.slice K n kc) := by rw [hwa, World.cell?_alloc_mark]; rfl
  have bwa : Below w.heap.size w wa := by rw [hwa]; (exact bl)
  rw [← hwa]
  have hKw := Lib.hid (hK0.out.below (w' := wa) (by rw [hwa]; (exact bl)))
  clear hwa hK0 HK
  have l0 := World.block_lt_of_cell? wa _ a0
  have l3 := World.block_lt_of_cell? wa _ a3
  simp only at l0 l3
  go_loopw [6, 7] (fun ct t wr => ∃ q : Nat, q ≤ n ∧ t = .int .i64 (q : Int) ∧ ct = .int .i64 (ctorsB L (ks.take q)) ∧ ∃ d, wr = wa.drewN d) (fun _ t _ => n - (intOf t).toNat)
  case atStart => exact ⟨0, Nat.zero_le _, rfl, rfl, 0, rfl⟩
  case round =>
    obtain ⟨q, hq, rfl, rfl, d, rfl⟩ := hrel
    have hcl := HE3.out q
    have hjl : (ks.take q).length ≤ q := List.length_take_le _ _
    by_cases hlt : q < n
    · obtain ⟨ka, hKa, hkb, kcell⟩ := hKw.out q hlt
      subst hKa
      replace kcell : wa.cell? (ka.add q) = some (.int .i64 (ks.getD q 0)) := kcell
      have hx : inL L (ks.getD q 0) = true := hall.out _ (by
        have h2 : q < ks.length := by rw [HN.out]; exact hlt
        have e : ks.getD q 0 = ks[q] := by simp [List.getD, h2]
        rw [e]; exact List.getElem_mem _)
      have HS := Lib.hid (HE2.out q (by rw [HN.out]; exact hlt))
      obtain ⟨xn, hxe, hxn⟩ := inL_nat hx
      obtain ⟨ad, hA, hnn⟩ := hT.out xn hxn
      subst hA
      have d0 := (hnn.keep fun p hp => bwa.cell hp).c0
      clear hnn
      have HX := Lib.hid (show (nd L (ks.getD q 0)).k = (nd L xn).k by rw [hxe])
      rw [HX.out] at HS
      rw [hxe] at kcell
      clear hxe hx HX
      generalize (nd L xn).k = kk at *
      generalize hct : ctorsB L (ks.take q) = ct at *
      clear hct
      by_cases k46 : kk = 46
      · subst k46
        go_wp2
        go_quiet (fail)
        go_wp2
        refine ⟨⟨q + 1, by omega, by go_num, by rw [HS.out, if_pos trivial]; go_num, ?_⟩, by simp [intOf]; omega⟩
        exact ⟨_, rfl⟩
      · have k46' : (kk == 46) = false := by simpa using k46
        go_wp2
        go_quiet (fail)
        go_wp2
        refine ⟨⟨q + 1, by omega, by go_num, by rw [HS.out, if_neg k46]; go_num, ?_⟩, by simp [intOf]; omega⟩
        exact ⟨_, rfl⟩
    · obtain rfl : q = n := by omega
      go_wp2
      go_ret
      refine ⟨ret_int ?_, (by (exact bl))⟩
      rw [← HN.out, List.take_length]
end
section
set_option linter.unusedVariables false
set_option linter.unusedSimpArgs false
set_option linter.unnecessarySimpa false
open Go.RowKit
attribute [local go_sem] cell_alloc_add cell_set_add lt_more fld0 fld2
set_option maxRecDepth 100000 in
set_option maxHeartbeats 8000000 in
theorem function_any (A : Option Addr) (L : List Nd) (c i : Nat) (w : World) (h : TreeAt w w.heap.size A L) (hc : L.length ≤ c) (hm : c ≤ maxLen) (hL : L.length ≤ 1000000000000) (hi : i < L.length) : Calls Tryz.prog 95 #[.agg #[.slice A L.length c], .int .i64 (i : Int)] w fun e w' => e = .returned (.bool (functionB L (nd L i))) ∧ Below w.heap.size w w' := by
  have hT := Lib.hid h
  have hm2 := Lib.hid hm
  obtain ⟨ad, rfl, hn⟩ := h i hi
  have hb2 := hn.blk
  have hb1 : ad.block < w.heap.size := (by rw [block_add] at hb2; exact hb2)
  obtain ⟨K0, kc0, c0, c1, c2, c3, c4, hK0, hkk, hkm⟩ := node_open hn
  have HCr0 := Lib.hid (fun W (hb : Below w.heap.size w W) => row_lit (some ad) L c i W (h.later hb) hc hm hi [2, 2, -1001, 63] 4 #[.int .i64 2, .int .i64 2, .int .i64 (-1001), .int .i64 63] rfl (by decide) (by decide) rfl)
  have HCr1 := Lib.hid (fun W (hb : Below w.heap.size w W) => list_at (some ad) L c i W (h.later hb) hc hm hi 0 0 rfl (by decide) 67)
  have HCr2 := Lib.hid (fun W (hb : Below w.heap.size w W) => list_at (some ad) L c i W (h.later hb) hc hm hi 1 1 rfl (by decide) 1003)
  have H := Lib.hid (show functionB L (nd L i) = ((rowB L (nd L i).ks [2, 2, -1001, 63]) && (listB L (nd L i) 0 67) && (listB L (nd L i) 1 1003)) from rfl)
  rw [H.out]
  clear H h hn c0 c1 c2 c3 c4
  generalize rowB L (nd L i).ks [2, 2, -1001, 63] = r0 at *
  generalize listB L (nd L i) 0 67 = r1 at *
  generalize listB L (nd L i) 1 1003 = r2 at *
  unfold maxLen at hm hkm
  go_enter Tryz.func95, Tryz.ntmps95
  go_upto_region 1 with fail
  obtain ⟨wa, hwa⟩ : ∃ wa : World, wa = (w.alloc (.cells #[.slice (some ad) L.length c] 24)) := ⟨_, rfl⟩
  have xa : wa.cell? ⟨w.heap.size, 0, none⟩ = some (.slice (some ad) L.length c) := by rw [hwa]; simp [World.cell?_alloc_mark]
  have qa : Below w.heap.size w wa := by rw [hwa]; (exact bl)
  have za := Below.size qa
  rw [← hwa]
  clear hwa
  go_wp2_with (first
    | (go_at_call 91; (with_reducible refine (HCr0.out wa qa).mono ?_); rintro e wr0 ⟨rfl, br0⟩; have qr0 := qa.trans (br0.mono qa.size); have zr0 := Below.size qr0; have xr0 : wr0.cell? ⟨w.heap.size, 0, none⟩ = some (.slice (some ad) L.length c) := (br0.cell (p := ⟨w.heap.size, 0, none⟩) (World.block_lt_of_cell? wa _ xa)).trans xa)
    | (go_at_call 90; (with_reducible refine (HCr1.out wr0 qr0).mono ?_); rintro e wr1 ⟨rfl, br1⟩; have qr1 := qr0.trans (br1.mono qr0.size); have zr1 := Below.size qr1; have xr1 : wr1.cell? ⟨w.heap.size, 0, none⟩ = some (.slice (some ad) L.length c) := (br1.cell (p := ⟨w.heap.size, 0, none⟩) (World.block_lt_of_cell? wr0 _ xr0)).trans xr0)
    | (go_at_call 90; (with_reducible refine (HCr2.out wr1 qr1).mono ?_); rintro e wr2 ⟨rfl, br2⟩; have qr2 := qr1.trans (br2.mono qr1.size); have zr2 := Below.size qr2; have xr2 : wr2.cell? ⟨w.heap.size, 0, none⟩ = some (.slice (some ad) L.length c) := (br2.cell (p := ⟨w.heap.size, 0, none⟩) (World.block_lt_of_cell? wr1 _ xr1)).trans xr1)
    | fail)
  all_goals go_ret
  all_goals (refine ⟨ret_bool ?_, (by (exact bl))⟩; first | rfl | (simp [*]; done) | ((try simp only [beq_iff_eq, beq_eq_false_iff_ne, bne_iff_ne, bne_eq_false_iff_eq, ne_eq, decide_eq_true_eq, decide_eq_false_iff_not, Bool.and_eq_true, Bool.or_eq_true, Bool.not_eq_true, Bool.not_eq_false, Bool.false_eq_true, Decidable.not_not, Bool.not_eq_eq_eq_not, Bool.not_true, Bool.not_false] at *); simp_all; done))
end
end Go.Proofs.YtpkdhciokiomlaaGreatDoor
