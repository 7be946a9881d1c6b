/- The walks of the program's places that look further: what may stand behind export, a class's members, a path. -/
import Derived.Test.YtpkdhciokiomlaaDoorHBZ8
import Derived.Deep.DeepCutAuto
namespace Go.Proofs.YtpkdhciokiomlaaDoor
set_option linter.unusedVariables false
set_option linter.unusedSimpArgs false
set_option linter.unnecessarySimpa false
open Go.RowKit
attribute [local go_sem] cell_alloc_add cell_set_add lt_more
theorem beq_dec3 (a b : Int) : (a == b) = decide (a = b) := by rw [Bool.eq_iff_iff]; simp
set_option maxRecDepth 100000 in
set_option maxHeartbeats 4000000 in
theorem isExported_any (A : Option Addr) (L : List Nd) (c i : Nat) (w : World) (h : TreeAt w w.heap.size A L) (hc : L.length ≤ c) (hm : c ≤ maxLen) (hi : i < L.length) : Calls Tryd.prog 59 #[.agg #[.slice A L.length c], .int .i64 (i : Int)] w fun e w' => e = .returned (.bool (expP L i)) ∧ Below w.heap.size w w' := by
  have hT := Lib.hid h
  have hm2 := Lib.hid hm
  obtain ⟨ad, rfl, hn⟩ := h i hi
  have hb2 := hn.blk
  have hb1 : ad.block < w.heap.size := (by rw [block_add] at hb2; exact hb2)
  obtain ⟨K, kc, c0, c1, c2, c3, c4, _, _, _⟩ := node_open hn
  unfold maxLen at hm
  have H := Lib.hid (show expP L i = expK (nd L i) from rfl)
  clear h hn
  rw [H.out]
  clear H
  generalize hy : nd L i = y at *
  obtain ⟨k, x, m, ks, p⟩ := y
  have HY := Lib.hid hy
  clear hy
  simp only at c0 c1 c2 c3 c4
  by_cases k40 : k = 40
  · subst k40
    go_enter Tryd.func59, Tryd.ntmps59
    go_wp2
    go_ret
    exact ⟨ret_bool (by simp [expK, bne]), (by (exact bl))⟩
  · have k40' : (k == 40) = false := by simpa using k40
    by_cases k47 : k = 47
    · subst k47
      go_enter Tryd.func59, Tryd.ntmps59
      go_wp2
      go_ret
      exact ⟨ret_bool (by simp [expK, bne]), (by (exact bl))⟩
    · have k47' : (k == 47) = false := by simpa using k47
      have HE := Lib.hid (show (fun (y : Nd) => ([41, 42, 49, 51, 52] : List Int).contains y.k) ⟨k, x, m, ks, p⟩ = expK ⟨k, x, m, ks, p⟩ by simp [expK, k40, k47, beq_dec3, Bool.or_assoc])
      go_enter Tryd.func59, Tryd.ntmps59
      go_upto_region 7 with fail
      obtain ⟨wo, hwo⟩ : ∃ wo : World, wo = ((w.alloc (.cells #[.slice (some ad) L.length c] 24)).alloc (.cells #[.int .i64 k, .string x, .int .i64 m, .slice K ks.length kc, .int .i64 p] 35)) := ⟨_, rfl⟩
      have x0 : wo.cell? ⟨w.heap.size, 0, none⟩ = some (.slice (some ad) L.length c) := by rw [hwo]; simp [World.cell?_alloc_mark]
      have z0 : w.heap.size < wo.heap.size := by rw [hwo]; simp; omega
      have bx : Below w.heap.size w wo := by rw [hwo]; (exact bl)
      rw [← hwo]
      clear hwo
      have ne := World.new_ne wo _ x0
      have HO := Lib.hid (of_lit wo [41, 42, 49, 51, 52] 5 5 #[.int .i64 41, .int .i64 42, .int .i64 49, .int .i64 51, .int .i64 52] 3 rfl (by decide) rfl)
      have hb3 : Below w.heap.size w (wo.alloc (.cells #[.int .i64 41, .int .i64 42, .int .i64 49, .int .i64 51, .int .i64 52] 3)).drew := (by (exact bl))
      go_region_held3 (fun w' => w'.cell? ⟨w.heap.size, 0, none⟩ = some (.slice (some ad) L.length c)) (go_keep) (first | (go_at_call 38; (with_reducible refine HO.out.mono ?_); rintro e w1 ⟨⟨v, rfl, F, caps, rfl, hF, hP0⟩, b1⟩; have hP := Lib.hid hP0; clear hP0; have x1 : w1.cell? ⟨w.heap.size, 0, none⟩ = some (.slice (some ad) L.length c) := (b1.cell (p := ⟨w.heap.size, 0, none⟩) (by simp; omega)).trans (by go_keep); have bw1 := hb3.trans (b1.mono (B' := w.heap.size) (by simp; omega))) | ((with_reducible refine (hP.out w1 _ L c i (Below.refl _ _) (hT.out.later bw1) hc hm2.out hi).mono ?_); rintro e w2 ⟨rfl, b2⟩; have bw2 := bw1.trans (b2.mono (B' := w.heap.size) bw1.size); have x2 : w2.cell? ⟨w.heap.size, 0, none⟩ = some (.slice (some ad) L.length c) := (b2.cell (p := ⟨w.heap.size, 0, none⟩) (World.block_lt_of_cell? w1 _ x1)).trans x1) | fail)
      go_wp2
      go_ret
      refine ⟨ret_bool ?_, bw2⟩
      rw [← HE.out]
      show ofP [41, 42, 49, 51, 52] L i = _
      unfold ofP
      rw [HY.out]
theorem ctors_next {L : List Nd} {ks : List Int} {j : Nat} (h : j < ks.length) : ctorsB L (ks.take (j + 1)) = ctorsB L (ks.take j) + if (nd L (ks.getD j 0)).k = 46 then 1 else 0 := by
  have e : ks.getD j 0 = ks[j] := by simp [List.getD, h]
  unfold ctorsB
  rw [List.take_succ_eq_append_getElem h, List.filter_append, List.length_append, e]
  by_cases h2 : (nd L ks[j]).k = 46
  · have h3 : ((nd L ks[j]).k == 46) = true := by simpa using h2
    simp [List.filter_cons, h3, h2]
  · have h3 : ((nd L ks[j]).k == 46) = false := by simpa using h2
    simp [List.filter_cons, h3, h2]
theorem ctors_le (L : List Nd) (ks : List Int) : ctorsB L ks ≤ ks.length := List.length_filter_le _ _
set_option maxRecDepth 100000 in
set_option maxHeartbeats 4000000 in
theorem isMembers_any (A : Option Addr) (L : List Nd) (c i : Nat) (w : World) (h : TreeAt w w.heap.size A L) (hc : L.length ≤ c) (hm : c ≤ maxLen) (hi : i < L.length) : Calls Tryd.prog 48 #[.agg #[.slice A L.length c], .int .i64 (i : Int)] w fun e w' => e = .returned (.bool (memP L i)) ∧ Below w.heap.size w w' := by
  have hT := Lib.hid h
  have hm2 := Lib.hid hm
  obtain ⟨ad, rfl, hn⟩ := h i hi
  have hb2 := hn.blk
  have hb1 : ad.block < w.heap.size := (by rw [block_add] at hb2; exact hb2)
  obtain ⟨K, kc, c0, c1, c2, c3, c4, hK, hkk, hkm⟩ := node_open hn
  unfold maxLen at hm hkm
  have H := Lib.hid (show memP L i = (rowsP (ofP [44, 45, 46]) L i && decide (ctorsB L (nd L i).ks < 2)) from rfl)
  have HR := Lib.hid (fun e : rowsP (ofP [44, 45, 46]) L i = true => (show (nd L i).ks.all (inL L) = true by
    unfold rowsP at e
    rw [Bool.and_eq_true] at e
    exact List.all_eq_true.2 fun j hj => by
      have := List.all_eq_true.1 e.2 j hj
      rw [Bool.and_eq_true] at this
      exact this.1))
  clear h hn
  rw [H.out]
  clear H
  generalize (nd L i).ks = ks at *
  have HE2 := Lib.hid (fun j hj => ctors_next (L := L) (ks := ks) (j := j) hj)
  have HE3 := Lib.hid (fun j => ctors_le L (ks.take j))
  have hK2 := Lib.hid hK
  clear hK c0 c1 c2 c4
  go_enter Tryd.func48, Tryd.ntmps48
  go_upto_region 1 with fail
  obtain ⟨wo, hwo⟩ : ∃ wo : World, wo = (w.alloc (.cells #[.slice (some ad) L.length c] 24)) := ⟨_, rfl⟩
  have x0 : wo.cell? ⟨w.heap.size, 0, none⟩ = some (.slice (some ad) L.length c) := by rw [hwo]; simp [World.cell?_alloc_mark]
  have z0 : w.heap.size < wo.heap.size := by rw [hwo]; simp
  have bx : Below w.heap.size w wo := by rw [hwo]; (exact bl)
  rw [← hwo]
  clear hwo
  have ne := World.new_ne wo _ x0
  have HO := Lib.hid (of_lit wo [44, 45, 46] 3 3 #[.int .i64 44, .int .i64 45, .int .i64 46] 3 rfl (by decide) rfl)
  have hb3 : Below w.heap.size w (wo.alloc (.cells #[.int .i64 44, .int .i64 45, .int .i64 46] 3)).drew := (by (exact bl))
  go_region_held3 (fun w' => w'.cell? ⟨w.heap.size, 0, none⟩ = some (.slice (some ad) L.length c)) (go_keep) (first
    | (go_at_call 38; (with_reducible refine HO.out.mono ?_); rintro e w0 ⟨⟨v0, rfl, F, caps, rfl, hF, hP0⟩, b0⟩; have hV := Lib.hid (show Place Tryd.prog w0 (.func (.func F) #[] caps) (ofP [44, 45, 46]) from ⟨F, caps, rfl, hF, hP0⟩); clear hP0 hF; have x9 : w0.cell? ⟨w.heap.size, 0, none⟩ = some (.slice (some ad) L.length c) := (b0.cell (p := ⟨w.heap.size, 0, none⟩) (by simp; omega)).trans (by go_keep); have bw0 := hb3.trans (b0.mono (B' := w.heap.size) (by simp; omega)))
    | (go_at_call 39; (with_reducible refine (rows_any (ofP [44, 45, 46]) _ _ hV.out).mono ?_); rintro e w1 ⟨⟨v1, rfl, F1, caps1, rfl, hF1, hP1⟩, b1⟩; have hP := Lib.hid hP1; clear hP1; have bw1 := bw0.trans (b1.mono (B' := w.heap.size) bw0.size); have x1 : w1.cell? ⟨w.heap.size, 0, none⟩ = some (.slice (some ad) L.length c) := (b1.cell (p := ⟨w.heap.size, 0, none⟩) (World.block_lt_of_cell? w0 _ x9)).trans x9)
    | ((with_reducible refine (hP.out w1 _ L c i (Below.refl _ _) (hT.out.later bw1) hc hm2.out hi).mono ?_); rintro e w2 ⟨rfl, b2⟩; have bw2 := bw1.trans (b2.mono (B' := w.heap.size) bw1.size); have x2 : w2.cell? ⟨w.heap.size, 0, none⟩ = some (.slice (some ad) L.length c) := (b2.cell (p := ⟨w.heap.size, 0, none⟩) (World.block_lt_of_cell? w1 _ x1)).trans x1) | fail)
  clear HO hb3 bx x0 z0 ne hV
  have z2 := World.block_lt_of_cell? w2 _ x2
  simp only at z2
  cases hR : rowsP (ofP [44, 45, 46]) L i
  · go_wp2
    go_ret
    exact ⟨ret_bool (by rw [hR]; rfl), bw2⟩
  · have hall := Lib.hid (List.all_eq_true.1 (HR.out hR))
    clear HR
    have q3 := (bw2.cell (p := ⟨(ad.add (i * 5)).block, (ad.add (i * 5)).off + 3, none⟩) hb2).trans c3
    have hT3 := Lib.hid (hT.out.below bw2)
    have hK3 := Lib.hid (hK2.out.below bw2)
    clear hT hK2 hP
    obtain ⟨n, hn⟩ : ∃ n, n = ks.length := ⟨_, rfl⟩
    rw [← hn] at q3 hkk hK3
    have HN := Lib.hid hn
    clear hn c3
    go_wp2
    go_loop [5, 22] (fun ct t => ∃ j : Nat, j ≤ n ∧ t = .int .i64 (j : Int) ∧ ct = .int .i64 (ctorsB L (ks.take j))) (fun _ t => n - (intOf t).toNat)
    case atStart => exact ⟨0, Nat.zero_le _, rfl, rfl⟩
    case round =>
      obtain ⟨j, hj, rfl, rfl⟩ := hrel
      have hcl := HE3.out j
      have hjl : (ks.take j).length ≤ j := List.length_take_le _ _
      by_cases hlt : j < n
      · obtain ⟨ka, hKa, hkb, kcell⟩ := hK3.out j hlt
        subst hKa
        replace kcell : w2.cell? (ka.add j) = some (.int .i64 (ks.getD j 0)) := kcell
        have hx : inL L (ks.getD j 0) = true := hall.out _ (by
          have h2 : j < ks.length := by rw [← HN.out]; exact hlt
          have e : ks.getD j 0 = ks[j] := by simp [List.getD, h2]
          rw [e]; exact List.getElem_mem _)
        have HS := Lib.hid (HE2.out j (by rw [← HN.out]; exact hlt))
        obtain ⟨xn, hxe, hxn⟩ := inL_nat hx
        have d0 := (hT3.out.at_ hxn).c0
        have HX := Lib.hid (show (nd L (ks.getD j 0)).k = (nd L xn).k by rw [hxe])
        rw [HX.out] at HS
        rw [hxe] at kcell
        clear hxe hx HX
        generalize (nd L xn).k = kk at *
        generalize hct : ctorsB L (ks.take j) = ct at *
        clear hct
        go_wp2
        all_goals go_round
        all_goals first
          | (case rel => exact ⟨j + 1, by omega, by go_num, by rw [HS.out]; first | (rw [if_pos (by (try simp only [beq_iff_eq, beq_eq_false_iff_ne, bne_iff_ne, bne_eq_false_iff_eq, ne_eq, decide_eq_true_eq, decide_eq_false_iff_not, Bool.and_eq_true, Bool.or_eq_true, Bool.not_eq_true, Bool.not_eq_false, Bool.false_eq_true, Decidable.not_not, Bool.not_eq_eq_eq_not, Bool.not_true, Bool.not_false] at *); assumption)]; go_num) | (rw [if_neg (by (try simp only [beq_iff_eq, beq_eq_false_iff_ne, bne_iff_ne, bne_eq_false_iff_eq, ne_eq, decide_eq_true_eq, decide_eq_false_iff_not, Bool.and_eq_true, Bool.or_eq_true, Bool.not_eq_true, Bool.not_eq_false, Bool.false_eq_true, Decidable.not_not, Bool.not_eq_eq_eq_not, Bool.not_true, Bool.not_false] at *); assumption)]; go_num)⟩)
          | (case measure => simp [intOf]; omega)
      · obtain rfl : j = n := by omega
        go_wp2
        go_ret
        refine ⟨ret_bool ?_, bw2⟩
        rw [HN.out, List.take_length, decide_eq_decide]
        omega
theorem within_is2 (b : Bool) (A : Option Addr) (L : List Nd) (N c : Nat) (i : Int) (w : World) (hN : N = L.length) (hn : N ≤ c) (hm : c ≤ maxLen) (hb : inL L i = b) :
    Calls Tryd.prog 26 #[.agg #[.slice A N c], .int .i64 i] w fun e w' => e = .returned (.bool b) ∧ Below w.heap.size w w' := by
  subst hN
  exact within_is b A L c i w hn hm hb
theorem pathIn_no {L : List Nd} {f : Nat} {i : Int} (h : (nd L i).k ≠ 29) : pathIn L (f + 1) i = ((nd L i).k == 17) := by rw [pathIn, if_neg h]
theorem pathIn_bad {L : List Nd} {f : Nat} {i : Int} (h : (nd L i).k = 29) (h1 : (nd L i).ks.length ≠ 1) : pathIn L (f + 1) i = false := by
  rw [pathIn, if_pos h]
  match (nd L i).ks, h1 with
  | [], _ => rfl
  | [a], h => exact absurd rfl h
  | _ :: _ :: _, _ => rfl
theorem pathIn_go {L : List Nd} {f : Nat} {i : Int} (h : (nd L i).k = 29) (h1 : (nd L i).ks.length = 1) : pathIn L (f + 1) i = (inL L ((nd L i).ks.getD 0 0) && pathIn L f ((nd L i).ks.getD 0 0)) := by
  rw [pathIn, if_pos h]
  match (nd L i).ks, h1 with
  | [a], _ => rfl
set_option maxRecDepth 100000 in
set_option maxHeartbeats 4000000 in
theorem isPath_any (A : Option Addr) (L : List Nd) (c i : Nat) (w : World) (h : TreeAt w w.heap.size A L) (hc : L.length ≤ c) (hm : c ≤ maxLen) (hi : i < L.length) : Calls Tryd.prog 47 #[.agg #[.slice A L.length c], .int .i64 (i : Int)] w fun e w' => e = .returned (.bool (pathP L i)) ∧ Below w.heap.size w w' := by
  have hT := Lib.hid h
  have hm2 := Lib.hid hm
  obtain ⟨ad, rfl, hn⟩ := h i hi
  have hb2 := hn.blk
  have hb1 : ad.block < w.heap.size := (by rw [block_add] at hb2; exact hb2)
  unfold maxLen at hm
  obtain ⟨R, hR⟩ : ∃ R, R = pathP L i := ⟨_, rfl⟩
  rw [← hR]
  have HR := Lib.hid (show pathIn L (L.length - 0) i = R by rw [hR]; rfl)
  obtain ⟨N, hN⟩ : ∃ N, N = L.length := ⟨_, rfl⟩
  rw [← hN] at hc hi HR ⊢
  have HN := Lib.hid hN
  clear h hn hR hN hb2
  have bx : Below w.heap.size w (w.alloc (.cells #[.slice (some ad) N c] 24)) := (by (exact bl))
  go_enter Tryd.func47, Tryd.ntmps47
  go_wp2
  go_loopw [1, 9] (fun cu t wr => ∃ j i : Nat, j ≤ N ∧ t = .int .i64 (j : Int) ∧ cu = .int .i64 (i : Int) ∧ i < N ∧ Hid (pathIn L (N - j) i = R) ∧ Below w.heap.size w wr ∧ w.heap.size < wr.heap.size ∧ wr.cell? ⟨w.heap.size, 0, none⟩ = some (.slice (some ad) N c)) (fun _ t _ => N - (intOf t).toNat)
  case atStart => exact ⟨0, i, Nat.zero_le _, rfl, rfl, hi, HR, bx, by simp, by simp [World.cell?_alloc_mark]⟩
  case round =>
    clear bx HR hi
    clear i
    obtain ⟨j, i, hj, rfl, rfl, hi, HR, hb, hz, hbox⟩ := hrel
    by_cases hlt : j < N
    · have hn := hT.out.at_ (j := i) (by rw [← HN.out]; exact hi)
      have hb2 := hn.blk
      obtain ⟨K, kc, c0, c1, c2, c3, c4, hK, hkk, hkm⟩ := node_open (hn.keep fun p hp => hb.cell hp)
      unfold maxLen at hkm
      rw [show N - j = (N - (j + 1)) + 1 by omega] at HR
      have HA := Lib.hid (fun e => (pathIn_no (L := L) (f := N - (j + 1)) (i := (i : Int)) e).symm.trans HR.out)
      have HB := Lib.hid (fun e e1 => (pathIn_bad (L := L) (f := N - (j + 1)) (i := (i : Int)) e e1).symm.trans HR.out)
      have HC := Lib.hid (fun e e1 => (pathIn_go (L := L) (f := N - (j + 1)) (i := (i : Int)) e e1).symm.trans HR.out)
      clear hn HR
      have hKK := Lib.hid hK
      clear hK
      generalize nd L i = y at *
      obtain ⟨k, x, m, ks, p⟩ := y
      simp only at c0 c1 c2 c3 c4 hkk HA HB HC hKK
      generalize hbq : ad.add (i * 5) = q at *
      by_cases k29 : k = 29
      · subst k29
        obtain ⟨n, hn⟩ : ∃ n, n = ks.length := ⟨_, rfl⟩
        rw [← hn] at c3 hkk HB HC hKK
        clear hn
        by_cases n1 : n = 1
        · subst n1
          obtain ⟨ka, hKa, hkb, kcell⟩ := hKK.out 0 (by decide)
          subst hKa
          replace kcell : wr.cell? ka = some (.int .i64 (ks.getD 0 0)) := by rw [add_zero] at kcell; exact kcell
          have HC2 := Lib.hid (HC.out rfl rfl)
          generalize ks.getD 0 0 = x0 at *
          have ckb : ka.block < wr.heap.size := by have h9 := World.block_lt_of_cell? wr ka kcell; exact h9
          clear HA HB HC hKK
          subst hbq
          go_wp2
          obtain ⟨wx, hwx⟩ : ∃ wx : World, wx = wr.alloc (.cells #[.int .i64 29, .string x, .int .i64 m, .slice (some ka) 1 kc, .int .i64 p] 35) := ⟨_, rfl⟩
          have e0 : wx.cell? ⟨w.heap.size, 0, none⟩ = some (.slice (some ad) N c) := by rw [hwx, World.cell?_alloc_lt wr _ ⟨w.heap.size, 0, none⟩ hz]; exact hbox
          have e3 : wx.cell? ⟨wr.heap.size, 3, none⟩ = some (.slice (some ka) 1 kc) := by rw [hwx]; simp [World.cell?_alloc_mark]
          have ek : wx.cell? ka = some (.int .i64 x0) := by rw [hwx, World.cell?_alloc_lt wr _ ka ckb]; exact kcell
          have ezx : wx.heap.size = wr.heap.size + 1 := by rw [hwx]; simp
          have bwx : Below w.heap.size w wx := by rw [hwx]; (exact bl)
          have EZ := Lib.hid ezx
          have ez2 : wr.heap.size < wx.heap.size := by omega
          rw [← hwx]
          clear hwx ezx
          cases hx : inL L x0
          · go_region_held3 (fun w' => w'.cell? ⟨w.heap.size, 0, none⟩ = some (.slice (some ad) N c) ∧ w'.cell? ⟨wr.heap.size, 3, none⟩ = some (.slice (some ka) 1 kc) ∧ w'.cell? ka = some (.int .i64 x0)) (go_keep) (first
              | (go_at_call 26; (with_reducible refine (within_is2 false (some ad) L N c _ _ HN.out hc hm2.out hx).mono ?_); rintro e w1 ⟨rfl, b1⟩; have f0 := (b1.cell (p := ⟨w.heap.size, 0, none⟩) (World.block_lt_of_cell? wx _ e0)).trans e0; have f3 := (b1.cell (p := ⟨wr.heap.size, 3, none⟩) (World.block_lt_of_cell? wx _ e3)).trans e3; have fk := (b1.cell (p := ka) (World.block_lt_of_cell? wx _ ek)).trans ek)
              | fail)
            go_wp2
            go_ret
            refine ⟨ret_bool ?_, bwx.drew.trans (b1.mono bwx.size)⟩
            rw [← HC2.out, hx]; rfl
          · have HC3 := Lib.hid (by have := HC2.out; rwa [hx, Bool.true_and] at this)
            obtain ⟨xn, rfl, hxn⟩ := inL_nat hx
            go_region_held3 (fun w' => w'.cell? ⟨w.heap.size, 0, none⟩ = some (.slice (some ad) N c) ∧ w'.cell? ⟨wr.heap.size, 3, none⟩ = some (.slice (some ka) 1 kc) ∧ w'.cell? ka = some (.int .i64 xn)) (go_keep) (first
              | (go_at_call 26; (with_reducible refine (within_is2 true (some ad) L N c _ _ HN.out hc hm2.out hx).mono ?_); rintro e w1 ⟨rfl, b1⟩; have f0 := (b1.cell (p := ⟨w.heap.size, 0, none⟩) (World.block_lt_of_cell? wx _ e0)).trans e0; have f3 := (b1.cell (p := ⟨wr.heap.size, 3, none⟩) (World.block_lt_of_cell? wx _ e3)).trans e3; have fk := (b1.cell (p := ka) (World.block_lt_of_cell? wx _ ek)).trans ek)
              | fail)
            go_wp2
            go_roundw
            case rel => exact ⟨j + 1, xn, by omega, by go_num, rfl, by rw [HN.out]; exact hxn, HC3, bwx.drew.trans (b1.mono bwx.size), World.block_lt_of_cell? w1 _ f0, f0⟩
            case measure => simp [intOf]; omega
        · have n1' : ((n : Int) != 1) = true := by simp; omega
          have hbad := HB.out rfl n1
          subst hbad
          go_wp2
          go_quiet (fail)
          go_wp2
          go_ret
          exact ⟨rfl, (by (exact bl))⟩
      · have k29' : (k != 29) = true := by simpa using k29
        have hres := HA.out k29
        subst hres
        subst hbq
        go_wp2
        go_ret
        exact ⟨rfl, (by (exact bl))⟩
    · obtain rfl : j = N := by omega
      have hres : R = false := by rw [← HR.out, Nat.sub_self]; rfl
      subst hres
      go_wp2
      go_ret
      exact ⟨rfl, hb⟩
end Go.Proofs.YtpkdhciokiomlaaDoor
