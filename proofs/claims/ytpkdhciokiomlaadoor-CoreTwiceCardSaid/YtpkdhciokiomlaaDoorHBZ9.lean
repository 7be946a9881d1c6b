/- Some texts of this claim, put together. -/
import Derived.Test.YtpkdhciokiomlaaDoorHK6
import Derived.Test.YtpkdhciokiomlaaDoorHBZ11
namespace Go.Proofs.YtpkdhciokiomlaaDoor
section
set_option linter.unusedVariables false
set_option linter.unusedSimpArgs false
set_option linter.unnecessarySimpa false
open Go.RowKit
attribute [local go_sem] cell_alloc_add cell_set_add lt_more
theorem kindOf_any (A : Option Addr) (L : List Nd) (c : Nat) (hc : L.length ≤ c) (hm : c ≤ maxLen) (g g' : Nat) (K : Option Addr) (ks : List Int) (n kc : Nat) (hn : ks.length = n) (hkc : n ≤ kc) (hkm : kc ≤ maxLen) (w : World) (h : TreeAt w w.heap.size A L)
    (hg : w.cell? ⟨g, 0, none⟩ = some (.slice A L.length c)) (hg' : w.cell? ⟨g', 3, none⟩ = some (.slice K n kc)) (hK : Rd w w.heap.size K n (ksV ks)) (q : Nat) (z : Int) (hz : (q : Int) = z) (hq : q < n) (hin : inL L (ks.getD q 0) = true) :
    Calls Tryd.prog 27 #[.int .i64 z, .pointer (some ⟨g, 0, none⟩), .pointer (some ⟨g', 0, none⟩)] w fun e w' => e = .returned (.int .i64 (nd L (ks.getD q 0)).k) ∧ Below w.heap.size w w' := by
  subst hz
  obtain ⟨kd, hKd, hkb, kcell⟩ := hK q hq
  subst hKd
  replace kcell : w.cell? (kd.add q) = some (.int .i64 (ks.getD q 0)) := kcell
  obtain ⟨xn, hxe, hxn⟩ := inL_nat hin
  rw [hxe] at kcell ⊢
  obtain ⟨ad, hA, hnn⟩ := h xn hxn
  subst hA
  have d0 := hnn.c0
  clear hnn h hxe hin hK
  generalize (nd L xn).k = kk at *
  unfold maxLen at hm hkm
  have hqi : (q : Int) < (n : Int) := by omega
  have hxi : (xn : Int) < (L.length : Int) := by omega
  go_enter Tryd.func27, Tryd.ntmps27
  go_wp2
  go_quiet (fail)
  go_wp2
  go_ret
  exact ⟨rfl, (by (exact bl))⟩
theorem notType_any (A : Option Addr) (L : List Nd) (c : Nat) (hc : L.length ≤ c) (hm : c ≤ maxLen) (g : Nat) (w : World) (h : TreeAt w w.heap.size A L) (hg : w.cell? ⟨g, 0, none⟩ = some (.slice A L.length c)) (u : Int) (hin : inL L u = true) :
    Calls Tryd.prog 30 #[.int .i64 u, .pointer (some ⟨g, 0, none⟩)] w fun e w' => e = .returned (.bool (!typeK (nd L u).k)) ∧ Below w.heap.size w w' := by
  obtain ⟨xn, rfl, hxn⟩ := inL_nat hin
  have HT := Lib.hid (isType_any A L c xn w h hc hm hxn)
  have HE := Lib.hid (show typeP L (xn : Int) = typeK (nd L xn).k from rfl)
  clear h
  generalize typeK (nd L xn).k = bt at *
  go_enter Tryd.func30, Tryd.ntmps30
  go_wp2_with (first
    | (go_at_call 31; (with_reducible refine HT.out.mono ?_); rintro e w1 ⟨rfl, b1⟩)
    | fail)
  go_ret
  exact ⟨ret_bool (by rw [HE.out]), b1⟩
set_option maxRecDepth 100000 in
set_option maxHeartbeats 4000000 in
theorem indexNot_any (A : Option Addr) (L : List Nd) (c : Nat) (hc : L.length ≤ c) (hm : c ≤ maxLen) (g : Nat) (K : Option Addr) (ks : List Int) (n kc : Nat) (hn : ks.length = n) (hkc : n ≤ kc) (hkm : kc ≤ maxLen) (w : World) (h : TreeAt w w.heap.size A L)
    (hg : w.cell? ⟨g, 0, none⟩ = some (.slice A L.length c)) (hgl : g < w.heap.size) (hK : Rd w w.heap.size K n (ksV ks)) (hin : ∀ k ∈ ks, inL L k = true) :
    Calls Tryd.prog 37 #[.slice K n kc, .func (.func 30) #[] #[.pointer (some ⟨g, 0, none⟩)]] w fun e w' => (∃ r : Int, e = .returned (.int .i64 r) ∧ decide (0 ≤ r) = !(ks.all fun j => typeK (nd L j).k)) ∧ Below w.heap.size w w' := by
  have HN := Lib.hid hn
  have HT := Lib.hid h
  have HI := Lib.hid hin
  have hm2 := Lib.hid hm
  unfold maxLen at hm hkm
  obtain ⟨R, hR⟩ : ∃ R, R = ks.all (fun j => typeK (nd L j).k) := ⟨_, rfl⟩
  rw [← hR]
  have HR := Lib.hid hR
  clear hR h hin hn
  go_enter Tryd.func37, Tryd.ntmps37
  go_wp2
  go_loopw [8] (fun t wr => ∃ q : Nat, q ≤ n ∧ t = .int .i64 (q : Int) ∧ Hid ((ks.take q).all (fun j => typeK (nd L j).k) = true) ∧ Below w.heap.size w wr) (fun t _ => n - (intOf t).toNat)
  case atStart => exact ⟨0, Nat.zero_le _, rfl, Lib.hid rfl, Below.refl _ _⟩
  case round =>
    obtain ⟨q, hq, rfl, HTk, hb⟩ := hrel
    by_cases hlt : q < n
    · obtain ⟨kd, hKd, hkb, kcell0⟩ := hK q hlt
      subst hKd
      have kcell : wr.cell? (kd.add q) = some (.int .i64 (ks.getD q 0)) := (hb.cell (by rw [block_add]; exact hkb)).trans kcell0
      have hq2 : q < ks.length := by rw [HN.out]; exact hlt
      have eK : ks.getD q 0 = ks[q] := by simp [List.getD, hq2]
      have hu := HI.out (ks.getD q 0) (by rw [eK]; exact List.getElem_mem _)
      have HY := Lib.hid (fun e => all_take (f := fun j => typeK (nd L j).k) hq2 HTk.out e)
      have HB := Lib.hid (fun e => all_bad (f := fun j => typeK (nd L j).k) hq2 e)
      have HC := Lib.hid (notType_any A L c hc hm2.out g wr (HT.out.later hb) ((hb.cell (p := ⟨g, 0, none⟩) hgl).trans hg) (ks.getD q 0) hu)
      clear eK kcell0 hu
      generalize hty : typeK (nd L (ks.getD q 0)).k = bt at *
      have HTY := Lib.hid hty
      clear hty
      generalize ks.getD q 0 = u at *
      cases bt
      · have hRf : R = false := by rw [HR.out]; exact HB.out (by first | rfl | trivial)
        subst hRf
        go_wp2_with (first
          | (go_at_call 30; (with_reducible refine HC.out.mono ?_); rintro e w1 ⟨rfl, b1⟩)
          | fail)
        go_ret
        exact ⟨⟨_, rfl, by simp⟩, hb.trans (b1.mono hb.size)⟩
      · go_wp2_with (first
          | (go_at_call 30; (with_reducible refine HC.out.mono ?_); rintro e w1 ⟨rfl, b1⟩)
          | fail)
        exact ⟨⟨q + 1, by omega, by go_num, Lib.hid (HY.out (by first | rfl | trivial)), hb.trans (b1.mono hb.size)⟩, by simp [intOf]; omega⟩
    · obtain rfl : q = n := by omega
      have hRt : R = true := by
        have := HTk.out
        rw [← HN.out, List.take_length] at this
        rw [HR.out]; exact this
      subst hRt
      go_wp2
      go_ret
      exact ⟨⟨_, rfl, by simp⟩, hb⟩
end
section
set_option linter.unusedVariables false
set_option linter.unusedSimpArgs false
set_option linter.unnecessarySimpa false
open Go.RowKit
attribute [local go_sem] cell_alloc_add cell_set_add lt_more
set_option maxRecDepth 100000 in
set_option maxHeartbeats 8000000 in
theorem fits_unsaid (A : Option Addr) (L : List Nd) (c i : Nat) (w : World) (h : TreeAt w w.heap.size A L) (hc : L.length ≤ c) (hm : c ≤ maxLen) (hL : L.length ≤ 1000000000000) (hi : i < L.length) (hx : (nd L i).x.size ≤ 4000000) (hmx : Mx w) (hw00 : 0 < w.heap.size) (hs : saidB (nd L i) = false) : Calls Tryd.prog 16 #[.agg #[.slice A L.length c], .int .i64 (i : Int)] w fun e w' => e = .returned (.bool (false)) ∧ Below w.heap.size w w' := by
  unfold saidB at hs
  have hT := Lib.hid h
  have hm2 := Lib.hid hm
  obtain ⟨ad, rfl, hn⟩ := h i hi
  have hb2 := hn.blk
  have hwm := hn.wm
  have hb1 : ad.block < w.heap.size := (by rw [block_add] at hb2; exact hb2)
  obtain ⟨K0, kc0, c0, c1, c2, c3, c4, hK0, hkk, hkm⟩ := node_open hn
  clear h hn
  generalize nd L i = y at *
  obtain ⟨k, x, m, ks, p⟩ := y
  simp only at *
  have HSA := Lib.hid (fun W (hb : Below w.heap.size w W) => said_any k m p x hx hwm K0 ks.length kc0 W (hmx.below hb hw00) (Nat.lt_of_lt_of_le hw00 hb.size))
  have hKK := Lib.hid hK0
  clear hK0 hmx
  have hmN := hm
  have hkmN := hkm
  have HKM := Lib.hid hkm
  unfold maxLen at hm hkm
  generalize hM : ks.length = M at *
  have HM := Lib.hid hM
  clear hM hmN hkmN
  rw [hs] at HSA
  go_enter Tryd.func16, Tryd.ntmps16
  go_upto_region 2 with fail
  obtain ⟨wa, hwa⟩ : ∃ wa : World, wa = ((w.alloc (.cells #[.slice (some ad) L.length c] 24)).alloc (.cells #[.int .i64 k, .string x, .int .i64 m, .slice K0 M kc0, .int .i64 p] 35)) := ⟨_, rfl⟩
  have xa : wa.cell? ⟨w.heap.size, 0, none⟩ = some (.slice (some ad) L.length c) := by rw [hwa]; simp [World.cell?_alloc_mark]
  have qa : Below w.heap.size w wa := by rw [hwa]; (exact bl)
  have za := Below.size qa
  have ka : wa.cell? ⟨w.heap.size + 1, 0, none⟩ = some (.int .i64 k) := by rw [hwa]; simp [World.cell?_alloc_mark]
  have ta : wa.cell? ⟨w.heap.size + 1, 1, none⟩ = some (.string x) := by rw [hwa]; simp [World.cell?_alloc_mark]
  have ma : wa.cell? ⟨w.heap.size + 1, 2, none⟩ = some (.int .i64 m) := by rw [hwa]; simp [World.cell?_alloc_mark]
  have ya : wa.cell? ⟨w.heap.size + 1, 3, none⟩ = some (.slice K0 M kc0) := by rw [hwa]; simp [World.cell?_alloc_mark]
  have pa : wa.cell? ⟨w.heap.size + 1, 4, none⟩ = some (.int .i64 p) := by rw [hwa]; simp [World.cell?_alloc_mark]
  rw [← hwa]
  clear hwa c0 c1 c2 c3 c4
  have lx := World.block_lt_of_cell? wa _ xa
  have ly := World.block_lt_of_cell? wa _ ya
  simp only at lx ly
  have HS1 := Lib.hid (HSA.out wa qa)
  go_wp2_with (first | (go_at_call 25; (with_reducible refine HS1.out.mono ?_); rintro e w1 ⟨rfl, b1⟩; have q1 := qa.trans (b1.mono qa.size); have x1 := (b1.cell (p := ⟨w.heap.size, 0, none⟩) lx).trans xa; have y1 := (b1.cell (p := ⟨w.heap.size + 1, 3, none⟩) ly).trans ya; have k1 := (b1.cell (p := ⟨w.heap.size + 1, 0, none⟩) ly).trans ka) | fail)
  go_ret
  exact ⟨rfl, q1⟩
set_option maxRecDepth 100000 in
set_option maxHeartbeats 8000000 in
theorem fits_stray (A : Option Addr) (L : List Nd) (c i : Nat) (w : World) (h : TreeAt w w.heap.size A L) (hc : L.length ≤ c) (hm : c ≤ maxLen) (hL : L.length ≤ 1000000000000) (hi : i < L.length) (hx : (nd L i).x.size ≤ 4000000) (hmx : Mx w) (hw00 : 0 < w.heap.size) (hs : saidB (nd L i) = true) (hin : (nd L i).ks.all (inL L) = false) : Calls Tryd.prog 16 #[.agg #[.slice A L.length c], .int .i64 (i : Int)] w fun e w' => e = .returned (.bool (false)) ∧ Below w.heap.size w w' := by
  unfold saidB at hs
  have hT := Lib.hid h
  have hm2 := Lib.hid hm
  obtain ⟨ad, rfl, hn⟩ := h i hi
  have hb2 := hn.blk
  have hwm := hn.wm
  have hb1 : ad.block < w.heap.size := (by rw [block_add] at hb2; exact hb2)
  obtain ⟨K0, kc0, c0, c1, c2, c3, c4, hK0, hkk, hkm⟩ := node_open hn
  clear h hn
  generalize nd L i = y at *
  obtain ⟨k, x, m, ks, p⟩ := y
  simp only at *
  have HSA := Lib.hid (fun W (hb : Below w.heap.size w W) => said_any k m p x hx hwm K0 ks.length kc0 W (hmx.below hb hw00) (Nat.lt_of_lt_of_le hw00 hb.size))
  have hKK := Lib.hid hK0
  clear hK0 hmx
  have hmN := hm
  have hkmN := hkm
  have HKM := Lib.hid hkm
  unfold maxLen at hm hkm
  generalize hM : ks.length = M at *
  have HM := Lib.hid hM
  clear hM hmN hkmN
  rw [hs] at HSA
  have HIN := Lib.hid hin
  clear hin
  go_enter Tryd.func16, Tryd.ntmps16
  go_upto_region 2 with fail
  obtain ⟨wa, hwa⟩ : ∃ wa : World, wa = ((w.alloc (.cells #[.slice (some ad) L.length c] 24)).alloc (.cells #[.int .i64 k, .string x, .int .i64 m, .slice K0 M kc0, .int .i64 p] 35)) := ⟨_, rfl⟩
  have xa : wa.cell? ⟨w.heap.size, 0, none⟩ = some (.slice (some ad) L.length c) := by rw [hwa]; simp [World.cell?_alloc_mark]
  have qa : Below w.heap.size w wa := by rw [hwa]; (exact bl)
  have za := Below.size qa
  have ka : wa.cell? ⟨w.heap.size + 1, 0, none⟩ = some (.int .i64 k) := by rw [hwa]; simp [World.cell?_alloc_mark]
  have ta : wa.cell? ⟨w.heap.size + 1, 1, none⟩ = some (.string x) := by rw [hwa]; simp [World.cell?_alloc_mark]
  have ma : wa.cell? ⟨w.heap.size + 1, 2, none⟩ = some (.int .i64 m) := by rw [hwa]; simp [World.cell?_alloc_mark]
  have ya : wa.cell? ⟨w.heap.size + 1, 3, none⟩ = some (.slice K0 M kc0) := by rw [hwa]; simp [World.cell?_alloc_mark]
  have pa : wa.cell? ⟨w.heap.size + 1, 4, none⟩ = some (.int .i64 p) := by rw [hwa]; simp [World.cell?_alloc_mark]
  rw [← hwa]
  clear hwa c0 c1 c2 c3 c4
  have lx := World.block_lt_of_cell? wa _ xa
  have ly := World.block_lt_of_cell? wa _ ya
  simp only at lx ly
  have HS1 := Lib.hid (HSA.out wa qa)
  go_wp2_with (first | (go_at_call 25; (with_reducible refine HS1.out.mono ?_); rintro e w1 ⟨rfl, b1⟩; have q1 := qa.trans (b1.mono qa.size); have x1 := (b1.cell (p := ⟨w.heap.size, 0, none⟩) lx).trans xa; have y1 := (b1.cell (p := ⟨w.heap.size + 1, 3, none⟩) ly).trans ya; have k1 := (b1.cell (p := ⟨w.heap.size + 1, 0, none⟩) ly).trans ka) | fail)
  have l1 := World.block_lt_of_cell? w1 _ x1
  simp only at l1
  have hKw := Lib.hid (hKK.out.below q1)
  go_loopw [28] (fun t wr => ∃ q : Nat, q ≤ M ∧ t = .int .i64 (q : Int) ∧ Hid ((ks.take q).all (inL L) = true) ∧ Below w1.heap.size w1 wr) (fun t _ => M - (intOf t).toNat)
  case atStart => exact ⟨0, Nat.zero_le _, rfl, Lib.hid rfl, Below.refl _ _⟩
  case round =>
    obtain ⟨q, hq, rfl, HT, hb⟩ := hrel
    have bw := q1.trans (hb.mono q1.size)
    have e0 := (hb.cell (p := ⟨w.heap.size, 0, none⟩) l1).trans x1
    by_cases hlt : q < M
    · obtain ⟨kd, hKd, hkb, kcell0⟩ := hKw.out q hlt
      subst hKd
      have kcell : wr.cell? (kd.add q) = some (.int .i64 (ks.getD q 0)) := (hb.cell (World.block_lt_of_cell? w1 _ kcell0)).trans kcell0
      have HY := Lib.hid (fun e => all_take (f := inL L) (by rw [HM.out]; exact hlt) HT.out e)
      clear kcell0
      generalize ks.getD q 0 = u at *
      rcases Bool.eq_false_or_eq_true (inL L u) with hu | hu
      · go_wp2_with (first
          | (go_at_call 26; (with_reducible refine (within_is true (some ad) L c _ _ hc hm2.out hu).mono ?_); rintro e w2 ⟨rfl, b2⟩)
          | fail)
        exact ⟨⟨q + 1, by omega, by go_num, Lib.hid (HY.out hu), hb.trans (b2.mono hb.size)⟩, by simp [intOf]; omega⟩
      · go_wp2_with (first
          | (go_at_call 26; (with_reducible refine (within_is false (some ad) L c _ _ hc hm2.out hu).mono ?_); rintro e w2 ⟨rfl, b2⟩)
          | fail)
        go_ret
        exact ⟨rfl, bw.trans (b2.mono bw.size)⟩
    · obtain rfl : q = M := by omega
      exfalso
      have := HT.out
      rw [← HM.out, List.take_length, HIN.out] at this
      cases this
set_option maxRecDepth 100000 in
set_option maxHeartbeats 4000000 in
theorem hasNot_any (A : Option Addr) (L : List Nd) (c : Nat) (hc : L.length ≤ c) (hm : c ≤ maxLen) (g : Nat) (K : Option Addr) (ks : List Int) (n kc : Nat) (hn : ks.length = n) (hkc : n ≤ kc) (hkm : kc ≤ maxLen) (w : World) (h : TreeAt w w.heap.size A L)
    (hg : w.cell? ⟨g, 0, none⟩ = some (.slice A L.length c)) (hgl : g < w.heap.size) (hK : Rd w w.heap.size K n (ksV ks)) (hin : ∀ k ∈ ks, inL L k = true) :
    Calls Tryd.prog 29 #[.slice K n kc, .func (.func 30) #[] #[.pointer (some ⟨g, 0, none⟩)]] w fun e w' => e = .returned (.bool (!(ks.all fun j => typeK (nd L j).k))) ∧ Below w.heap.size w w' := by
  have H := Lib.hid (indexNot_any A L c hc hm g K ks n kc hn hkc hkm w h hg hgl hK hin)
  clear h hin hK
  generalize (ks.all fun j => typeK (nd L j).k) = R at *
  go_enter Tryd.func29, Tryd.ntmps29
  go_wp2_with (first
    | (go_at_call 37; (with_reducible refine H.out.mono ?_); rintro e w1 ⟨⟨r, rfl, hr⟩, b1⟩)
    | fail)
  go_ret
  exact ⟨rfl, b1⟩
set_option maxRecDepth 100000 in
set_option maxHeartbeats 8000000 in
theorem fits_union (A : Option Addr) (L : List Nd) (c i : Nat) (w : World) (h : TreeAt w w.heap.size A L) (hc : L.length ≤ c) (hm : c ≤ maxLen) (hL : L.length ≤ 1000000000000) (hi : i < L.length) (hx : (nd L i).x.size ≤ 4000000) (hmx : Mx w) (hw00 : 0 < w.heap.size) (hs : saidB (nd L i) = true) (hin : (nd L i).ks.all (inL L) = true) (hk : (nd L i).k = 87) : Calls Tryd.prog 16 #[.agg #[.slice A L.length c], .int .i64 (i : Int)] w fun e w' => e = .returned (.bool ((decide (1 < (nd L i).ks.length) && (nd L i).ks.all (fun j => typeK (nd L j).k)))) ∧ Below w.heap.size w w' := by
  unfold saidB at hs
  have hT := Lib.hid h
  have hm2 := Lib.hid hm
  obtain ⟨ad, rfl, hn⟩ := h i hi
  have hb2 := hn.blk
  have hwm := hn.wm
  have hb1 : ad.block < w.heap.size := (by rw [block_add] at hb2; exact hb2)
  obtain ⟨K0, kc0, c0, c1, c2, c3, c4, hK0, hkk, hkm⟩ := node_open hn
  clear h hn
  generalize nd L i = y at *
  obtain ⟨k, x, m, ks, p⟩ := y
  simp only at *
  have HSA := Lib.hid (fun W (hb : Below w.heap.size w W) => said_any k m p x hx hwm K0 ks.length kc0 W (hmx.below hb hw00) (Nat.lt_of_lt_of_le hw00 hb.size))
  have hKK := Lib.hid hK0
  clear hK0 hmx
  have hmN := hm
  have hkmN := hkm
  have HKM := Lib.hid hkm
  unfold maxLen at hm hkm
  generalize hM : ks.length = M at *
  have HM := Lib.hid hM
  clear hM hmN hkmN
  subst hk
  rw [hs] at HSA
  have HIN := Lib.hid (List.all_eq_true.1 hin)
  clear hin
  obtain ⟨R, hR⟩ : ∃ R, R = ks.all (fun j => typeK (nd L j).k) := ⟨_, rfl⟩
  rw [← hR]
  have HR := Lib.hid hR
  clear hR
  go_enter Tryd.func16, Tryd.ntmps16
  go_upto_region 2 with fail
  obtain ⟨wa, hwa⟩ : ∃ wa : World, wa = ((w.alloc (.cells #[.slice (some ad) L.length c] 24)).alloc (.cells #[.int .i64 87, .string x, .int .i64 m, .slice K0 M kc0, .int .i64 p] 35)) := ⟨_, rfl⟩
  have xa : wa.cell? ⟨w.heap.size, 0, none⟩ = some (.slice (some ad) L.length c) := by rw [hwa]; simp [World.cell?_alloc_mark]
  have qa : Below w.heap.size w wa := by rw [hwa]; (exact bl)
  have za := Below.size qa
  have ka : wa.cell? ⟨w.heap.size + 1, 0, none⟩ = some (.int .i64 87) := by rw [hwa]; simp [World.cell?_alloc_mark]
  have ta : wa.cell? ⟨w.heap.size + 1, 1, none⟩ = some (.string x) := by rw [hwa]; simp [World.cell?_alloc_mark]
  have ma : wa.cell? ⟨w.heap.size + 1, 2, none⟩ = some (.int .i64 m) := by rw [hwa]; simp [World.cell?_alloc_mark]
  have ya : wa.cell? ⟨w.heap.size + 1, 3, none⟩ = some (.slice K0 M kc0) := by rw [hwa]; simp [World.cell?_alloc_mark]
  have pa : wa.cell? ⟨w.heap.size + 1, 4, none⟩ = some (.int .i64 p) := by rw [hwa]; simp [World.cell?_alloc_mark]
  rw [← hwa]
  clear hwa c0 c1 c2 c3 c4
  have lx := World.block_lt_of_cell? wa _ xa
  have ly := World.block_lt_of_cell? wa _ ya
  simp only at lx ly
  have HS1 := Lib.hid (HSA.out wa qa)
  go_wp2_with (first | (go_at_call 25; (with_reducible refine HS1.out.mono ?_); rintro e w1 ⟨rfl, b1⟩; have q1 := qa.trans (b1.mono qa.size); have x1 := (b1.cell (p := ⟨w.heap.size, 0, none⟩) lx).trans xa; have y1 := (b1.cell (p := ⟨w.heap.size + 1, 3, none⟩) ly).trans ya; have k1 := (b1.cell (p := ⟨w.heap.size + 1, 0, none⟩) ly).trans ka) | fail)
  have l1 := World.block_lt_of_cell? w1 _ x1
  have l1y := World.block_lt_of_cell? w1 _ y1
  simp only at l1 l1y
  have hKw := Lib.hid (hKK.out.below q1)
  have z1 := Below.size q1
  go_loopw [28] (fun t wr => ∃ q : Nat, q ≤ M ∧ t = .int .i64 (q : Int) ∧ Below w1.heap.size w1 wr) (fun t _ => M - (intOf t).toNat)
  case atStart => exact ⟨0, Nat.zero_le _, rfl, Below.refl _ _⟩
  case round =>
    obtain ⟨q, hq, rfl, hb⟩ := hrel
    have bw := q1.trans (hb.mono q1.size)
    have e0 := (hb.cell (p := ⟨w.heap.size, 0, none⟩) l1).trans x1
    have e3 := (hb.cell (p := ⟨w.heap.size + 1, 3, none⟩) l1y).trans y1
    have ek := (hb.cell (p := ⟨w.heap.size + 1, 0, none⟩) l1y).trans k1
    by_cases hlt : q < M
    · obtain ⟨kd, hKd, hkb, kcell0⟩ := hKw.out q hlt
      subst hKd
      have kcell : wr.cell? (kd.add q) = some (.int .i64 (ks.getD q 0)) := (hb.cell (World.block_lt_of_cell? w1 _ kcell0)).trans kcell0
      have hq2 : q < ks.length := by rw [HM.out]; exact hlt
      have hu : inL L (ks.getD q 0) = true := HIN.out _ (by rw [show ks.getD q 0 = ks[q] by simp [List.getD, hq2]]; exact List.getElem_mem _)
      clear kcell0
      generalize ks.getD q 0 = u at *
      go_wp2_with (first
        | (go_at_call 26; (with_reducible refine (within_is true (some ad) L c _ _ hc hm2.out hu).mono ?_); rintro e w2 ⟨rfl, b2⟩)
        | fail)
      exact ⟨⟨q + 1, by omega, by go_num, hb.trans (b2.mono hb.size)⟩, by simp [intOf]; omega⟩
    · obtain rfl : q = M := by omega
      have HX := Lib.hid (fun W (hb : Below w.heap.size w W) (hgW : W.cell? ⟨w.heap.size, 0, none⟩ = some (.slice (some ad) L.length c)) => hasNot_any (some ad) L c hc hm2.out w.heap.size K0 ks q kc0 HM.out hkk HKM.out W (hT.out.later hb) hgW (World.block_lt_of_cell? W _ hgW) ((hKK.out.below hb).more hb.size) HIN.out)
      rw [← HR.out] at HX
      by_cases h1 : 1 < q
      · go_wp2_with (first
          | (go_at_call 29; (with_reducible refine (HX.out wr bw e0).mono ?_); rintro e w3 ⟨rfl, b3⟩)
          | fail)
        go_ret
        exact ⟨ret_bool (by simp [h1]), bw.trans (b3.mono bw.size)⟩
      · go_wp2
        go_ret
        exact ⟨ret_bool (by simp [h1]), bw⟩
end
end Go.Proofs.YtpkdhciokiomlaaDoor
