/- The walk of chapter 5's law CoreStrips. -/
import Derived.Test.YtpkdhciokiomlaaGreatDoorHBZ21
import Derived.Test.YtpkdhciokiomlaaGreatDoorHBZ23
import Derived.Test.YtpkdhciokiomlaaGreatDoorHLt
import Derived.Test.YtpkdhciokiomlaaGreatDoorHSplW
import Derived.Test.YtpkdhciokiomlaaGreatDoorHBZ25
import Derived.Test.YtpkdhciokiomlaaGreatDoorHBZ26
import Derived.Test.YtpkdhciokiomlaaGreatDoorHBZ6
namespace Go.Proofs.YtpkdhciokiomlaaGreatDoor
set_option linter.unusedVariables false
set_option linter.unusedSimpArgs false
set_option linter.unnecessarySimpa false
open Go.RowKit
attribute [local go_sem] cell_alloc_add cell_set_add lt_more
theorem strip_small {L : List Nd} {B : Nat} (hB : ∀ j : Int, (nd L j).ks.length ≤ B) : (stripT L).1.length ≤ L.length ∧ ((stripT L).2 = 0 ∨ (stripT L).2 = 7) ∧ ∀ z ∈ (stripT L).1, z.ks.length ≤ B := by
  unfold stripT
  split
  · next h =>
    have hs := good_iff.1 h.1
    refine ⟨?_, .inl rfl, strip_ks hB _ _⟩
    have := (strip_len L.length 0 L.length hs (by omega)).2
    exact this
  · exact ⟨Nat.zero_le _, .inr rfl, fun z hz => by cases hz⟩
theorem ks_int {L : List Nd} {B : Nat} (h : ∀ j : Nat, (nd L j).ks.length ≤ B) : ∀ j : Int, (nd L j).ks.length ≤ B := fun j => by
  rcases Int.lt_or_le j 0 with hj | hj
  · unfold nd
    rw [if_neg (by omega)]
    exact Nat.zero_le _
  · obtain ⟨i, rfl⟩ := Int.eq_ofNat_of_zero_le hj
    exact h i
set_option maxRecDepth 100000 in
set_option maxHeartbeats 16000000 in
theorem CoreStrips_any (A : Option Addr) (L : List Nd) (n c : Nat) (hn : L.length = n) (hc : n ≤ c) (hm : c ≤ maxLen) (hx : ∀ j : Nat, (nd L j).ks.length ≤ 1000000000000000 ∧ (nd L j).x.size ≤ 1000000000000000) (w : World) (h : TreeAt w w.heap.size A L) (hmx : Mx w) (hw00 : 0 < w.heap.size) : Calls Tryz.prog 3 #[.agg #[.slice A n c]] w fun e w' => e = .returned (.bool true) ∧ Below w.heap.size w w' := by
  have HG := Lib.hid (fun W (hb : Below w.heap.size w W) => hn ▸ great_any A L c (by omega) hm hx W (h.later hb))
  have HX := Lib.hid (fun W (hb : Below w.heap.size w W) => And.intro (hmx.below hb hw00) (Nat.lt_of_lt_of_le hw00 hb.size))
  have hxs : wt L ≤ 3000 → (∀ j : Nat, (nd L j).x.size ≤ 4000000) ∧ (∀ j : Nat, (nd L j).ks.length ≤ 3000) ∧ n ≤ 3000 := fun hg => ⟨fun j => by have := wt_nd L j; omega, fun j => by have := wt_nd L j; omega, by have := wt_len L; omega⟩
  obtain ⟨wa, hwa⟩ : ∃ wa : World, wa = w.alloc (.cells #[.slice A n c] 24) := ⟨_, rfl⟩
  have bA : Below w.heap.size w wa := by rw [hwa]; exact (by (exact bl))
  have rT : Row wa w.heap.size 24 #[.slice A n c] := by rw [hwa]; exact row_new rfl
  have t0 := rT.cell 0
  simp at t0
  have lT := rT.lt
  have HM := Lib.hid hm
  by_cases hg1 : 3000 < wt L
  · rw [decide_eq_true hg1] at HG
    clear h hmx hxs hx
    go_enter Tryz.func3, Tryz.ntmps3
    go_upto_region 1 with fail
    rw [← hwa]
    clear hwa
    go_wp2_with (first
      | (go_at_call 4; (with_reducible refine (HG.out _ bA).mono ?_); rintro e w1 ⟨rfl, b1⟩)
      | fail)
    go_ret
    exact ⟨rfl, bA.trans (b1.mono bA.size)⟩
  · rw [decide_eq_false hg1] at HG
    obtain ⟨hxx, hkk, hn3⟩ := hxs (by omega)
    have hki : ∀ j : Int, (nd L j).ks.length ≤ 3000 := ks_int hkk
    have hki6 : ∀ j : Int, (nd L j).ks.length ≤ 1000000 := fun j => by have := hki j; omega
    have HLE := Lib.hid (fun W (hb : Below w.heap.size w W) => lent_any A L n hn c hc hm (by omega) (fun j => by have := hkk j; omega) W (h.later hb))
    have HSX := Lib.hid (fun A2 c2 (hc2 : n ≤ c2) (hm2 : c2 ≤ maxLen) W (h2 : TreeAt W W.heap.size A2 L) (hb : Below w.heap.size w W) => Strip_any A2 L n c2 hn hc2 hm2 (by omega) hki6 hxx W h2 (HX.out W hb).1 (HX.out W hb).2)
    have HST := Lib.hid (fun W (hb : Below w.heap.size w W) => Strip_any A L n c hn hc hm (by omega) hki6 hxx W (h.later hb) (HX.out W hb).1 (HX.out W hb).2)
    have HRS := Lib.hid (fun W (hb : Below w.heap.size w W) => rStrip_any A L n c hn hc hm (by omega) hki6 (fun j => by have := hxx j; omega) W (h.later hb))
    have HT := Lib.hid h
    have hsm := strip_small hki
    rw [hn] at hsm
    have HKL := Lib.hid (fun (p : NdV) (l : List NdV) (hl : l.map (·.1) = L) (hp : p ∈ l) => show p.1.ks.length ≤ 1000000000000 from by
      have h1 : p.1 ∈ L := by rw [← hl]; exact List.mem_map_of_mem hp
      obtain ⟨i, hi, hi2⟩ := List.getElem_of_mem h1
      have h3 := nd_get hi
      rw [List.getElem?_eq_getElem hi] at h3
      have := hkk i
      rw [← Option.some.inj h3, hi2] at this
      omega)
    generalize hsT : stripT L = sT at *
    obtain ⟨S, er⟩ := sT
    simp only at hsm HSX HST HRS
    obtain ⟨hS1, hS2, hS3⟩ := hsm
    have HSK := Lib.hid hS3
    have HNL := Lib.hid hn
    clear h hmx hxs hx hxx hkk hki hki6 hsT hS3 hg1 hn
    have hee : (er != er) = false := by simp
    generalize hsn : S.length = sn at *
    have HSN := Lib.hid hsn
    clear hsn
    go_enter Tryz.func3, Tryz.ntmps3
    go_upto_region 1 with fail
    rw [← hwa]
    clear hwa
    go_upto_region 4 with (first
      | (go_at_call 4; (with_reducible refine (HG.out _ bA).mono ?_); rintro e w1 ⟨rfl, b1⟩; have q1 := bA.trans (b1.mono bA.size); have rT1 := rT.below b1 lT; have t1 := rT1.cell 0; simp at t1; have lT1 := rT1.lt)
      | (go_at_call 5; (with_reducible refine (HLE.out _ q1).mono ?_); rintro r w2 ⟨⟨v2, l2, rfl, hT2, hl2⟩, b2⟩; obtain ⟨A2, c2, hv2, hc2, hm2, hTR2, g2, hg2, -⟩ := hT2.tree; subst hg2; subst hv2; have q2 := q1.trans (b2.mono q1.size); have rT2 := rT1.below b2 lT1)
      | fail)
    have hln2 : l2.length = n := by have := congrArg List.length hl2; rw [List.length_map, HNL.out] at this; exact this
    simp only [hln2]
    rw [hln2] at hT2 hc2
    obtain ⟨g3, hg3⟩ : ∃ g3, g3 = w2.heap.size := ⟨_, rfl⟩
    obtain ⟨w3, hw3⟩ : ∃ w3 : World, w3 = w2.alloc (.cells #[.slice (some ⟨g2, 0, none⟩) n c2] 24) := ⟨_, rfl⟩
    have b23 : Below w2.heap.size w2 w3 := by rw [hw3]; exact (Below.refl _ _).alloc (Nat.le_refl _) _
    have r3 : Row w3 g3 24 #[.slice (some ⟨g2, 0, none⟩) n c2] := by rw [hw3]; exact row_new hg3
    have rT3 := rT2.below b23 rT2.lt
    have q3 := q2.trans (b23.mono q2.size)
    have hT3 := hT2.below b23
    rw [hl2] at hTR2
    have hTR3 := hTR2.later b23
    have lT3 := rT3.lt
    have l3 := r3.lt
    have x3 := r3.cell 0
    have t3 := rT3.cell 0
    simp at x3 t3
    rw [← hw3, ← hg3]
    have HS3 := Lib.hid (HSX.out (some ⟨g2, 0, none⟩) c2 (by omega) hm2 w3 hTR3 q3)
    have HT3 := Lib.hid hT3
    have HLN2 := Lib.hid hln2
    have hg33 : g3 < w3.heap.size := r3.lt
    have b1w := (show w1.heap.size ≤ w2.heap.size from b2.size)
    have HL2 := Lib.hid hl2
    have hgt3 : w.heap.size ≠ g3 := by have := q2.size; have := rT2.lt; omega
    clear hw3 hg3 HLE HG HSX hT2 hT3 hTR2 hTR3 rT rT1 rT2 t0 t1 lT lT1 b1 b2 b23 bA q1 hl2 hln2
    go_upto_region 5 with (first
      | (go_at_call 6; (with_reducible refine HS3.out.mono ?_); rintro r w4 ⟨⟨v4, l4, rfl, hO4, hl4⟩, b4⟩; obtain ⟨A4, c4, hv4, hc4, hm4⟩ := own_slice hO4.row; subst hv4)
      | fail)
    have hln4 : l4.length = sn := by have := congrArg List.length hl4; rw [List.length_map, HSN.out] at this; exact this
    have HLN4 := Lib.hid hln4
    simp only [hln4]
    rw [hln4] at hO4 hc4
    have hown4 := own_lt hO4.row
    have hkid4 := hO4.kids.lt
    obtain ⟨g4, hg4⟩ : ∃ g4, g4 = w4.heap.size := ⟨_, rfl⟩
    obtain ⟨w5, hw5⟩ : ∃ w5 : World, w5 = w4.alloc (.cells #[.slice A4 sn c4] 24) := ⟨_, rfl⟩
    have b45 : Below w4.heap.size w4 w5 := by rw [hw5]; exact (Below.refl _ _).alloc (Nat.le_refl _) _
    have r4 : Row w5 g4 24 #[.slice A4 sn c4] := by rw [hw5]; exact row_new hg4
    have hg5 : g4 < w5.heap.size := r4.lt
    have b35 := b4.trans (b45.mono b4.size)
    have r35 := r3.below b35 l3
    have rT5 := rT3.below b35 lT3
    have q5 := q3.trans (b35.mono q3.size)
    have hO5 := hO4.below b45
    have HO5 := Lib.hid hO5
    have HW4 := Lib.hid (And.intro hown4 hkid4)
    have HL4 := Lib.hid hl4
    have z35 := b35.size
    have z34 := b4.size
    have hg34 : g3 < g4 := by omega
    obtain ⟨hgT4, hg34'⟩ : w.heap.size < g4 ∧ w3.heap.size ≤ g4 := by omega
    have lT5 := rT5.lt
    have l5 := r35.lt
    have t5 := rT5.cell 0
    have x5 := r35.cell 0
    simp at t5 x5
    rw [← hw5, ← hg4]
    have HG4 := Lib.hid hg4
    clear hw5 hg4 hown4 hkid4 hO4 hO5 hl4 hln4 HS3 b4 b45 x3 t3
    go_upto_region 6 with (first
      | (go_at_call 7; (with_reducible refine (HRS.out _ q5).mono ?_); rintro r w6 ⟨⟨v6, l6, rfl, hO6, hl6⟩, b6⟩; obtain ⟨A6, c6, hv6, hc6, hm6⟩ := own_slice hO6.row; subst hv6)
      | fail)
    have hln6 : l6.length = sn := by have := congrArg List.length hl6; rw [List.length_map, HSN.out] at this; exact this
    simp only [hln6]
    rw [hln6] at hO6 hc6
    obtain ⟨g6, hg6⟩ : ∃ g6, g6 = w6.heap.size := ⟨_, rfl⟩
    obtain ⟨w7, hw7⟩ : ∃ w7 : World, w7 = w6.alloc (.cells #[.slice A6 sn c6] 24) := ⟨_, rfl⟩
    have b67 : Below w6.heap.size w6 w7 := by rw [hw7]; exact (Below.refl _ _).alloc (Nat.le_refl _) _
    have r6 : Row w7 g6 24 #[.slice A6 sn c6] := by rw [hw7]; exact row_new hg6
    have b57 := b6.trans (b67.mono b6.size)
    have z57 := b57.size
    have z56 := b6.size
    have hg46 : w5.heap.size ≤ g6 := by omega
    have r47 := r4.below b57 hg5
    have r37 := r35.below b57 l5
    have rT7 := rT5.below b57 lT5
    have q7 := q5.trans (b57.mono q5.size)
    have b37 := b35.trans (b57.mono b35.size)
    have HO7 := Lib.hid (HO5.out.below b57)
    have HO6 := Lib.hid (hO6.below b67)
    have HL6 := Lib.hid hl6
    have lT7 := rT7.lt
    have l37 := r37.lt
    have l47 := r47.lt
    have l67 := r6.lt
    have t7 := rT7.cell 0
    have x7 := r37.cell 0
    have s7 := r47.cell 0
    have e7 := r6.cell 0
    simp at t7 x7 s7 e7
    rw [← hw7, ← hg6]
    clear hw7 hg6 hO6 hl6 hln6 b6 b67 rT5 r35 r4 lT5 l5 x5 t5 HO5
    have HTR := Lib.hid (show ∀ W, TreeAt W W.heap.size A4 S → TreeAt W W.heap.size A6 S → Calls Tryz.prog 8 #[.agg #[.slice A4 sn c4], .agg #[.slice A6 sn c6]] W fun e w' => e = .returned (.bool true) ∧ Below W.heap.size W w' from fun W h1 h2 => trees_any A4 A6 S sn c4 c6 HSN.out hc4 hc6 hm4 hm6 W h1 h2)
    have hTa : TreeAt w7 w7.heap.size A4 S := by
      obtain ⟨Aa, ca, ea, _, _, hTa⟩ := HO7.out.tree
      injection ea with ea1 _ ea3
      subst ea1 ea3
      rw [HL4.out] at hTa
      exact hTa
    have hTb : TreeAt w7 w7.heap.size A6 S := by
      obtain ⟨Aa, ca, ea, _, _, hTa⟩ := HO6.out.tree
      injection ea with ea1 _ ea3
      subst ea1 ea3
      rw [HL6.out] at hTa
      exact hTa
    have HTR7 := Lib.hid (HTR.out w7 hTa hTb)
    clear hTa hTb HTR
    go_upto_region 8 with (first
      | (go_at_call 8; (with_reducible refine HTR7.out.mono ?_); rintro r w8 ⟨rfl, b8⟩; have r48 := r47.below b8 l47; have s8 := r48.cell 0; simp at s8; have l48 := r48.lt)
      | fail)
    have b38 := b37.trans (b8.mono b37.size)
    have z8 := b8.size
    have z37 := b37.size
    have HK4 := Lib.hid (show ∀ p ∈ l4, p.1.ks.length ≤ 1000000000000 from fun p hp => by
      have h1 : p.1 ∈ S := by rw [← HL4.out]; exact List.mem_map_of_mem hp
      have := HSK.out p.1 h1
      omega)
    have HSP := Lib.hid (spoil_win A4 l4 sn c4 HLN4.out (by omega) w3.heap.size HK4.out w8 (HO7.out.below b8) b38.size w4.heap.size (by have := HG4.out; omega) HW4.out.1 HW4.out.2)
    have r68 := r6.below b8 l67
    have hg6w : g6 < w8.heap.size := by omega
    have hg4w : g4 < w8.heap.size := by omega
    have HO8 := Lib.hid (HO6.out.below b8)
    clear HO7 HO6 HK4 HTR7 r47 r37 rT7 r6 lT7 l37 l47 l67 t7 x7 s7 e7
    go_upto_region 9 with (first
      | (go_at_call 9; (with_reducible refine HSP.out.mono ?_); rintro r w9 ⟨⟨v9, rfl⟩, hw9⟩)
      | fail)
    have b39 := b38.trans hw9.b
    have q9 := q3.trans (b39.mono q3.size)
    have r49 : Row w9 g4 24 #[.slice A4 sn c4] := (hw9.hi g4 (by have := HG4.out; omega) hg4w).trans r48
    have r69 : Row w9 g6 24 #[.slice A6 sn c6] := (hw9.hi g6 (by have := HG4.out; omega) hg6w).trans r68
    have hO9 : OwnT w9 w5.heap.size (.slice A6 sn c6) l6 := HO8.out.stand hw9 (by have := HG4.out; omega)
    have HO9 := Lib.hid hO9
    have z89 := hw9.b.size
    have z39 := b39.size
    have l49 := r49.lt
    have l69 := r69.lt
    clear hO9 HO8 hw9 HSP r48 r68 b38 b37 b57 b35 s8 l48 hg6w hg4w b8 q7 q5 HW4
    have rT9 := rT3.below b39 lT3
    have r39 := r3.below b39 l3
    have lT9 := rT9.lt
    have l39 := r39.lt
    have t9 := rT9.cell 0
    simp at t9
    have HS9 := Lib.hid (HST.out w9 q9)
    clear rT3 r3 lT3 l3 HST HRS
    go_upto_region 10 with (first
      | (go_at_call 6; (with_reducible refine HS9.out.mono ?_); rintro r w10 ⟨⟨v10, l10, rfl, hO10, hl10⟩, b10⟩; obtain ⟨A10, c10, hv10, hc10, hm10⟩ := own_slice hO10.row; subst hv10; have r4a := r49.below b10 l49; have f4a := r4a.free 0; have x4a := r4a.cell 0; simp at x4a; have l4a := r4a.lt)
      | fail)
    have hln10 : l10.length = sn := by have := congrArg List.length hl10; rw [List.length_map, HSN.out] at this; exact this
    simp only [hln10]
    rw [hln10] at hO10 hc10
    obtain ⟨wb, hwb⟩ : ∃ wb : World, wb = w10.setCell ⟨g4, 0, none⟩ (.slice A10 sn c10) := ⟨_, rfl⟩
    have r4b : Row wb g4 24 #[.slice A10 sn c10] := by rw [hwb]; exact row_put1 r4a _
    have r6b : Row wb g6 24 #[.slice A6 sn c6] := by rw [hwb]; exact (r69.below b10 l69).far (by show g6 ≠ g4; omega) _
    have rTb : Row wb w.heap.size 24 #[.slice A n c] := by rw [hwb]; exact (rT9.below b10 lT9).far (by show w.heap.size ≠ g4; omega) _
    have r3b : Row wb g3 24 #[.slice (some ⟨g2, 0, none⟩) n c2] := by rw [hwb]; exact (r39.below b10 l39).far (by show g3 ≠ g4; omega) _
    have hOb : OwnT wb w9.heap.size (.slice A10 sn c10) l10 := by rw [hwb]; exact hO10.far (by show g4 < w9.heap.size; omega) _
    have hO6b : OwnT wb w5.heap.size (.slice A6 sn c6) l6 := by rw [hwb]; exact (HO9.out.below b10).far (by show g4 < w5.heap.size; omega) _
    have b3b : Below w3.heap.size w3 wb := by rw [hwb]; exact (b39.trans (b10.mono b39.size)).setCell (by show w3.heap.size ≤ g4; omega) _
    rw [← hwb]
    clear hwb r4a f4a x4a l4a r49 r69 rT9 r39 lT9 l39 t9 l49 l69 hO10 HO9 b39 b10 HS9
    have qb := q3.trans (b3b.mono q3.size)
    have hTx := HT3.out.below b3b
    have HBK := Lib.hid (back_any l2 L HL2.out g2 n c2 w1.heap.size HLN2.out (by omega) (fun p hp => HKL.out p l2 HL2.out hp) A c hc hm wb hTx (HT.out.later qb))
    have HOB := Lib.hid hOb
    have HO6 := Lib.hid hO6b
    have HTR := Lib.hid (fun W (hb : Below wb.heap.size wb W) => show Calls Tryz.prog 8 #[.agg #[.slice A10 sn c10], .agg #[.slice A6 sn c6]] W fun e w' => e = .returned (.bool true) ∧ Below W.heap.size W w' from by
      refine trees_any A10 A6 S sn c10 c6 HSN.out hc10 hc6 hm10 hm6 W ?_ ?_
      · obtain ⟨Aa, ca, ea, _, _, hTa⟩ := (HOB.out.below hb).tree
        injection ea with ea1 _ ea3
        subst ea1 ea3
        rw [hl10] at hTa
        exact hTa
      · obtain ⟨Aa, ca, ea, _, _, hTa⟩ := (HO6.out.below hb).tree
        injection ea with ea1 _ ea3
        subst ea1 ea3
        rw [HL6.out] at hTa
        exact hTa)
    have lTb := rTb.lt
    have l3b := r3b.lt
    have l4b := r4b.lt
    have l6b := r6b.lt
    have tb := rTb.cell 0
    have xb := r3b.cell 0
    simp at tb xb
    clear hTx hOb hO6b hl10
    go_wp2_with (first
      | (go_at_call 10; (with_reducible refine HBK.out.mono ?_); rintro r wc ⟨rfl, bc⟩; have r4c := r4b.below bc l4b; have r6c := r6b.below bc l6b; have s4 := r4c.cell 0; have s6 := r6c.cell 0; simp at s4 s6; have l4c := r4c.lt; have l6c := r6c.lt)
      | (go_at_call 8; (with_reducible refine (HTR.out _ bc).mono ?_); rintro r wd ⟨rfl, bd⟩; have qd := qb.trans ((bc.trans (bd.mono bc.size)).mono qb.size))
      | (go_at_call 11; (with_reducible refine (known_any _ (HX.out _ qd).1 (HX.out _ qd).2).mono ?_); rintro r we ⟨rfl, be⟩)
      | fail)
    go_ret
    exact ⟨rfl, qd.trans (be.mono qd.size)⟩
end Go.Proofs.YtpkdhciokiomlaaGreatDoor
