/- The walk of chapter 3's laws' own: sub. -/
import Derived.Test.YtjaijlkonkgnmaaGreatDoorHBE
import Derived.Test.YtjaijlkonkgnmaaGreatDoorHBRE
import Derived.Test.YtjaijlkonkgnmaaGreatDoorHLt
import Derived.Test.YtjaijlkonkgnmaaGreatDoorHSpl
import Derived.Test.YtjaijlkonkgnmaaGreatDoorHBSB
namespace Go.Proofs.YtjaijlkonkgnmaaGreatDoor
set_option linter.unusedVariables false
set_option linter.unusedSimpArgs false
set_option linter.unnecessarySimpa false
open Go.RowKit
attribute [local go_sem] cell_alloc_add cell_set_add lt_more
theorem subOf_ks {L : List Nd} {n : Int} {l : List Nd} {B : Nat} (h : SubOf L n l) (hB : ∀ j : Nat, (nd L j).ks.length ≤ B) : ∀ y ∈ l, y.ks.length ≤ B := by
  by_cases h0 : subE L n = 0
  · obtain ⟨e, h1, h2⟩ := h.2 h0
    subst h2
    intro y hy
    obtain ⟨z, hz, rfl⟩ := List.mem_map.1 hy
    have hz2 : z ∈ L := List.mem_of_mem_drop (List.mem_of_mem_take hz)
    obtain ⟨i, hi, hi2⟩ := List.getElem_of_mem hz2
    have h3 := nd_get hi
    rw [List.getElem?_eq_getElem hi] at h3
    show (z.ks.map _).length ≤ B
    rw [List.length_map, ← hi2, Option.some.inj h3]
    exact hB i
  · rw [h.1 h0]; simp
/-- A tree of the call's own, as a tree. -/
theorem OwnT.tree2 {W : World} {base : Nat} {v : Value} {l : List NdV} (h : OwnT W base v l) : ∃ A c, v = .slice A l.length c ∧ l.length ≤ c ∧ c ≤ maxLen ∧ TreeAt W W.heap.size A (l.map (·.1)) := h.tree
set_option maxRecDepth 100000 in
set_option maxHeartbeats 8000000 in
theorem sub_any (A : Option Addr) (L : List Nd) (N c : Nat) (hN : L.length = N) (hc : N ≤ c) (hm : c ≤ maxLen) (hL : N ≤ 1000000) (hx : ∀ j : Nat, (nd L j).x.size ≤ 4000000) (hks : ∀ j : Nat, (nd L j).ks.length ≤ 1000000000) (n : Int) (w : World) (h : TreeAt w w.heap.size A L) (hmx : Mx w) (hw00 : 0 < w.heap.size) : Calls Tryz.prog 13 #[.agg #[.slice A N c], .int .i64 n] w fun r w' => r = .returned (.bool true) ∧ Below w.heap.size w w' := by
  obtain ⟨wa, hwa⟩ : ∃ wa : World, wa = w.alloc (.cells #[.slice A N c] 24) := ⟨_, rfl⟩
  have bA : Below w.heap.size w wa := by rw [hwa]; exact (by (repeat (first | (with_reducible exact Below.refl _ _) | (with_reducible assumption) | (with_reducible refine Below.setCell ?_ (by first | omega | (simp <;> omega)) _) | (with_reducible refine Below.alloc ?_ (by first | omega | (simp <;> omega)) _) | (with_reducible refine Below.drew ?_) | (with_reducible refine below_drewN ?_ _) | (with_reducible refine Below.trans ?_ (Below.mono (by with_reducible assumption) (by first | omega | (simp <;> omega)))))))
  have zA : w.heap.size < wa.heap.size := by rw [hwa]; simp
  have rT : Row wa w.heap.size 24 #[.slice A N c] := by rw [hwa]; exact row_new rfl
  have t0 := rT.cell 0
  simp at t0
  have HLE := Lib.hid (fun W (hb : Below w.heap.size w W) => lent_any A L N hN c hc hm hL hks W (h.later hb))
  have HRS := Lib.hid (fun W (hb : Below w.heap.size w W) => rSub_any A L N c hN hc hm hL hx (fun j => by have := hks j; omega) n W (h.later hb))
  have HSB := Lib.hid (fun (A1 : Option Addr) (c1 : Nat) (hc1 : N ≤ c1) (hm1 : c1 ≤ maxLen) W (hb : Below w.heap.size w W) (hT : TreeAt W W.heap.size A1 L) => Sub_any A1 L N c1 hN hc1 hm1 hL hx (fun j => by have := hks j; omega) n W hT (hmx.below hb hw00) (by have := Below.size hb; omega))
  have HBK := Lib.hid (fun (l : List NdV) (hl : l.map (·.1) = L) (g c1 base : Nat) W (hb : Below w.heap.size w W) (hT : LentT W base (.slice (some ⟨g, 0, none⟩) N c1) l) => back_any l L hl g N c1 base (by rw [← hN, ← hl, List.length_map]) hL (fun p hp => by
    have h1 : p.1 ∈ L := by rw [← hl]; exact List.mem_map_of_mem hp
    obtain ⟨i, hi, hi2⟩ := List.getElem_of_mem h1
    have h3 := nd_get hi
    rw [List.getElem?_eq_getElem hi] at h3
    have := hks i
    rw [← Option.some.inj h3, hi2] at this
    omega) A c hc hm W hT (h.later hb))
  have HKS := Lib.hid (fun (l : List Nd) (hs : SubOf L n l) => subOf_ks hs hks)
  have HLN := Lib.hid (fun (l : List Nd) (hs : SubOf L n l) => subOf_len hs)
  have HN := Lib.hid hN
  have hNN : N ≤ 1000000 := hL
  clear h hx hks hmx hN hL
  go_enter Tryz.func13, Tryz.ntmps13
  go_upto_region 1 with fail
  rw [← hwa]
  clear hwa
  go_upto_region 2 with (first
    | (go_at_call 22; (with_reducible refine (HLE.out _ bA).mono ?_); rintro r w1 ⟨⟨v1, l1, rfl, hT1, hl1⟩, b1⟩; obtain ⟨A1, c1, hv1, hc1, hm1, hTT1, g1, hg1, hmk1⟩ := hT1.tree; subst hg1; subst hv1)
    | fail)
  have hn1 : l1.length = N := by rw [← HN.out, ← hl1, List.length_map]
  have q1 := bA.trans (b1.mono bA.size)
  obtain ⟨w2, hw2⟩ : ∃ w2 : World, w2 = w1.alloc (.cells #[.slice (some ⟨g1, 0, none⟩) l1.length c1] 24) := ⟨_, rfl⟩
  obtain ⟨gX, hgX⟩ : ∃ gX, gX = w1.heap.size := ⟨_, rfl⟩
  rw [← hw2, ← hgX]
  rw [hl1] at hTT1
  have rX : Row w2 gX 24 #[.slice (some ⟨g1, 0, none⟩) N c1] := by rw [hw2, hn1]; exact row_new hgX
  have rT2 : Row w2 w.heap.size 24 #[.slice A N c] := by rw [hw2]; exact (rT.below b1 zA).alloc _
  have q2 : Below w.heap.size w w2 := by rw [hw2]; exact q1.alloc q1.size _
  have hT2 : LentT w2 wa.heap.size (.slice (some ⟨g1, 0, none⟩) N c1) l1 := by
    rw [hw2, ← hn1]; exact hT1.below ((Below.refl _ _).alloc (Nat.le_refl _) _)
  have hTT2 : TreeAt w2 w2.heap.size (some ⟨g1, 0, none⟩) L := by rw [hw2]; exact hTT1.later ((Below.refl _ _).alloc (Nat.le_refl _) _)
  have hc1' : N ≤ c1 := by omega
  have HT2 := Lib.hid hT2
  have HTT2 := Lib.hid hTT2
  have HL1 := Lib.hid hl1
  clear hT1 hT2 hTT1 hTT2 hl1 hw2 hgX hmk1 hc1 rT t0 zA b1 q1 HLE hn1
  have lX := rX.lt
  have lT2 := rT2.lt
  have x0 := rX.cell 0
  simp at x0
  go_upto_region 3 with (first
    | (go_at_call 23; (with_reducible refine (HSB.out _ c1 hc1' hm1 _ q2 HTT2.out).mono ?_); rintro r w3 ⟨⟨v3, l3, rfl, hO3, hs3⟩, b3⟩; obtain ⟨A3, c3, hv3, hc3, hm3⟩ := own_slice hO3.row; subst hv3)
    | fail)
  obtain ⟨w4, hw4⟩ : ∃ w4 : World, w4 = w3.alloc (.cells #[.slice A3 l3.length c3] 24) := ⟨_, rfl⟩
  obtain ⟨gA, hgA⟩ : ∃ gA, gA = w3.heap.size := ⟨_, rfl⟩
  rw [← hw4, ← hgA]
  have b24 : Below w2.heap.size w2 w4 := by rw [hw4]; exact b3.alloc b3.size _
  have rA4 : Row w4 gA 24 #[.slice A3 l3.length c3] := by rw [hw4]; exact row_new hgA
  have hgA2 : w2.heap.size ≤ gA := by rw [hgA]; exact b3.size
  have rX4 := rX.below b24 lX
  have rT4 := rT2.below b24 lT2
  have hO4 : OwnT w4 w2.heap.size (.slice A3 l3.length c3) l3 := by rw [hw4]; exact hO3.below ((Below.refl _ _).alloc (Nat.le_refl _) _)
  have q4 := q2.trans (b24.mono q2.size)
  have t4 := rT4.cell 0
  simp at t4
  have HO4 := Lib.hid hO4
  have HS3 := Lib.hid hs3
  clear hO3 hO4 hs3 hw4 hgA b3 x0 HSB
  have lA4 := rA4.lt
  have lX4 := rX4.lt
  have lT4 := rT4.lt
  go_upto_region 4 with (first
    | (go_at_call 24; (with_reducible refine (HRS.out _ q4).mono ?_); rintro r w5 ⟨⟨v5, l5, rfl, hO5, hs5⟩, b5⟩; obtain ⟨A5, c5, hv5, hc5, hm5⟩ := own_slice hO5.row; subst hv5)
    | fail)
  have hl35 := subOf_det HS3.out hs5
  obtain ⟨w6, hw6⟩ : ∃ w6 : World, w6 = w5.alloc (.cells #[.slice A5 l5.length c5] 24) := ⟨_, rfl⟩
  obtain ⟨gB, hgB⟩ : ∃ gB, gB = w5.heap.size := ⟨_, rfl⟩
  rw [← hw6, ← hgB]
  have b46 : Below w4.heap.size w4 w6 := by rw [hw6]; exact b5.alloc b5.size _
  have rB6 : Row w6 gB 24 #[.slice A5 l5.length c5] := by rw [hw6]; exact row_new hgB
  have rA6 := rA4.below b46 lA4
  have rX6 := rX4.below b46 lX4
  have rT6 := rT4.below b46 lT4
  have hO6 : OwnT w6 w4.heap.size (.slice A5 l5.length c5) l5 := by rw [hw6]; exact hO5.below ((Below.refl _ _).alloc (Nat.le_refl _) _)
  have b26 := b24.trans (b46.mono b24.size)
  have q6 := q4.trans (b46.mono q4.size)
  have hO36 := HO4.out.below b46
  obtain ⟨A3', c3', e3, _, _, hTa⟩ := hO36.tree2
  injection e3 with e31 _ e33
  subst e31 e33
  obtain ⟨A5', c5', e5, _, _, hTb⟩ := hO6.tree2
  injection e5 with e51 _ e53
  subst e51 e53
  rw [← hl35] at hTb
  have hlen5 : (l3.map (·.1)).length = l5.length := by rw [hl35, List.length_map]
  have hlen3 : l3.length ≤ 1000000 := by have := HLN.out _ HS3.out; rw [List.length_map, HN.out] at this; omega
  have hlen35 : l5.length = l3.length := by rw [← hlen5, List.length_map]
  rw [hlen35] at rB6 hc5
  have HKS3 := Lib.hid (show ∀ p ∈ l3, p.1.ks.length ≤ 1000000000000 from fun p hp => by
    have := HKS.out _ HS3.out p.1 (List.mem_map_of_mem hp)
    omega)
  have HTR := Lib.hid (trees_any A3 A5 (l3.map (·.1)) l3.length c3 c5 (by simp) hc3 hc5 hm3 hm5 w6 hTa hTb)
  rw [hlen35]
  have HO36 := Lib.hid hO36
  have a6 := rA6.cell 0
  have e6 := rB6.cell 0
  simp at a6 e6
  have lA6 := rA6.lt
  have hse : ∀ se : Int, (se != se) = false := fun se => by simp
  have hse1 := hse (subE L n)
  generalize subE L n = se at *
  have HBB := Lib.hid b26
  clear hO36 hO6 hTa hTb hlen5 hlen35 hl35 hs5 hw6 hgB b5 t4 HS3 HLN HKS HRS b24 b46 q4 rT4 rX4 rA4 lX4 lT4 lA4 rB6 HO4 hO5 b26 hse rX6 rT6
  go_wp2_with (first
    | (go_at_call 25; (with_reducible refine HTR.out.mono ?_); rintro r w7 ⟨rfl, b7⟩; have b27 := HBB.out.trans (b7.mono HBB.out.size); have rA7 := rA6.below b7 lA6; have a7 := rA7.cell 0; simp at a7; have hO7 := HO36.out.below b7)
    | (go_at_call 26; (with_reducible refine (spoil_any A3 l3 l3.length c3 rfl hlen3 w2.heap.size HKS3.out w7 hO7 b27.size).mono ?_); rintro r w8 ⟨⟨v8, rfl⟩, b8⟩; have b28 := b27.trans b8; have rX8 := rX.below b28 lX; have rT8 := rT2.below b28 lT2; have x8 := rX8.cell 0; have t8 := rT8.cell 0; simp at x8 t8; have q8 := q2.trans (b28.mono q2.size); have HB8 := Lib.hid (HBK.out l1 HL1.out g1 c1 wa.heap.size w8 q8 (HT2.out.below b28)))
    | (go_at_call 27; (with_reducible refine HB8.out.mono ?_); rintro r w9 ⟨rfl, b9⟩)
    | fail)
  go_ret
  exact ⟨rfl, q8.trans (b9.mono q8.size)⟩
end Go.Proofs.YtjaijlkonkgnmaaGreatDoor
