/- The walks of the reference's decls, kind for kind (printed by genrk.py). -/
import Derived.Test.YtpkdhciokiomlaaGreatDoorHBZ19
namespace Go.Proofs.YtpkdhciokiomlaaGreatDoor
set_option linter.unusedVariables false
set_option linter.unusedSimpArgs false
set_option linter.unnecessarySimpa false
open Go.RowKit
attribute [local go_sem] cell_alloc_add cell_set_add lt_more fld0 fld2
set_option maxRecDepth 100000 in
set_option maxHeartbeats 8000000 in
theorem decls_40 (A : Option Addr) (L : List Nd) (c i : Nat) (w : World) (h : TreeAt w w.heap.size A L) (hc : L.length ≤ c) (hm : c ≤ maxLen) (hL : L.length ≤ 1000000000000) (hi : i < L.length) (hk : (nd L i).k = 40) : Calls Tryz.prog 80 #[.agg #[.slice A L.length c], .int .i64 (i : Int)] w fun e w' => e = .returned (.bool (declsB L (nd L i))) ∧ Below w.heap.size w w' := by
  have hT := Lib.hid h
  have hm2 := Lib.hid hm
  obtain ⟨ad, rfl, hn⟩ := h i hi
  have hb2 := hn.blk
  have hb1 : ad.block < w.heap.size := (by rw [block_add] at hb2; exact hb2)
  obtain ⟨K0, kc0, c0, c1, c2, c3, c4, hK0, hkk, hkm⟩ := node_open hn
  have HCr0 := Lib.hid (fun W (hb : Below w.heap.size w W) => row_lit (some ad) L c i W (h.later hb) hc hm hi [-1001, 1000] 2 #[.int .i64 (-1001), .int .i64 1000] rfl (by decide) (by decide) rfl)
  have H := Lib.hid (show declsB L (nd L i) = ((rowB L (nd L i).ks [-1001, 1000])) by unfold declsB; rw [hk]; rfl)
  rw [H.out]
  clear H h hn
  generalize rowB L (nd L i).ks [-1001, 1000] = r0 at *
  generalize nd L i = y at *
  obtain ⟨k, x, m, ks, p⟩ := y
  simp only at hk c0 c1 c2 c3 c4 hkk hK0 ⊢
  subst hk
  have hKK := Lib.hid hK0
  clear hK0
  unfold maxLen at hm hkm
  generalize hM : ks.length = M at *
  have HM := Lib.hid hM
  clear hM
  go_enter Tryz.func80, Tryz.ntmps80
  go_upto_region 2 with fail
  obtain ⟨wa, hwa⟩ : ∃ wa : World, wa = ((w.alloc (.cells #[.slice (some ad) L.length c] 24)).alloc (.cells #[.int .i64 40, .string x, .int .i64 m, .slice K0 M kc0, .int .i64 p] 37)) := ⟨_, rfl⟩
  have xa : wa.cell? ⟨w.heap.size, 0, none⟩ = some (.slice (some ad) L.length c) := by rw [hwa]; simp [World.cell?_alloc_mark]
  have qa : Below w.heap.size w wa := by rw [hwa]; (exact bl)
  have za := Below.size qa
  have ya : wa.cell? ⟨w.heap.size + 1, 3, none⟩ = some (.slice K0 M kc0) := by rw [hwa]; simp [World.cell?_alloc_mark]
  have yk : wa.cell? ⟨w.heap.size + 1, 0, none⟩ = some (.int .i64 40) := by rw [hwa]; simp [World.cell?_alloc_mark]
  rw [← hwa]
  clear hwa
  go_wp2_with (first
    | (go_at_call 91; (with_reducible refine (HCr0.out wa qa).mono ?_); rintro e wr0 ⟨rfl, br0⟩; have qr0 := qa.trans (br0.mono qa.size); have zr0 := Below.size qr0; have xr0 : wr0.cell? ⟨w.heap.size, 0, none⟩ = some (.slice (some ad) L.length c) := (br0.cell (p := ⟨w.heap.size, 0, none⟩) (World.block_lt_of_cell? wa _ xa)).trans xa)
    | fail)
  all_goals go_ret
  all_goals (refine ⟨ret_bool ?_, (by (exact bl))⟩; first | rfl | (simp [*]; done) | ((try simp only [beq_iff_eq, beq_eq_false_iff_ne, bne_iff_ne, bne_eq_false_iff_eq, ne_eq, decide_eq_true_eq, decide_eq_false_iff_not, Bool.and_eq_true, Bool.or_eq_true, Bool.not_eq_true, Bool.not_eq_false, Bool.false_eq_true, Decidable.not_not, Bool.not_eq_eq_eq_not, Bool.not_true, Bool.not_false] at *); simp_all; done))
set_option maxRecDepth 100000 in
set_option maxHeartbeats 8000000 in
theorem decls_41 (A : Option Addr) (L : List Nd) (c i : Nat) (w : World) (h : TreeAt w w.heap.size A L) (hc : L.length ≤ c) (hm : c ≤ maxLen) (hL : L.length ≤ 1000000000000) (hi : i < L.length) (hk : (nd L i).k = 41) : Calls Tryz.prog 80 #[.agg #[.slice A L.length c], .int .i64 (i : Int)] w fun e w' => e = .returned (.bool (declsB L (nd L i))) ∧ Below w.heap.size w w' := by
  have hT := Lib.hid h
  have hm2 := Lib.hid hm
  obtain ⟨ad, rfl, hn⟩ := h i hi
  have hb2 := hn.blk
  have hb1 : ad.block < w.heap.size := (by rw [block_add] at hb2; exact hb2)
  obtain ⟨K0, kc0, c0, c1, c2, c3, c4, hK0, hkk, hkm⟩ := node_open hn
  have HCr0 := Lib.hid (fun W (hb : Below w.heap.size w W) => function_any (some ad) L c i W (h.later hb) hc hm hL hi)
  have H := Lib.hid (show declsB L (nd L i) = ((functionB L (nd L i))) by unfold declsB; rw [hk]; rfl)
  rw [H.out]
  clear H h hn
  generalize functionB L (nd L i) = r0 at *
  generalize nd L i = y at *
  obtain ⟨k, x, m, ks, p⟩ := y
  simp only at hk c0 c1 c2 c3 c4 hkk hK0 ⊢
  subst hk
  have hKK := Lib.hid hK0
  clear hK0
  unfold maxLen at hm hkm
  generalize hM : ks.length = M at *
  have HM := Lib.hid hM
  clear hM
  go_enter Tryz.func80, Tryz.ntmps80
  go_upto_region 2 with fail
  obtain ⟨wa, hwa⟩ : ∃ wa : World, wa = ((w.alloc (.cells #[.slice (some ad) L.length c] 24)).alloc (.cells #[.int .i64 41, .string x, .int .i64 m, .slice K0 M kc0, .int .i64 p] 37)) := ⟨_, rfl⟩
  have xa : wa.cell? ⟨w.heap.size, 0, none⟩ = some (.slice (some ad) L.length c) := by rw [hwa]; simp [World.cell?_alloc_mark]
  have qa : Below w.heap.size w wa := by rw [hwa]; (exact bl)
  have za := Below.size qa
  have ya : wa.cell? ⟨w.heap.size + 1, 3, none⟩ = some (.slice K0 M kc0) := by rw [hwa]; simp [World.cell?_alloc_mark]
  have yk : wa.cell? ⟨w.heap.size + 1, 0, none⟩ = some (.int .i64 41) := by rw [hwa]; simp [World.cell?_alloc_mark]
  rw [← hwa]
  clear hwa
  go_wp2_with (first
    | (go_at_call 95; (with_reducible refine (HCr0.out wa qa).mono ?_); rintro e wr0 ⟨rfl, br0⟩; have qr0 := qa.trans (br0.mono qa.size); have zr0 := Below.size qr0; have xr0 : wr0.cell? ⟨w.heap.size, 0, none⟩ = some (.slice (some ad) L.length c) := (br0.cell (p := ⟨w.heap.size, 0, none⟩) (World.block_lt_of_cell? wa _ xa)).trans xa)
    | fail)
  all_goals go_ret
  all_goals (refine ⟨ret_bool ?_, (by (exact bl))⟩; first | rfl | (simp [*]; done) | ((try simp only [beq_iff_eq, beq_eq_false_iff_ne, bne_iff_ne, bne_eq_false_iff_eq, ne_eq, decide_eq_true_eq, decide_eq_false_iff_not, Bool.and_eq_true, Bool.or_eq_true, Bool.not_eq_true, Bool.not_eq_false, Bool.false_eq_true, Decidable.not_not, Bool.not_eq_eq_eq_not, Bool.not_true, Bool.not_false] at *); simp_all; done))
set_option maxRecDepth 100000 in
set_option maxHeartbeats 8000000 in
theorem decls_45 (A : Option Addr) (L : List Nd) (c i : Nat) (w : World) (h : TreeAt w w.heap.size A L) (hc : L.length ≤ c) (hm : c ≤ maxLen) (hL : L.length ≤ 1000000000000) (hi : i < L.length) (hk : (nd L i).k = 45) : Calls Tryz.prog 80 #[.agg #[.slice A L.length c], .int .i64 (i : Int)] w fun e w' => e = .returned (.bool (declsB L (nd L i))) ∧ Below w.heap.size w w' := by
  have hT := Lib.hid h
  have hm2 := Lib.hid hm
  obtain ⟨ad, rfl, hn⟩ := h i hi
  have hb2 := hn.blk
  have hb1 : ad.block < w.heap.size := (by rw [block_add] at hb2; exact hb2)
  obtain ⟨K0, kc0, c0, c1, c2, c3, c4, hK0, hkk, hkm⟩ := node_open hn
  have HCr0 := Lib.hid (fun W (hb : Below w.heap.size w W) => function_any (some ad) L c i W (h.later hb) hc hm hL hi)
  have H := Lib.hid (show declsB L (nd L i) = ((functionB L (nd L i))) by unfold declsB; rw [hk]; rfl)
  rw [H.out]
  clear H h hn
  generalize functionB L (nd L i) = r0 at *
  generalize nd L i = y at *
  obtain ⟨k, x, m, ks, p⟩ := y
  simp only at hk c0 c1 c2 c3 c4 hkk hK0 ⊢
  subst hk
  have hKK := Lib.hid hK0
  clear hK0
  unfold maxLen at hm hkm
  generalize hM : ks.length = M at *
  have HM := Lib.hid hM
  clear hM
  go_enter Tryz.func80, Tryz.ntmps80
  go_upto_region 2 with fail
  obtain ⟨wa, hwa⟩ : ∃ wa : World, wa = ((w.alloc (.cells #[.slice (some ad) L.length c] 24)).alloc (.cells #[.int .i64 45, .string x, .int .i64 m, .slice K0 M kc0, .int .i64 p] 37)) := ⟨_, rfl⟩
  have xa : wa.cell? ⟨w.heap.size, 0, none⟩ = some (.slice (some ad) L.length c) := by rw [hwa]; simp [World.cell?_alloc_mark]
  have qa : Below w.heap.size w wa := by rw [hwa]; (exact bl)
  have za := Below.size qa
  have ya : wa.cell? ⟨w.heap.size + 1, 3, none⟩ = some (.slice K0 M kc0) := by rw [hwa]; simp [World.cell?_alloc_mark]
  have yk : wa.cell? ⟨w.heap.size + 1, 0, none⟩ = some (.int .i64 45) := by rw [hwa]; simp [World.cell?_alloc_mark]
  rw [← hwa]
  clear hwa
  go_wp2_with (first
    | (go_at_call 95; (with_reducible refine (HCr0.out wa qa).mono ?_); rintro e wr0 ⟨rfl, br0⟩; have qr0 := qa.trans (br0.mono qa.size); have zr0 := Below.size qr0; have xr0 : wr0.cell? ⟨w.heap.size, 0, none⟩ = some (.slice (some ad) L.length c) := (br0.cell (p := ⟨w.heap.size, 0, none⟩) (World.block_lt_of_cell? wa _ xa)).trans xa)
    | fail)
  all_goals go_ret
  all_goals (refine ⟨ret_bool ?_, (by (exact bl))⟩; first | rfl | (simp [*]; done) | ((try simp only [beq_iff_eq, beq_eq_false_iff_ne, bne_iff_ne, bne_eq_false_iff_eq, ne_eq, decide_eq_true_eq, decide_eq_false_iff_not, Bool.and_eq_true, Bool.or_eq_true, Bool.not_eq_true, Bool.not_eq_false, Bool.false_eq_true, Decidable.not_not, Bool.not_eq_eq_eq_not, Bool.not_true, Bool.not_false] at *); simp_all; done))
set_option maxRecDepth 100000 in
set_option maxHeartbeats 8000000 in
theorem decls_42 (A : Option Addr) (L : List Nd) (c i : Nat) (w : World) (h : TreeAt w w.heap.size A L) (hc : L.length ≤ c) (hm : c ≤ maxLen) (hL : L.length ≤ 1000000000000) (hi : i < L.length) (hk : (nd L i).k = 42) : Calls Tryz.prog 80 #[.agg #[.slice A L.length c], .int .i64 (i : Int)] w fun e w' => e = .returned (.bool (declsB L (nd L i))) ∧ Below w.heap.size w w' := by
  have hT := Lib.hid h
  have hm2 := Lib.hid hm
  obtain ⟨ad, rfl, hn⟩ := h i hi
  have hb2 := hn.blk
  have hb1 : ad.block < w.heap.size := (by rw [block_add] at hb2; exact hb2)
  obtain ⟨K0, kc0, c0, c1, c2, c3, c4, hK0, hkk, hkm⟩ := node_open hn
  have HCr0 := Lib.hid (fun W (hb : Below w.heap.size w W) => row_lit (some ad) L c i W (h.later hb) hc hm hi [2, -43, 2, 2] 4 #[.int .i64 2, .int .i64 (-43), .int .i64 2, .int .i64 2] rfl (by decide) (by decide) rfl)
  have HCr1 := Lib.hid (fun W (hb : Below w.heap.size w W) => list_at (some ad) L c i W (h.later hb) hc hm hi 0 0 rfl (by decide) 67)
  have HCr2 := Lib.hid (fun W (hb : Below w.heap.size w W) => list_at (some ad) L c i W (h.later hb) hc hm hi 2 2 rfl (by decide) 80)
  have HCr3 := Lib.hid (fun W (hb : Below w.heap.size w W) => list_at (some ad) L c i W (h.later hb) hc hm hi 3 3 rfl (by decide) 1005)
  have HCr4 := Lib.hid (fun (hlist : listB L (nd L i) 3 1005 = true) W (hb : Below w.heap.size w W) => rCtors_any (some ad) L c i W (h.later hb) hc hm hi hlist)
  have H := Lib.hid (show declsB L (nd L i) = ((rowB L (nd L i).ks [2, -43, 2, 2]) && (listB L (nd L i) 0 67) && (listB L (nd L i) 2 80) && (listB L (nd L i) 3 1005) && decide ((ctorsB L (kidB L (nd L i) 3).ks) ≤ 1)) by unfold declsB; rw [hk]; rfl)
  rw [H.out]
  clear H h hn
  generalize rowB L (nd L i).ks [2, -43, 2, 2] = r0 at *
  generalize listB L (nd L i) 0 67 = r1 at *
  generalize listB L (nd L i) 2 80 = r2 at *
  generalize listB L (nd L i) 3 1005 = r3 at *
  generalize ctorsB L (kidB L (nd L i) 3).ks = r4 at *
  generalize nd L i = y at *
  obtain ⟨k, x, m, ks, p⟩ := y
  simp only at hk c0 c1 c2 c3 c4 hkk hK0 ⊢
  subst hk
  have hKK := Lib.hid hK0
  clear hK0
  unfold maxLen at hm hkm
  generalize hM : ks.length = M at *
  have HM := Lib.hid hM
  clear hM
  go_enter Tryz.func80, Tryz.ntmps80
  go_upto_region 2 with fail
  obtain ⟨wa, hwa⟩ : ∃ wa : World, wa = ((w.alloc (.cells #[.slice (some ad) L.length c] 24)).alloc (.cells #[.int .i64 42, .string x, .int .i64 m, .slice K0 M kc0, .int .i64 p] 37)) := ⟨_, rfl⟩
  have xa : wa.cell? ⟨w.heap.size, 0, none⟩ = some (.slice (some ad) L.length c) := by rw [hwa]; simp [World.cell?_alloc_mark]
  have qa : Below w.heap.size w wa := by rw [hwa]; (exact bl)
  have za := Below.size qa
  have ya : wa.cell? ⟨w.heap.size + 1, 3, none⟩ = some (.slice K0 M kc0) := by rw [hwa]; simp [World.cell?_alloc_mark]
  have yk : wa.cell? ⟨w.heap.size + 1, 0, none⟩ = some (.int .i64 42) := by rw [hwa]; simp [World.cell?_alloc_mark]
  rw [← hwa]
  clear hwa
  go_wp2_with (first
    | (go_at_call 91; (with_reducible refine (HCr0.out wa qa).mono ?_); rintro e wr0 ⟨rfl, br0⟩; have qr0 := qa.trans (br0.mono qa.size); have zr0 := Below.size qr0; have xr0 : wr0.cell? ⟨w.heap.size, 0, none⟩ = some (.slice (some ad) L.length c) := (br0.cell (p := ⟨w.heap.size, 0, none⟩) (World.block_lt_of_cell? wa _ xa)).trans xa)
    | (go_at_call 90; (with_reducible refine (HCr1.out wr0 qr0).mono ?_); rintro e wr1 ⟨rfl, br1⟩; have qr1 := qr0.trans (br1.mono qr0.size); have zr1 := Below.size qr1; have xr1 : wr1.cell? ⟨w.heap.size, 0, none⟩ = some (.slice (some ad) L.length c) := (br1.cell (p := ⟨w.heap.size, 0, none⟩) (World.block_lt_of_cell? wr0 _ xr0)).trans xr0)
    | (go_at_call 90; (with_reducible refine (HCr2.out wr1 qr1).mono ?_); rintro e wr2 ⟨rfl, br2⟩; have qr2 := qr1.trans (br2.mono qr1.size); have zr2 := Below.size qr2; have xr2 : wr2.cell? ⟨w.heap.size, 0, none⟩ = some (.slice (some ad) L.length c) := (br2.cell (p := ⟨w.heap.size, 0, none⟩) (World.block_lt_of_cell? wr1 _ xr1)).trans xr1)
    | (go_at_call 90; (with_reducible refine (HCr3.out wr2 qr2).mono ?_); rintro e wr3 ⟨rfl, br3⟩; have qr3 := qr2.trans (br3.mono qr2.size); have zr3 := Below.size qr3; have xr3 : wr3.cell? ⟨w.heap.size, 0, none⟩ = some (.slice (some ad) L.length c) := (br3.cell (p := ⟨w.heap.size, 0, none⟩) (World.block_lt_of_cell? wr2 _ xr2)).trans xr2)
    | (go_at_call 96; (with_reducible refine (HCr4.out (by assumption) wr3 qr3).mono ?_); rintro e wr4 ⟨rfl, br4⟩; have qr4 := qr3.trans (br4.mono qr3.size); have zr4 := Below.size qr4; have xr4 : wr4.cell? ⟨w.heap.size, 0, none⟩ = some (.slice (some ad) L.length c) := (br4.cell (p := ⟨w.heap.size, 0, none⟩) (World.block_lt_of_cell? wr3 _ xr3)).trans xr3)
    | fail)
  all_goals go_ret
  all_goals (refine ⟨ret_bool ?_, (by (exact bl))⟩; first | rfl | (simp [*]; done) | (simp [*]; omega) | ((try simp only [beq_iff_eq, beq_eq_false_iff_ne, bne_iff_ne, bne_eq_false_iff_eq, ne_eq, decide_eq_true_eq, decide_eq_false_iff_not, Bool.and_eq_true, Bool.or_eq_true, Bool.not_eq_true, Bool.not_eq_false, Bool.false_eq_true, Decidable.not_not, Bool.not_eq_eq_eq_not, Bool.not_true, Bool.not_false] at *); simp_all; done))
set_option maxRecDepth 100000 in
set_option maxHeartbeats 8000000 in
theorem decls_43 (A : Option Addr) (L : List Nd) (c i : Nat) (w : World) (h : TreeAt w w.heap.size A L) (hc : L.length ≤ c) (hm : c ≤ maxLen) (hL : L.length ≤ 1000000000000) (hi : i < L.length) (hk : (nd L i).k = 43) : Calls Tryz.prog 80 #[.agg #[.slice A L.length c], .int .i64 (i : Int)] w fun e w' => e = .returned (.bool (declsB L (nd L i))) ∧ Below w.heap.size w w' := by
  have hT := Lib.hid h
  have hm2 := Lib.hid hm
  obtain ⟨ad, rfl, hn⟩ := h i hi
  have hb2 := hn.blk
  have hb1 : ad.block < w.heap.size := (by rw [block_add] at hb2; exact hb2)
  obtain ⟨K0, kc0, c0, c1, c2, c3, c4, hK0, hkk, hkm⟩ := node_open hn
  have HCr0 := Lib.hid (fun W (hb : Below w.heap.size w W) => list_at (some ad) L c i W (h.later hb) hc hm hi 0 0 rfl (by decide) 1001)
  have H := Lib.hid (show declsB L (nd L i) = (decide ((nd L i).ks.length = 1) && (listB L (nd L i) 0 1001)) by unfold declsB; rw [hk]; rfl)
  rw [H.out]
  clear H h hn
  generalize listB L (nd L i) 0 1001 = r0 at *
  generalize nd L i = y at *
  obtain ⟨k, x, m, ks, p⟩ := y
  simp only at hk c0 c1 c2 c3 c4 hkk hK0 ⊢
  subst hk
  have hKK := Lib.hid hK0
  clear hK0
  unfold maxLen at hm hkm
  generalize hM : ks.length = M at *
  have HM := Lib.hid hM
  clear hM
  go_enter Tryz.func80, Tryz.ntmps80
  go_upto_region 2 with fail
  obtain ⟨wa, hwa⟩ : ∃ wa : World, wa = ((w.alloc (.cells #[.slice (some ad) L.length c] 24)).alloc (.cells #[.int .i64 43, .string x, .int .i64 m, .slice K0 M kc0, .int .i64 p] 37)) := ⟨_, rfl⟩
  have xa : wa.cell? ⟨w.heap.size, 0, none⟩ = some (.slice (some ad) L.length c) := by rw [hwa]; simp [World.cell?_alloc_mark]
  have qa : Below w.heap.size w wa := by rw [hwa]; (exact bl)
  have za := Below.size qa
  have ya : wa.cell? ⟨w.heap.size + 1, 3, none⟩ = some (.slice K0 M kc0) := by rw [hwa]; simp [World.cell?_alloc_mark]
  have yk : wa.cell? ⟨w.heap.size + 1, 0, none⟩ = some (.int .i64 43) := by rw [hwa]; simp [World.cell?_alloc_mark]
  rw [← hwa]
  clear hwa
  go_wp2_with (first
    | (go_at_call 90; (with_reducible refine (HCr0.out wa qa).mono ?_); rintro e wr0 ⟨rfl, br0⟩; have qr0 := qa.trans (br0.mono qa.size); have zr0 := Below.size qr0; have xr0 : wr0.cell? ⟨w.heap.size, 0, none⟩ = some (.slice (some ad) L.length c) := (br0.cell (p := ⟨w.heap.size, 0, none⟩) (World.block_lt_of_cell? wa _ xa)).trans xa)
    | fail)
  all_goals go_ret
  all_goals (refine ⟨ret_bool ?_, (by (exact bl))⟩; first | rfl | (simp [*]; done) | ((try simp only [beq_iff_eq, beq_eq_false_iff_ne, bne_iff_ne, bne_eq_false_iff_eq, ne_eq, decide_eq_true_eq, decide_eq_false_iff_not, Bool.and_eq_true, Bool.or_eq_true, Bool.not_eq_true, Bool.not_eq_false, Bool.false_eq_true, Decidable.not_not, Bool.not_eq_eq_eq_not, Bool.not_true, Bool.not_false] at *); simp_all; done) | ((first | rw [show decide (M = 1) = true from decide_eq_true (by omega)] | rw [show decide (M = 1) = false from decide_eq_false (by omega)]); first | rfl | (simp [*]; done) | ((try simp only [beq_iff_eq, beq_eq_false_iff_ne, bne_iff_ne, bne_eq_false_iff_eq, ne_eq, decide_eq_true_eq, decide_eq_false_iff_not, Bool.and_eq_true, Bool.or_eq_true, Bool.not_eq_true, Bool.not_eq_false, Bool.false_eq_true, Decidable.not_not, Bool.not_eq_eq_eq_not, Bool.not_true, Bool.not_false] at *); simp_all; done)))
set_option maxRecDepth 100000 in
set_option maxHeartbeats 8000000 in
theorem decls_44 (A : Option Addr) (L : List Nd) (c i : Nat) (w : World) (h : TreeAt w w.heap.size A L) (hc : L.length ≤ c) (hm : c ≤ maxLen) (hL : L.length ≤ 1000000000000) (hi : i < L.length) (hk : (nd L i).k = 44) : Calls Tryz.prog 80 #[.agg #[.slice A L.length c], .int .i64 (i : Int)] w fun e w' => e = .returned (.bool (declsB L (nd L i))) ∧ Below w.heap.size w w' := by
  have hT := Lib.hid h
  have hm2 := Lib.hid hm
  obtain ⟨ad, rfl, hn⟩ := h i hi
  have hb2 := hn.blk
  have hb1 : ad.block < w.heap.size := (by rw [block_add] at hb2; exact hb2)
  obtain ⟨K0, kc0, c0, c1, c2, c3, c4, hK0, hkk, hkm⟩ := node_open hn
  have HCr0 := Lib.hid (fun W (hb : Below w.heap.size w W) => row_lit (some ad) L c i W (h.later hb) hc hm hi [-1001, -1000] 2 #[.int .i64 (-1001), .int .i64 (-1000)] rfl (by decide) (by decide) rfl)
  have H := Lib.hid (show declsB L (nd L i) = ((rowB L (nd L i).ks [-1001, -1000])) by unfold declsB; rw [hk]; rfl)
  rw [H.out]
  clear H h hn
  generalize rowB L (nd L i).ks [-1001, -1000] = r0 at *
  generalize nd L i = y at *
  obtain ⟨k, x, m, ks, p⟩ := y
  simp only at hk c0 c1 c2 c3 c4 hkk hK0 ⊢
  subst hk
  have hKK := Lib.hid hK0
  clear hK0
  unfold maxLen at hm hkm
  generalize hM : ks.length = M at *
  have HM := Lib.hid hM
  clear hM
  go_enter Tryz.func80, Tryz.ntmps80
  go_upto_region 2 with fail
  obtain ⟨wa, hwa⟩ : ∃ wa : World, wa = ((w.alloc (.cells #[.slice (some ad) L.length c] 24)).alloc (.cells #[.int .i64 44, .string x, .int .i64 m, .slice K0 M kc0, .int .i64 p] 37)) := ⟨_, rfl⟩
  have xa : wa.cell? ⟨w.heap.size, 0, none⟩ = some (.slice (some ad) L.length c) := by rw [hwa]; simp [World.cell?_alloc_mark]
  have qa : Below w.heap.size w wa := by rw [hwa]; (exact bl)
  have za := Below.size qa
  have ya : wa.cell? ⟨w.heap.size + 1, 3, none⟩ = some (.slice K0 M kc0) := by rw [hwa]; simp [World.cell?_alloc_mark]
  have yk : wa.cell? ⟨w.heap.size + 1, 0, none⟩ = some (.int .i64 44) := by rw [hwa]; simp [World.cell?_alloc_mark]
  rw [← hwa]
  clear hwa
  go_wp2_with (first
    | (go_at_call 91; (with_reducible refine (HCr0.out wa qa).mono ?_); rintro e wr0 ⟨rfl, br0⟩; have qr0 := qa.trans (br0.mono qa.size); have zr0 := Below.size qr0; have xr0 : wr0.cell? ⟨w.heap.size, 0, none⟩ = some (.slice (some ad) L.length c) := (br0.cell (p := ⟨w.heap.size, 0, none⟩) (World.block_lt_of_cell? wa _ xa)).trans xa)
    | fail)
  all_goals go_ret
  all_goals (refine ⟨ret_bool ?_, (by (exact bl))⟩; first | rfl | (simp [*]; done) | ((try simp only [beq_iff_eq, beq_eq_false_iff_ne, bne_iff_ne, bne_eq_false_iff_eq, ne_eq, decide_eq_true_eq, decide_eq_false_iff_not, Bool.and_eq_true, Bool.or_eq_true, Bool.not_eq_true, Bool.not_eq_false, Bool.false_eq_true, Decidable.not_not, Bool.not_eq_eq_eq_not, Bool.not_true, Bool.not_false] at *); simp_all; done))
set_option maxRecDepth 100000 in
set_option maxHeartbeats 8000000 in
theorem decls_46 (A : Option Addr) (L : List Nd) (c i : Nat) (w : World) (h : TreeAt w w.heap.size A L) (hc : L.length ≤ c) (hm : c ≤ maxLen) (hL : L.length ≤ 1000000000000) (hi : i < L.length) (hk : (nd L i).k = 46) : Calls Tryz.prog 80 #[.agg #[.slice A L.length c], .int .i64 (i : Int)] w fun e w' => e = .returned (.bool (declsB L (nd L i))) ∧ Below w.heap.size w w' := by
  have hT := Lib.hid h
  have hm2 := Lib.hid hm
  obtain ⟨ad, rfl, hn⟩ := h i hi
  have hb2 := hn.blk
  have hb1 : ad.block < w.heap.size := (by rw [block_add] at hb2; exact hb2)
  obtain ⟨K0, kc0, c0, c1, c2, c3, c4, hK0, hkk, hkm⟩ := node_open hn
  have HCr0 := Lib.hid (fun W (hb : Below w.heap.size w W) => row_lit (some ad) L c i W (h.later hb) hc hm hi [2, 63] 2 #[.int .i64 2, .int .i64 63] rfl (by decide) (by decide) rfl)
  have HCr1 := Lib.hid (fun W (hb : Below w.heap.size w W) => list_at (some ad) L c i W (h.later hb) hc hm hi 0 0 rfl (by decide) 1004)
  have H := Lib.hid (show declsB L (nd L i) = ((rowB L (nd L i).ks [2, 63]) && (listB L (nd L i) 0 1004)) by unfold declsB; rw [hk]; rfl)
  rw [H.out]
  clear H h hn
  generalize rowB L (nd L i).ks [2, 63] = r0 at *
  generalize listB L (nd L i) 0 1004 = r1 at *
  generalize nd L i = y at *
  obtain ⟨k, x, m, ks, p⟩ := y
  simp only at hk c0 c1 c2 c3 c4 hkk hK0 ⊢
  subst hk
  have hKK := Lib.hid hK0
  clear hK0
  unfold maxLen at hm hkm
  generalize hM : ks.length = M at *
  have HM := Lib.hid hM
  clear hM
  go_enter Tryz.func80, Tryz.ntmps80
  go_upto_region 2 with fail
  obtain ⟨wa, hwa⟩ : ∃ wa : World, wa = ((w.alloc (.cells #[.slice (some ad) L.length c] 24)).alloc (.cells #[.int .i64 46, .string x, .int .i64 m, .slice K0 M kc0, .int .i64 p] 37)) := ⟨_, rfl⟩
  have xa : wa.cell? ⟨w.heap.size, 0, none⟩ = some (.slice (some ad) L.length c) := by rw [hwa]; simp [World.cell?_alloc_mark]
  have qa : Below w.heap.size w wa := by rw [hwa]; (exact bl)
  have za := Below.size qa
  have ya : wa.cell? ⟨w.heap.size + 1, 3, none⟩ = some (.slice K0 M kc0) := by rw [hwa]; simp [World.cell?_alloc_mark]
  have yk : wa.cell? ⟨w.heap.size + 1, 0, none⟩ = some (.int .i64 46) := by rw [hwa]; simp [World.cell?_alloc_mark]
  rw [← hwa]
  clear hwa
  go_wp2_with (first
    | (go_at_call 91; (with_reducible refine (HCr0.out wa qa).mono ?_); rintro e wr0 ⟨rfl, br0⟩; have qr0 := qa.trans (br0.mono qa.size); have zr0 := Below.size qr0; have xr0 : wr0.cell? ⟨w.heap.size, 0, none⟩ = some (.slice (some ad) L.length c) := (br0.cell (p := ⟨w.heap.size, 0, none⟩) (World.block_lt_of_cell? wa _ xa)).trans xa)
    | (go_at_call 90; (with_reducible refine (HCr1.out wr0 qr0).mono ?_); rintro e wr1 ⟨rfl, br1⟩; have qr1 := qr0.trans (br1.mono qr0.size); have zr1 := Below.size qr1; have xr1 : wr1.cell? ⟨w.heap.size, 0, none⟩ = some (.slice (some ad) L.length c) := (br1.cell (p := ⟨w.heap.size, 0, none⟩) (World.block_lt_of_cell? wr0 _ xr0)).trans xr0)
    | fail)
  all_goals go_ret
  all_goals (refine ⟨ret_bool ?_, (by (exact bl))⟩; first | rfl | (simp [*]; done) | ((try simp only [beq_iff_eq, beq_eq_false_iff_ne, bne_iff_ne, bne_eq_false_iff_eq, ne_eq, decide_eq_true_eq, decide_eq_false_iff_not, Bool.and_eq_true, Bool.or_eq_true, Bool.not_eq_true, Bool.not_eq_false, Bool.false_eq_true, Decidable.not_not, Bool.not_eq_eq_eq_not, Bool.not_true, Bool.not_false] at *); simp_all; done))
set_option maxRecDepth 100000 in
set_option maxHeartbeats 8000000 in
theorem decls_47 (A : Option Addr) (L : List Nd) (c i : Nat) (w : World) (h : TreeAt w w.heap.size A L) (hc : L.length ≤ c) (hm : c ≤ maxLen) (hL : L.length ≤ 1000000000000) (hi : i < L.length) (hk : (nd L i).k = 47) : Calls Tryz.prog 80 #[.agg #[.slice A L.length c], .int .i64 (i : Int)] w fun e w' => e = .returned (.bool (declsB L (nd L i))) ∧ Below w.heap.size w w' := by
  have hT := Lib.hid h
  have hm2 := Lib.hid hm
  obtain ⟨ad, rfl, hn⟩ := h i hi
  have hb2 := hn.blk
  have hb1 : ad.block < w.heap.size := (by rw [block_add] at hb2; exact hb2)
  obtain ⟨K0, kc0, c0, c1, c2, c3, c4, hK0, hkk, hkm⟩ := node_open hn
  have HCr0 := Lib.hid (fun W (hb : Below w.heap.size w W) => each_any (some ad) L c i W (h.later hb) hc hm hi 48 48)
  have H := Lib.hid (show declsB L (nd L i) = ((eachB L (nd L i).ks 48 48)) by unfold declsB; rw [hk]; rfl)
  rw [H.out]
  clear H h hn
  generalize eachB L (nd L i).ks 48 48 = r0 at *
  generalize nd L i = y at *
  obtain ⟨k, x, m, ks, p⟩ := y
  simp only at hk c0 c1 c2 c3 c4 hkk hK0 ⊢
  subst hk
  have hKK := Lib.hid hK0
  clear hK0
  unfold maxLen at hm hkm
  generalize hM : ks.length = M at *
  have HM := Lib.hid hM
  clear hM
  go_enter Tryz.func80, Tryz.ntmps80
  go_upto_region 2 with fail
  obtain ⟨wa, hwa⟩ : ∃ wa : World, wa = ((w.alloc (.cells #[.slice (some ad) L.length c] 24)).alloc (.cells #[.int .i64 47, .string x, .int .i64 m, .slice K0 M kc0, .int .i64 p] 37)) := ⟨_, rfl⟩
  have xa : wa.cell? ⟨w.heap.size, 0, none⟩ = some (.slice (some ad) L.length c) := by rw [hwa]; simp [World.cell?_alloc_mark]
  have qa : Below w.heap.size w wa := by rw [hwa]; (exact bl)
  have za := Below.size qa
  have ya : wa.cell? ⟨w.heap.size + 1, 3, none⟩ = some (.slice K0 M kc0) := by rw [hwa]; simp [World.cell?_alloc_mark]
  have yk : wa.cell? ⟨w.heap.size + 1, 0, none⟩ = some (.int .i64 47) := by rw [hwa]; simp [World.cell?_alloc_mark]
  rw [← hwa]
  clear hwa
  go_wp2_with (first
    | (go_at_call 92; (with_reducible refine (HCr0.out wa qa).mono ?_); rintro e wr0 ⟨rfl, br0⟩; have qr0 := qa.trans (br0.mono qa.size); have zr0 := Below.size qr0; have xr0 : wr0.cell? ⟨w.heap.size, 0, none⟩ = some (.slice (some ad) L.length c) := (br0.cell (p := ⟨w.heap.size, 0, none⟩) (World.block_lt_of_cell? wa _ xa)).trans xa)
    | fail)
  all_goals go_ret
  all_goals (refine ⟨ret_bool ?_, (by (exact bl))⟩; first | rfl | (simp [*]; done) | ((try simp only [beq_iff_eq, beq_eq_false_iff_ne, bne_iff_ne, bne_eq_false_iff_eq, ne_eq, decide_eq_true_eq, decide_eq_false_iff_not, Bool.and_eq_true, Bool.or_eq_true, Bool.not_eq_true, Bool.not_eq_false, Bool.false_eq_true, Decidable.not_not, Bool.not_eq_eq_eq_not, Bool.not_true, Bool.not_false] at *); simp_all; done))
set_option maxRecDepth 100000 in
set_option maxHeartbeats 8000000 in
theorem decls_48 (A : Option Addr) (L : List Nd) (c i : Nat) (w : World) (h : TreeAt w w.heap.size A L) (hc : L.length ≤ c) (hm : c ≤ maxLen) (hL : L.length ≤ 1000000000000) (hi : i < L.length) (hk : (nd L i).k = 48) : Calls Tryz.prog 80 #[.agg #[.slice A L.length c], .int .i64 (i : Int)] w fun e w' => e = .returned (.bool (declsB L (nd L i))) ∧ Below w.heap.size w w' := by
  have hT := Lib.hid h
  have hm2 := Lib.hid hm
  obtain ⟨ad, rfl, hn⟩ := h i hi
  have hb2 := hn.blk
  have hb1 : ad.block < w.heap.size := (by rw [block_add] at hb2; exact hb2)
  obtain ⟨K0, kc0, c0, c1, c2, c3, c4, hK0, hkk, hkm⟩ := node_open hn
  have HCr0 := Lib.hid (fun W (hb : Below w.heap.size w W) => row_lit (some ad) L c i W (h.later hb) hc hm hi [-1000] 1 #[.int .i64 (-1000)] rfl (by decide) (by decide) rfl)
  have H := Lib.hid (show declsB L (nd L i) = ((rowB L (nd L i).ks [-1000])) by unfold declsB; rw [hk]; rfl)
  rw [H.out]
  clear H h hn
  generalize rowB L (nd L i).ks [-1000] = r0 at *
  generalize nd L i = y at *
  obtain ⟨k, x, m, ks, p⟩ := y
  simp only at hk c0 c1 c2 c3 c4 hkk hK0 ⊢
  subst hk
  have hKK := Lib.hid hK0
  clear hK0
  unfold maxLen at hm hkm
  generalize hM : ks.length = M at *
  have HM := Lib.hid hM
  clear hM
  go_enter Tryz.func80, Tryz.ntmps80
  go_upto_region 2 with fail
  obtain ⟨wa, hwa⟩ : ∃ wa : World, wa = ((w.alloc (.cells #[.slice (some ad) L.length c] 24)).alloc (.cells #[.int .i64 48, .string x, .int .i64 m, .slice K0 M kc0, .int .i64 p] 37)) := ⟨_, rfl⟩
  have xa : wa.cell? ⟨w.heap.size, 0, none⟩ = some (.slice (some ad) L.length c) := by rw [hwa]; simp [World.cell?_alloc_mark]
  have qa : Below w.heap.size w wa := by rw [hwa]; (exact bl)
  have za := Below.size qa
  have ya : wa.cell? ⟨w.heap.size + 1, 3, none⟩ = some (.slice K0 M kc0) := by rw [hwa]; simp [World.cell?_alloc_mark]
  have yk : wa.cell? ⟨w.heap.size + 1, 0, none⟩ = some (.int .i64 48) := by rw [hwa]; simp [World.cell?_alloc_mark]
  rw [← hwa]
  clear hwa
  go_wp2_with (first
    | (go_at_call 91; (with_reducible refine (HCr0.out wa qa).mono ?_); rintro e wr0 ⟨rfl, br0⟩; have qr0 := qa.trans (br0.mono qa.size); have zr0 := Below.size qr0; have xr0 : wr0.cell? ⟨w.heap.size, 0, none⟩ = some (.slice (some ad) L.length c) := (br0.cell (p := ⟨w.heap.size, 0, none⟩) (World.block_lt_of_cell? wa _ xa)).trans xa)
    | fail)
  all_goals go_ret
  all_goals (refine ⟨ret_bool ?_, (by (exact bl))⟩; first | rfl | (simp [*]; done) | ((try simp only [beq_iff_eq, beq_eq_false_iff_ne, bne_iff_ne, bne_eq_false_iff_eq, ne_eq, decide_eq_true_eq, decide_eq_false_iff_not, Bool.and_eq_true, Bool.or_eq_true, Bool.not_eq_true, Bool.not_eq_false, Bool.false_eq_true, Decidable.not_not, Bool.not_eq_eq_eq_not, Bool.not_true, Bool.not_false] at *); simp_all; done))
set_option maxRecDepth 100000 in
set_option maxHeartbeats 8000000 in
theorem decls_49 (A : Option Addr) (L : List Nd) (c i : Nat) (w : World) (h : TreeAt w w.heap.size A L) (hc : L.length ≤ c) (hm : c ≤ maxLen) (hL : L.length ≤ 1000000000000) (hi : i < L.length) (hk : (nd L i).k = 49) : Calls Tryz.prog 80 #[.agg #[.slice A L.length c], .int .i64 (i : Int)] w fun e w' => e = .returned (.bool (declsB L (nd L i))) ∧ Below w.heap.size w w' := by
  have hT := Lib.hid h
  have hm2 := Lib.hid hm
  obtain ⟨ad, rfl, hn⟩ := h i hi
  have hb2 := hn.blk
  have hb1 : ad.block < w.heap.size := (by rw [block_add] at hb2; exact hb2)
  obtain ⟨K0, kc0, c0, c1, c2, c3, c4, hK0, hkk, hkm⟩ := node_open hn
  have HCr0 := Lib.hid (fun W (hb : Below w.heap.size w W) => each_any (some ad) L c i W (h.later hb) hc hm hi 1002 50)
  have H := Lib.hid (show declsB L (nd L i) = ((eachB L (nd L i).ks 1002 50)) by unfold declsB; rw [hk]; rfl)
  rw [H.out]
  clear H h hn
  generalize eachB L (nd L i).ks 1002 50 = r0 at *
  generalize nd L i = y at *
  obtain ⟨k, x, m, ks, p⟩ := y
  simp only at hk c0 c1 c2 c3 c4 hkk hK0 ⊢
  subst hk
  have hKK := Lib.hid hK0
  clear hK0
  unfold maxLen at hm hkm
  generalize hM : ks.length = M at *
  have HM := Lib.hid hM
  clear hM
  go_enter Tryz.func80, Tryz.ntmps80
  go_upto_region 2 with fail
  obtain ⟨wa, hwa⟩ : ∃ wa : World, wa = ((w.alloc (.cells #[.slice (some ad) L.length c] 24)).alloc (.cells #[.int .i64 49, .string x, .int .i64 m, .slice K0 M kc0, .int .i64 p] 37)) := ⟨_, rfl⟩
  have xa : wa.cell? ⟨w.heap.size, 0, none⟩ = some (.slice (some ad) L.length c) := by rw [hwa]; simp [World.cell?_alloc_mark]
  have qa : Below w.heap.size w wa := by rw [hwa]; (exact bl)
  have za := Below.size qa
  have ya : wa.cell? ⟨w.heap.size + 1, 3, none⟩ = some (.slice K0 M kc0) := by rw [hwa]; simp [World.cell?_alloc_mark]
  have yk : wa.cell? ⟨w.heap.size + 1, 0, none⟩ = some (.int .i64 49) := by rw [hwa]; simp [World.cell?_alloc_mark]
  rw [← hwa]
  clear hwa
  go_wp2_with (first
    | (go_at_call 92; (with_reducible refine (HCr0.out wa qa).mono ?_); rintro e wr0 ⟨rfl, br0⟩; have qr0 := qa.trans (br0.mono qa.size); have zr0 := Below.size qr0; have xr0 : wr0.cell? ⟨w.heap.size, 0, none⟩ = some (.slice (some ad) L.length c) := (br0.cell (p := ⟨w.heap.size, 0, none⟩) (World.block_lt_of_cell? wa _ xa)).trans xa)
    | fail)
  all_goals go_ret
  all_goals (refine ⟨ret_bool ?_, (by (exact bl))⟩; first | rfl | (simp [*]; done) | ((try simp only [beq_iff_eq, beq_eq_false_iff_ne, bne_iff_ne, bne_eq_false_iff_eq, ne_eq, decide_eq_true_eq, decide_eq_false_iff_not, Bool.and_eq_true, Bool.or_eq_true, Bool.not_eq_true, Bool.not_eq_false, Bool.false_eq_true, Decidable.not_not, Bool.not_eq_eq_eq_not, Bool.not_true, Bool.not_false] at *); simp_all; done))
set_option maxRecDepth 100000 in
set_option maxHeartbeats 8000000 in
theorem decls_50 (A : Option Addr) (L : List Nd) (c i : Nat) (w : World) (h : TreeAt w w.heap.size A L) (hc : L.length ≤ c) (hm : c ≤ maxLen) (hL : L.length ≤ 1000000000000) (hi : i < L.length) (hk : (nd L i).k = 50) : Calls Tryz.prog 80 #[.agg #[.slice A L.length c], .int .i64 (i : Int)] w fun e w' => e = .returned (.bool (declsB L (nd L i))) ∧ Below w.heap.size w w' := by
  have hT := Lib.hid h
  have hm2 := Lib.hid hm
  obtain ⟨ad, rfl, hn⟩ := h i hi
  have hb2 := hn.blk
  have hb1 : ad.block < w.heap.size := (by rw [block_add] at hb2; exact hb2)
  obtain ⟨K0, kc0, c0, c1, c2, c3, c4, hK0, hkk, hkm⟩ := node_open hn
  have HCv0 := Lib.hid (fun W (hb : Below w.heap.size w W) => kid_lit (some ad) L c i W (h.later hb) hc hm hi 0 0 rfl (by decide))
  have H := Lib.hid (show declsB L (nd L i) = (decide ((nd L i).ks.length = 1) && expK (kidB L (nd L i) 0)) by unfold declsB; rw [hk]; rfl)
  rw [H.out]
  clear H h hn
  generalize kidB L (nd L i) 0 = y0 at *
  generalize nd L i = y at *
  obtain ⟨k, x, m, ks, p⟩ := y
  simp only at hk c0 c1 c2 c3 c4 hkk hK0 ⊢
  subst hk
  have hKK := Lib.hid hK0
  clear hK0
  unfold maxLen at hm hkm
  generalize hM : ks.length = M at *
  have HM := Lib.hid hM
  clear hM
  go_enter Tryz.func80, Tryz.ntmps80
  go_upto_region 2 with fail
  obtain ⟨wa, hwa⟩ : ∃ wa : World, wa = ((w.alloc (.cells #[.slice (some ad) L.length c] 24)).alloc (.cells #[.int .i64 50, .string x, .int .i64 m, .slice K0 M kc0, .int .i64 p] 37)) := ⟨_, rfl⟩
  have xa : wa.cell? ⟨w.heap.size, 0, none⟩ = some (.slice (some ad) L.length c) := by rw [hwa]; simp [World.cell?_alloc_mark]
  have qa : Below w.heap.size w wa := by rw [hwa]; (exact bl)
  have za := Below.size qa
  have ya : wa.cell? ⟨w.heap.size + 1, 3, none⟩ = some (.slice K0 M kc0) := by rw [hwa]; simp [World.cell?_alloc_mark]
  have yk : wa.cell? ⟨w.heap.size + 1, 0, none⟩ = some (.int .i64 50) := by rw [hwa]; simp [World.cell?_alloc_mark]
  rw [← hwa]
  clear hwa
  go_wp2_with (first
    | (go_at_call 93; (with_reducible refine (HCv0.out wa qa).mono ?_); rintro e wv0 ⟨⟨Kv0, kcv0, rfl, _, _, _⟩, bv0⟩; unfold nodeV; have qv0 := qa.trans (bv0.mono qa.size); have zv0 := Below.size qv0; have xv0 : wv0.cell? ⟨w.heap.size, 0, none⟩ = some (.slice (some ad) L.length c) := (bv0.cell (p := ⟨w.heap.size, 0, none⟩) (World.block_lt_of_cell? wa _ xa)).trans xa)
    | (go_at_call 97; (with_reducible refine (rExported_any y0 _ _ _ wv0).mono ?_); rintro e wv1 ⟨rfl, bv1⟩; have qv1 := qv0.trans (bv1.mono qv0.size); have zv1 := Below.size qv1; have xv1 : wv1.cell? ⟨w.heap.size, 0, none⟩ = some (.slice (some ad) L.length c) := (bv1.cell (p := ⟨w.heap.size, 0, none⟩) (World.block_lt_of_cell? wv0 _ xv0)).trans xv0)
    | fail)
  all_goals go_ret
  all_goals (refine ⟨ret_bool ?_, (by (exact bl))⟩; first | rfl | (simp [*]; done) | ((try simp only [beq_iff_eq, beq_eq_false_iff_ne, bne_iff_ne, bne_eq_false_iff_eq, ne_eq, decide_eq_true_eq, decide_eq_false_iff_not, Bool.and_eq_true, Bool.or_eq_true, Bool.not_eq_true, Bool.not_eq_false, Bool.false_eq_true, Decidable.not_not, Bool.not_eq_eq_eq_not, Bool.not_true, Bool.not_false] at *); simp_all; done) | ((first | rw [show decide (M = 1) = true from decide_eq_true (by omega)] | rw [show decide (M = 1) = false from decide_eq_false (by omega)]); first | rfl | (simp [*]; done) | ((try simp only [beq_iff_eq, beq_eq_false_iff_ne, bne_iff_ne, bne_eq_false_iff_eq, ne_eq, decide_eq_true_eq, decide_eq_false_iff_not, Bool.and_eq_true, Bool.or_eq_true, Bool.not_eq_true, Bool.not_eq_false, Bool.false_eq_true, Decidable.not_not, Bool.not_eq_eq_eq_not, Bool.not_true, Bool.not_false] at *); simp_all; done)))
set_option maxRecDepth 100000 in
set_option maxHeartbeats 8000000 in
theorem decls_51 (A : Option Addr) (L : List Nd) (c i : Nat) (w : World) (h : TreeAt w w.heap.size A L) (hc : L.length ≤ c) (hm : c ≤ maxLen) (hL : L.length ≤ 1000000000000) (hi : i < L.length) (hk : (nd L i).k = 51) : Calls Tryz.prog 80 #[.agg #[.slice A L.length c], .int .i64 (i : Int)] w fun e w' => e = .returned (.bool (declsB L (nd L i))) ∧ Below w.heap.size w w' := by
  have hT := Lib.hid h
  have hm2 := Lib.hid hm
  obtain ⟨ad, rfl, hn⟩ := h i hi
  have hb2 := hn.blk
  have hb1 : ad.block < w.heap.size := (by rw [block_add] at hb2; exact hb2)
  obtain ⟨K0, kc0, c0, c1, c2, c3, c4, hK0, hkk, hkm⟩ := node_open hn
  have HCr0 := Lib.hid (fun W (hb : Below w.heap.size w W) => row_lit (some ad) L c i W (h.later hb) hc hm hi [2, 2, 84] 3 #[.int .i64 2, .int .i64 2, .int .i64 84] rfl (by decide) (by decide) rfl)
  have HCr1 := Lib.hid (fun W (hb : Below w.heap.size w W) => list_at (some ad) L c i W (h.later hb) hc hm hi 0 0 rfl (by decide) 67)
  have HCr2 := Lib.hid (fun W (hb : Below w.heap.size w W) => list_at (some ad) L c i W (h.later hb) hc hm hi 1 1 rfl (by decide) 80)
  have H := Lib.hid (show declsB L (nd L i) = ((rowB L (nd L i).ks [2, 2, 84]) && (listB L (nd L i) 0 67) && (listB L (nd L i) 1 80)) by unfold declsB; rw [hk]; rfl)
  rw [H.out]
  clear H h hn
  generalize rowB L (nd L i).ks [2, 2, 84] = r0 at *
  generalize listB L (nd L i) 0 67 = r1 at *
  generalize listB L (nd L i) 1 80 = r2 at *
  generalize nd L i = y at *
  obtain ⟨k, x, m, ks, p⟩ := y
  simp only at hk c0 c1 c2 c3 c4 hkk hK0 ⊢
  subst hk
  have hKK := Lib.hid hK0
  clear hK0
  unfold maxLen at hm hkm
  generalize hM : ks.length = M at *
  have HM := Lib.hid hM
  clear hM
  go_enter Tryz.func80, Tryz.ntmps80
  go_upto_region 2 with fail
  obtain ⟨wa, hwa⟩ : ∃ wa : World, wa = ((w.alloc (.cells #[.slice (some ad) L.length c] 24)).alloc (.cells #[.int .i64 51, .string x, .int .i64 m, .slice K0 M kc0, .int .i64 p] 37)) := ⟨_, rfl⟩
  have xa : wa.cell? ⟨w.heap.size, 0, none⟩ = some (.slice (some ad) L.length c) := by rw [hwa]; simp [World.cell?_alloc_mark]
  have qa : Below w.heap.size w wa := by rw [hwa]; (exact bl)
  have za := Below.size qa
  have ya : wa.cell? ⟨w.heap.size + 1, 3, none⟩ = some (.slice K0 M kc0) := by rw [hwa]; simp [World.cell?_alloc_mark]
  have yk : wa.cell? ⟨w.heap.size + 1, 0, none⟩ = some (.int .i64 51) := by rw [hwa]; simp [World.cell?_alloc_mark]
  rw [← hwa]
  clear hwa
  go_wp2_with (first
    | (go_at_call 91; (with_reducible refine (HCr0.out wa qa).mono ?_); rintro e wr0 ⟨rfl, br0⟩; have qr0 := qa.trans (br0.mono qa.size); have zr0 := Below.size qr0; have xr0 : wr0.cell? ⟨w.heap.size, 0, none⟩ = some (.slice (some ad) L.length c) := (br0.cell (p := ⟨w.heap.size, 0, none⟩) (World.block_lt_of_cell? wa _ xa)).trans xa)
    | (go_at_call 90; (with_reducible refine (HCr1.out wr0 qr0).mono ?_); rintro e wr1 ⟨rfl, br1⟩; have qr1 := qr0.trans (br1.mono qr0.size); have zr1 := Below.size qr1; have xr1 : wr1.cell? ⟨w.heap.size, 0, none⟩ = some (.slice (some ad) L.length c) := (br1.cell (p := ⟨w.heap.size, 0, none⟩) (World.block_lt_of_cell? wr0 _ xr0)).trans xr0)
    | (go_at_call 90; (with_reducible refine (HCr2.out wr1 qr1).mono ?_); rintro e wr2 ⟨rfl, br2⟩; have qr2 := qr1.trans (br2.mono qr1.size); have zr2 := Below.size qr2; have xr2 : wr2.cell? ⟨w.heap.size, 0, none⟩ = some (.slice (some ad) L.length c) := (br2.cell (p := ⟨w.heap.size, 0, none⟩) (World.block_lt_of_cell? wr1 _ xr1)).trans xr1)
    | fail)
  all_goals go_ret
  all_goals (refine ⟨ret_bool ?_, (by (exact bl))⟩; first | rfl | (simp [*]; done) | ((try simp only [beq_iff_eq, beq_eq_false_iff_ne, bne_iff_ne, bne_eq_false_iff_eq, ne_eq, decide_eq_true_eq, decide_eq_false_iff_not, Bool.and_eq_true, Bool.or_eq_true, Bool.not_eq_true, Bool.not_eq_false, Bool.false_eq_true, Decidable.not_not, Bool.not_eq_eq_eq_not, Bool.not_true, Bool.not_false] at *); simp_all; done))
set_option maxRecDepth 100000 in
set_option maxHeartbeats 8000000 in
theorem decls_52 (A : Option Addr) (L : List Nd) (c i : Nat) (w : World) (h : TreeAt w w.heap.size A L) (hc : L.length ≤ c) (hm : c ≤ maxLen) (hL : L.length ≤ 1000000000000) (hi : i < L.length) (hk : (nd L i).k = 52) : Calls Tryz.prog 80 #[.agg #[.slice A L.length c], .int .i64 (i : Int)] w fun e w' => e = .returned (.bool (declsB L (nd L i))) ∧ Below w.heap.size w w' := by
  have hT := Lib.hid h
  have hm2 := Lib.hid hm
  obtain ⟨ad, rfl, hn⟩ := h i hi
  have hb2 := hn.blk
  have hb1 : ad.block < w.heap.size := (by rw [block_add] at hb2; exact hb2)
  obtain ⟨K0, kc0, c0, c1, c2, c3, c4, hK0, hkk, hkm⟩ := node_open hn
  have HCr0 := Lib.hid (fun W (hb : Below w.heap.size w W) => row_lit (some ad) L c i W (h.later hb) hc hm hi [2, 1001] 2 #[.int .i64 2, .int .i64 1001] rfl (by decide) (by decide) rfl)
  have HCr1 := Lib.hid (fun W (hb : Below w.heap.size w W) => list_at (some ad) L c i W (h.later hb) hc hm hi 0 0 rfl (by decide) 67)
  have H := Lib.hid (show declsB L (nd L i) = ((rowB L (nd L i).ks [2, 1001]) && (listB L (nd L i) 0 67)) by unfold declsB; rw [hk]; rfl)
  rw [H.out]
  clear H h hn
  generalize rowB L (nd L i).ks [2, 1001] = r0 at *
  generalize listB L (nd L i) 0 67 = r1 at *
  generalize nd L i = y at *
  obtain ⟨k, x, m, ks, p⟩ := y
  simp only at hk c0 c1 c2 c3 c4 hkk hK0 ⊢
  subst hk
  have hKK := Lib.hid hK0
  clear hK0
  unfold maxLen at hm hkm
  generalize hM : ks.length = M at *
  have HM := Lib.hid hM
  clear hM
  go_enter Tryz.func80, Tryz.ntmps80
  go_upto_region 2 with fail
  obtain ⟨wa, hwa⟩ : ∃ wa : World, wa = ((w.alloc (.cells #[.slice (some ad) L.length c] 24)).alloc (.cells #[.int .i64 52, .string x, .int .i64 m, .slice K0 M kc0, .int .i64 p] 37)) := ⟨_, rfl⟩
  have xa : wa.cell? ⟨w.heap.size, 0, none⟩ = some (.slice (some ad) L.length c) := by rw [hwa]; simp [World.cell?_alloc_mark]
  have qa : Below w.heap.size w wa := by rw [hwa]; (exact bl)
  have za := Below.size qa
  have ya : wa.cell? ⟨w.heap.size + 1, 3, none⟩ = some (.slice K0 M kc0) := by rw [hwa]; simp [World.cell?_alloc_mark]
  have yk : wa.cell? ⟨w.heap.size + 1, 0, none⟩ = some (.int .i64 52) := by rw [hwa]; simp [World.cell?_alloc_mark]
  rw [← hwa]
  clear hwa
  go_wp2_with (first
    | (go_at_call 91; (with_reducible refine (HCr0.out wa qa).mono ?_); rintro e wr0 ⟨rfl, br0⟩; have qr0 := qa.trans (br0.mono qa.size); have zr0 := Below.size qr0; have xr0 : wr0.cell? ⟨w.heap.size, 0, none⟩ = some (.slice (some ad) L.length c) := (br0.cell (p := ⟨w.heap.size, 0, none⟩) (World.block_lt_of_cell? wa _ xa)).trans xa)
    | (go_at_call 90; (with_reducible refine (HCr1.out wr0 qr0).mono ?_); rintro e wr1 ⟨rfl, br1⟩; have qr1 := qr0.trans (br1.mono qr0.size); have zr1 := Below.size qr1; have xr1 : wr1.cell? ⟨w.heap.size, 0, none⟩ = some (.slice (some ad) L.length c) := (br1.cell (p := ⟨w.heap.size, 0, none⟩) (World.block_lt_of_cell? wr0 _ xr0)).trans xr0)
    | fail)
  all_goals go_ret
  all_goals (refine ⟨ret_bool ?_, (by (exact bl))⟩; first | rfl | (simp [*]; done) | ((try simp only [beq_iff_eq, beq_eq_false_iff_ne, bne_iff_ne, bne_eq_false_iff_eq, ne_eq, decide_eq_true_eq, decide_eq_false_iff_not, Bool.and_eq_true, Bool.or_eq_true, Bool.not_eq_true, Bool.not_eq_false, Bool.false_eq_true, Decidable.not_not, Bool.not_eq_eq_eq_not, Bool.not_true, Bool.not_false] at *); simp_all; done))
set_option maxRecDepth 100000 in
set_option maxHeartbeats 8000000 in
theorem decls_66 (A : Option Addr) (L : List Nd) (c i : Nat) (w : World) (h : TreeAt w w.heap.size A L) (hc : L.length ≤ c) (hm : c ≤ maxLen) (hL : L.length ≤ 1000000000000) (hi : i < L.length) (hk : (nd L i).k = 66) : Calls Tryz.prog 80 #[.agg #[.slice A L.length c], .int .i64 (i : Int)] w fun e w' => e = .returned (.bool (declsB L (nd L i))) ∧ Below w.heap.size w w' := by
  have hT := Lib.hid h
  have hm2 := Lib.hid hm
  obtain ⟨ad, rfl, hn⟩ := h i hi
  have hb2 := hn.blk
  have hb1 : ad.block < w.heap.size := (by rw [block_add] at hb2; exact hb2)
  obtain ⟨K0, kc0, c0, c1, c2, c3, c4, hK0, hkk, hkm⟩ := node_open hn
  have HCr0 := Lib.hid (fun W (hb : Below w.heap.size w W) => row_lit (some ad) L c i W (h.later hb) hc hm hi [-1001] 1 #[.int .i64 (-1001)] rfl (by decide) (by decide) rfl)
  have H := Lib.hid (show declsB L (nd L i) = ((rowB L (nd L i).ks [-1001])) by unfold declsB; rw [hk]; rfl)
  rw [H.out]
  clear H h hn
  generalize rowB L (nd L i).ks [-1001] = r0 at *
  generalize nd L i = y at *
  obtain ⟨k, x, m, ks, p⟩ := y
  simp only at hk c0 c1 c2 c3 c4 hkk hK0 ⊢
  subst hk
  have hKK := Lib.hid hK0
  clear hK0
  unfold maxLen at hm hkm
  generalize hM : ks.length = M at *
  have HM := Lib.hid hM
  clear hM
  go_enter Tryz.func80, Tryz.ntmps80
  go_upto_region 2 with fail
  obtain ⟨wa, hwa⟩ : ∃ wa : World, wa = ((w.alloc (.cells #[.slice (some ad) L.length c] 24)).alloc (.cells #[.int .i64 66, .string x, .int .i64 m, .slice K0 M kc0, .int .i64 p] 37)) := ⟨_, rfl⟩
  have xa : wa.cell? ⟨w.heap.size, 0, none⟩ = some (.slice (some ad) L.length c) := by rw [hwa]; simp [World.cell?_alloc_mark]
  have qa : Below w.heap.size w wa := by rw [hwa]; (exact bl)
  have za := Below.size qa
  have ya : wa.cell? ⟨w.heap.size + 1, 3, none⟩ = some (.slice K0 M kc0) := by rw [hwa]; simp [World.cell?_alloc_mark]
  have yk : wa.cell? ⟨w.heap.size + 1, 0, none⟩ = some (.int .i64 66) := by rw [hwa]; simp [World.cell?_alloc_mark]
  rw [← hwa]
  clear hwa
  go_wp2_with (first
    | (go_at_call 91; (with_reducible refine (HCr0.out wa qa).mono ?_); rintro e wr0 ⟨rfl, br0⟩; have qr0 := qa.trans (br0.mono qa.size); have zr0 := Below.size qr0; have xr0 : wr0.cell? ⟨w.heap.size, 0, none⟩ = some (.slice (some ad) L.length c) := (br0.cell (p := ⟨w.heap.size, 0, none⟩) (World.block_lt_of_cell? wa _ xa)).trans xa)
    | fail)
  all_goals go_ret
  all_goals (refine ⟨ret_bool ?_, (by (exact bl))⟩; first | rfl | (simp [*]; done) | ((try simp only [beq_iff_eq, beq_eq_false_iff_ne, bne_iff_ne, bne_eq_false_iff_eq, ne_eq, decide_eq_true_eq, decide_eq_false_iff_not, Bool.and_eq_true, Bool.or_eq_true, Bool.not_eq_true, Bool.not_eq_false, Bool.false_eq_true, Decidable.not_not, Bool.not_eq_eq_eq_not, Bool.not_true, Bool.not_false] at *); simp_all; done))
set_option maxRecDepth 100000 in
set_option maxHeartbeats 8000000 in
theorem decls_67 (A : Option Addr) (L : List Nd) (c i : Nat) (w : World) (h : TreeAt w w.heap.size A L) (hc : L.length ≤ c) (hm : c ≤ maxLen) (hL : L.length ≤ 1000000000000) (hi : i < L.length) (hk : (nd L i).k = 67) : Calls Tryz.prog 80 #[.agg #[.slice A L.length c], .int .i64 (i : Int)] w fun e w' => e = .returned (.bool (declsB L (nd L i))) ∧ Below w.heap.size w w' := by
  have hT := Lib.hid h
  have hm2 := Lib.hid hm
  obtain ⟨ad, rfl, hn⟩ := h i hi
  have hb2 := hn.blk
  have hb1 : ad.block < w.heap.size := (by rw [block_add] at hb2; exact hb2)
  obtain ⟨K0, kc0, c0, c1, c2, c3, c4, hK0, hkk, hkm⟩ := node_open hn
  have H := Lib.hid (show declsB L (nd L i) = (decide ((nd L i).ks.length = 0)) by unfold declsB; rw [hk]; rfl)
  rw [H.out]
  clear H h hn
  generalize nd L i = y at *
  obtain ⟨k, x, m, ks, p⟩ := y
  simp only at hk c0 c1 c2 c3 c4 hkk hK0 ⊢
  subst hk
  have hKK := Lib.hid hK0
  clear hK0
  unfold maxLen at hm hkm
  generalize hM : ks.length = M at *
  have HM := Lib.hid hM
  clear hM
  go_enter Tryz.func80, Tryz.ntmps80
  go_upto_region 2 with fail
  obtain ⟨wa, hwa⟩ : ∃ wa : World, wa = ((w.alloc (.cells #[.slice (some ad) L.length c] 24)).alloc (.cells #[.int .i64 67, .string x, .int .i64 m, .slice K0 M kc0, .int .i64 p] 37)) := ⟨_, rfl⟩
  have xa : wa.cell? ⟨w.heap.size, 0, none⟩ = some (.slice (some ad) L.length c) := by rw [hwa]; simp [World.cell?_alloc_mark]
  have qa : Below w.heap.size w wa := by rw [hwa]; (exact bl)
  have za := Below.size qa
  have ya : wa.cell? ⟨w.heap.size + 1, 3, none⟩ = some (.slice K0 M kc0) := by rw [hwa]; simp [World.cell?_alloc_mark]
  have yk : wa.cell? ⟨w.heap.size + 1, 0, none⟩ = some (.int .i64 67) := by rw [hwa]; simp [World.cell?_alloc_mark]
  rw [← hwa]
  clear hwa
  go_wp2
  all_goals go_ret
  all_goals exact ⟨ret_bool (by rw [Bool.eq_iff_iff]; simp <;> omega), (by (exact bl))⟩
theorem decls_any (A : Option Addr) (L : List Nd) (c i : Nat) (w : World) (h : TreeAt w w.heap.size A L) (hc : L.length ≤ c) (hm : c ≤ maxLen) (hL : L.length ≤ 1000000000000) (hi : i < L.length) (hk : (40 ≤ (nd L i).k ∧ (nd L i).k ≤ 52) ∨ (nd L i).k = 66 ∨ (nd L i).k = 67) : Calls Tryz.prog 80 #[.agg #[.slice A L.length c], .int .i64 (i : Int)] w fun e w' => e = .returned (.bool (declsB L (nd L i))) ∧ Below w.heap.size w w' := by
  have h2 : (nd L i).k = 40 ∨ (nd L i).k = 41 ∨ (nd L i).k = 45 ∨ (nd L i).k = 42 ∨ (nd L i).k = 43 ∨ (nd L i).k = 44 ∨ (nd L i).k = 46 ∨ (nd L i).k = 47 ∨ (nd L i).k = 48 ∨ (nd L i).k = 49 ∨ (nd L i).k = 50 ∨ (nd L i).k = 51 ∨ (nd L i).k = 52 ∨ (nd L i).k = 66 ∨ (nd L i).k = 67 := by omega
  rcases h2 with h2 | h2 | h2 | h2 | h2 | h2 | h2 | h2 | h2 | h2 | h2 | h2 | h2 | h2 | h2
  · exact decls_40 A L c i w h hc hm hL hi h2
  · exact decls_41 A L c i w h hc hm hL hi h2
  · exact decls_45 A L c i w h hc hm hL hi h2
  · exact decls_42 A L c i w h hc hm hL hi h2
  · exact decls_43 A L c i w h hc hm hL hi h2
  · exact decls_44 A L c i w h hc hm hL hi h2
  · exact decls_46 A L c i w h hc hm hL hi h2
  · exact decls_47 A L c i w h hc hm hL hi h2
  · exact decls_48 A L c i w h hc hm hL hi h2
  · exact decls_49 A L c i w h hc hm hL hi h2
  · exact decls_50 A L c i w h hc hm hL hi h2
  · exact decls_51 A L c i w h hc hm hL hi h2
  · exact decls_52 A L c i w h hc hm hL hi h2
  · exact decls_66 A L c i w h hc hm hL hi h2
  · exact decls_67 A L c i w h hc hm hL hi h2
end Go.Proofs.YtpkdhciokiomlaaGreatDoor
