/- The walks of the reference's types and stmts, kind for kind (printed by genrk.py). -/
import Derived.Test.YtpkdhciokiomlaaGreatDoorHBZ19
namespace Go.Proofs.YtpkdhciokiomlaaGreatDoor
set_option linter.unusedVariables false
set_option linter.unusedSimpArgs false
set_option linter.unnecessarySimpa false
open Go.RowKit
attribute [local go_sem] cell_alloc_add cell_set_add lt_more fld0 fld2
set_option maxRecDepth 100000 in
set_option maxHeartbeats 8000000 in
theorem types_80 (A : Option Addr) (L : List Nd) (c i : Nat) (w : World) (h : TreeAt w w.heap.size A L) (hc : L.length ≤ c) (hm : c ≤ maxLen) (hL : L.length ≤ 1000000000000) (hi : i < L.length) (hk : (nd L i).k = 80) : Calls Tryz.prog 78 #[.agg #[.slice A L.length c], .int .i64 (i : Int)] w fun e w' => e = .returned (.bool (typesB L (nd L i))) ∧ Below w.heap.size w w' := by
  have hT := Lib.hid h
  have hm2 := Lib.hid hm
  obtain ⟨ad, rfl, hn⟩ := h i hi
  have hb2 := hn.blk
  have hb1 : ad.block < w.heap.size := (by rw [block_add] at hb2; exact hb2)
  obtain ⟨K0, kc0, c0, c1, c2, c3, c4, hK0, hkk, hkm⟩ := node_open hn
  have HCr0 := Lib.hid (fun W (hb : Below w.heap.size w W) => list_at (some ad) L c i W (h.later hb) hc hm hi 0 0 rfl (by decide) 1001)
  have H := Lib.hid (show typesB L (nd L i) = (decide ((nd L i).ks.length = 1) && (listB L (nd L i) 0 1001)) by unfold typesB; rw [hk]; rfl)
  rw [H.out]
  clear H h hn
  generalize listB L (nd L i) 0 1001 = r0 at *
  generalize nd L i = y at *
  obtain ⟨k, x, m, ks, p⟩ := y
  simp only at hk c0 c1 c2 c3 c4 hkk hK0 ⊢
  subst hk
  have hKK := Lib.hid hK0
  clear hK0
  unfold maxLen at hm hkm
  generalize hM : ks.length = M at *
  have HM := Lib.hid hM
  clear hM
  go_enter Tryz.func78, Tryz.ntmps78
  go_upto_region 2 with fail
  obtain ⟨wa, hwa⟩ : ∃ wa : World, wa = ((w.alloc (.cells #[.slice (some ad) L.length c] 24)).alloc (.cells #[.int .i64 80, .string x, .int .i64 m, .slice K0 M kc0, .int .i64 p] 37)) := ⟨_, rfl⟩
  have xa : wa.cell? ⟨w.heap.size, 0, none⟩ = some (.slice (some ad) L.length c) := by rw [hwa]; simp [World.cell?_alloc_mark]
  have qa : Below w.heap.size w wa := by rw [hwa]; (exact bl)
  have za := Below.size qa
  have ya : wa.cell? ⟨w.heap.size + 1, 3, none⟩ = some (.slice K0 M kc0) := by rw [hwa]; simp [World.cell?_alloc_mark]
  have yk : wa.cell? ⟨w.heap.size + 1, 0, none⟩ = some (.int .i64 80) := by rw [hwa]; simp [World.cell?_alloc_mark]
  rw [← hwa]
  clear hwa
  go_wp2_with (first
    | (go_at_call 90; (with_reducible refine (HCr0.out wa qa).mono ?_); rintro e wr0 ⟨rfl, br0⟩; have qr0 := qa.trans (br0.mono qa.size); have zr0 := Below.size qr0; have xr0 : wr0.cell? ⟨w.heap.size, 0, none⟩ = some (.slice (some ad) L.length c) := (br0.cell (p := ⟨w.heap.size, 0, none⟩) (World.block_lt_of_cell? wa _ xa)).trans xa)
    | fail)
  all_goals go_ret
  all_goals (refine ⟨ret_bool ?_, (by (exact bl))⟩; first | rfl | (simp [*]; done) | ((try simp only [beq_iff_eq, beq_eq_false_iff_ne, bne_iff_ne, bne_eq_false_iff_eq, ne_eq, decide_eq_true_eq, decide_eq_false_iff_not, Bool.and_eq_true, Bool.or_eq_true, Bool.not_eq_true, Bool.not_eq_false, Bool.false_eq_true, Decidable.not_not, Bool.not_eq_eq_eq_not, Bool.not_true, Bool.not_false] at *); simp_all; done) | ((first | rw [show decide (M = 1) = true from decide_eq_true (by omega)] | rw [show decide (M = 1) = false from decide_eq_false (by omega)]); first | rfl | (simp [*]; done) | ((try simp only [beq_iff_eq, beq_eq_false_iff_ne, bne_iff_ne, bne_eq_false_iff_eq, ne_eq, decide_eq_true_eq, decide_eq_false_iff_not, Bool.and_eq_true, Bool.or_eq_true, Bool.not_eq_true, Bool.not_eq_false, Bool.false_eq_true, Decidable.not_not, Bool.not_eq_eq_eq_not, Bool.not_true, Bool.not_false] at *); simp_all; done)))
set_option maxRecDepth 100000 in
set_option maxHeartbeats 8000000 in
theorem types_81 (A : Option Addr) (L : List Nd) (c i : Nat) (w : World) (h : TreeAt w w.heap.size A L) (hc : L.length ≤ c) (hm : c ≤ maxLen) (hL : L.length ≤ 1000000000000) (hi : i < L.length) (hk : (nd L i).k = 81) : Calls Tryz.prog 78 #[.agg #[.slice A L.length c], .int .i64 (i : Int)] w fun e w' => e = .returned (.bool (typesB L (nd L i))) ∧ Below w.heap.size w w' := by
  have hT := Lib.hid h
  have hm2 := Lib.hid hm
  obtain ⟨ad, rfl, hn⟩ := h i hi
  have hb2 := hn.blk
  have hb1 : ad.block < w.heap.size := (by rw [block_add] at hb2; exact hb2)
  obtain ⟨K0, kc0, c0, c1, c2, c3, c4, hK0, hkk, hkm⟩ := node_open hn
  have H := Lib.hid (show typesB L (nd L i) = (decide ((nd L i).ks.length = 0)) by unfold typesB; rw [hk]; rfl)
  rw [H.out]
  clear H h hn
  generalize nd L i = y at *
  obtain ⟨k, x, m, ks, p⟩ := y
  simp only at hk c0 c1 c2 c3 c4 hkk hK0 ⊢
  subst hk
  have hKK := Lib.hid hK0
  clear hK0
  unfold maxLen at hm hkm
  generalize hM : ks.length = M at *
  have HM := Lib.hid hM
  clear hM
  go_enter Tryz.func78, Tryz.ntmps78
  go_upto_region 2 with fail
  obtain ⟨wa, hwa⟩ : ∃ wa : World, wa = ((w.alloc (.cells #[.slice (some ad) L.length c] 24)).alloc (.cells #[.int .i64 81, .string x, .int .i64 m, .slice K0 M kc0, .int .i64 p] 37)) := ⟨_, rfl⟩
  have xa : wa.cell? ⟨w.heap.size, 0, none⟩ = some (.slice (some ad) L.length c) := by rw [hwa]; simp [World.cell?_alloc_mark]
  have qa : Below w.heap.size w wa := by rw [hwa]; (exact bl)
  have za := Below.size qa
  have ya : wa.cell? ⟨w.heap.size + 1, 3, none⟩ = some (.slice K0 M kc0) := by rw [hwa]; simp [World.cell?_alloc_mark]
  have yk : wa.cell? ⟨w.heap.size + 1, 0, none⟩ = some (.int .i64 81) := by rw [hwa]; simp [World.cell?_alloc_mark]
  rw [← hwa]
  clear hwa
  go_wp2
  all_goals go_ret
  all_goals exact ⟨ret_bool (by rw [Bool.eq_iff_iff]; simp <;> omega), (by (exact bl))⟩
set_option maxRecDepth 100000 in
set_option maxHeartbeats 8000000 in
theorem types_82 (A : Option Addr) (L : List Nd) (c i : Nat) (w : World) (h : TreeAt w w.heap.size A L) (hc : L.length ≤ c) (hm : c ≤ maxLen) (hL : L.length ≤ 1000000000000) (hi : i < L.length) (hk : (nd L i).k = 82) : Calls Tryz.prog 78 #[.agg #[.slice A L.length c], .int .i64 (i : Int)] w fun e w' => e = .returned (.bool (typesB L (nd L i))) ∧ Below w.heap.size w w' := by
  have hT := Lib.hid h
  have hm2 := Lib.hid hm
  obtain ⟨ad, rfl, hn⟩ := h i hi
  have hb2 := hn.blk
  have hb1 : ad.block < w.heap.size := (by rw [block_add] at hb2; exact hb2)
  obtain ⟨K0, kc0, c0, c1, c2, c3, c4, hK0, hkk, hkm⟩ := node_open hn
  have H := Lib.hid (show typesB L (nd L i) = (decide ((nd L i).ks.length = 0)) by unfold typesB; rw [hk]; rfl)
  rw [H.out]
  clear H h hn
  generalize nd L i = y at *
  obtain ⟨k, x, m, ks, p⟩ := y
  simp only at hk c0 c1 c2 c3 c4 hkk hK0 ⊢
  subst hk
  have hKK := Lib.hid hK0
  clear hK0
  unfold maxLen at hm hkm
  generalize hM : ks.length = M at *
  have HM := Lib.hid hM
  clear hM
  go_enter Tryz.func78, Tryz.ntmps78
  go_upto_region 2 with fail
  obtain ⟨wa, hwa⟩ : ∃ wa : World, wa = ((w.alloc (.cells #[.slice (some ad) L.length c] 24)).alloc (.cells #[.int .i64 82, .string x, .int .i64 m, .slice K0 M kc0, .int .i64 p] 37)) := ⟨_, rfl⟩
  have xa : wa.cell? ⟨w.heap.size, 0, none⟩ = some (.slice (some ad) L.length c) := by rw [hwa]; simp [World.cell?_alloc_mark]
  have qa : Below w.heap.size w wa := by rw [hwa]; (exact bl)
  have za := Below.size qa
  have ya : wa.cell? ⟨w.heap.size + 1, 3, none⟩ = some (.slice K0 M kc0) := by rw [hwa]; simp [World.cell?_alloc_mark]
  have yk : wa.cell? ⟨w.heap.size + 1, 0, none⟩ = some (.int .i64 82) := by rw [hwa]; simp [World.cell?_alloc_mark]
  rw [← hwa]
  clear hwa
  go_wp2
  all_goals go_ret
  all_goals exact ⟨ret_bool (by rw [Bool.eq_iff_iff]; simp <;> omega), (by (exact bl))⟩
set_option maxRecDepth 100000 in
set_option maxHeartbeats 8000000 in
theorem types_83 (A : Option Addr) (L : List Nd) (c i : Nat) (w : World) (h : TreeAt w w.heap.size A L) (hc : L.length ≤ c) (hm : c ≤ maxLen) (hL : L.length ≤ 1000000000000) (hi : i < L.length) (hk : (nd L i).k = 83) : Calls Tryz.prog 78 #[.agg #[.slice A L.length c], .int .i64 (i : Int)] w fun e w' => e = .returned (.bool (typesB L (nd L i))) ∧ Below w.heap.size w w' := by
  have hT := Lib.hid h
  have hm2 := Lib.hid hm
  obtain ⟨ad, rfl, hn⟩ := h i hi
  have hb2 := hn.blk
  have hb1 : ad.block < w.heap.size := (by rw [block_add] at hb2; exact hb2)
  obtain ⟨K0, kc0, c0, c1, c2, c3, c4, hK0, hkk, hkm⟩ := node_open hn
  have HCr0 := Lib.hid (fun W (hb : Below w.heap.size w W) => row_lit (some ad) L c i W (h.later hb) hc hm hi [1001] 1 #[.int .i64 1001] rfl (by decide) (by decide) rfl)
  have H := Lib.hid (show typesB L (nd L i) = ((rowB L (nd L i).ks [1001])) by unfold typesB; rw [hk]; rfl)
  rw [H.out]
  clear H h hn
  generalize rowB L (nd L i).ks [1001] = r0 at *
  generalize nd L i = y at *
  obtain ⟨k, x, m, ks, p⟩ := y
  simp only at hk c0 c1 c2 c3 c4 hkk hK0 ⊢
  subst hk
  have hKK := Lib.hid hK0
  clear hK0
  unfold maxLen at hm hkm
  generalize hM : ks.length = M at *
  have HM := Lib.hid hM
  clear hM
  go_enter Tryz.func78, Tryz.ntmps78
  go_upto_region 2 with fail
  obtain ⟨wa, hwa⟩ : ∃ wa : World, wa = ((w.alloc (.cells #[.slice (some ad) L.length c] 24)).alloc (.cells #[.int .i64 83, .string x, .int .i64 m, .slice K0 M kc0, .int .i64 p] 37)) := ⟨_, rfl⟩
  have xa : wa.cell? ⟨w.heap.size, 0, none⟩ = some (.slice (some ad) L.length c) := by rw [hwa]; simp [World.cell?_alloc_mark]
  have qa : Below w.heap.size w wa := by rw [hwa]; (exact bl)
  have za := Below.size qa
  have ya : wa.cell? ⟨w.heap.size + 1, 3, none⟩ = some (.slice K0 M kc0) := by rw [hwa]; simp [World.cell?_alloc_mark]
  have yk : wa.cell? ⟨w.heap.size + 1, 0, none⟩ = some (.int .i64 83) := by rw [hwa]; simp [World.cell?_alloc_mark]
  rw [← hwa]
  clear hwa
  go_wp2_with (first
    | (go_at_call 91; (with_reducible refine (HCr0.out wa qa).mono ?_); rintro e wr0 ⟨rfl, br0⟩; have qr0 := qa.trans (br0.mono qa.size); have zr0 := Below.size qr0; have xr0 : wr0.cell? ⟨w.heap.size, 0, none⟩ = some (.slice (some ad) L.length c) := (br0.cell (p := ⟨w.heap.size, 0, none⟩) (World.block_lt_of_cell? wa _ xa)).trans xa)
    | fail)
  all_goals go_ret
  all_goals (refine ⟨ret_bool ?_, (by (exact bl))⟩; first | rfl | (simp [*]; done) | ((try simp only [beq_iff_eq, beq_eq_false_iff_ne, bne_iff_ne, bne_eq_false_iff_eq, ne_eq, decide_eq_true_eq, decide_eq_false_iff_not, Bool.and_eq_true, Bool.or_eq_true, Bool.not_eq_true, Bool.not_eq_false, Bool.false_eq_true, Decidable.not_not, Bool.not_eq_eq_eq_not, Bool.not_true, Bool.not_false] at *); simp_all; done))
set_option maxRecDepth 100000 in
set_option maxHeartbeats 8000000 in
theorem types_85 (A : Option Addr) (L : List Nd) (c i : Nat) (w : World) (h : TreeAt w w.heap.size A L) (hc : L.length ≤ c) (hm : c ≤ maxLen) (hL : L.length ≤ 1000000000000) (hi : i < L.length) (hk : (nd L i).k = 85) : Calls Tryz.prog 78 #[.agg #[.slice A L.length c], .int .i64 (i : Int)] w fun e w' => e = .returned (.bool (typesB L (nd L i))) ∧ Below w.heap.size w w' := by
  have hT := Lib.hid h
  have hm2 := Lib.hid hm
  obtain ⟨ad, rfl, hn⟩ := h i hi
  have hb2 := hn.blk
  have hb1 : ad.block < w.heap.size := (by rw [block_add] at hb2; exact hb2)
  obtain ⟨K0, kc0, c0, c1, c2, c3, c4, hK0, hkk, hkm⟩ := node_open hn
  have HCr0 := Lib.hid (fun W (hb : Below w.heap.size w W) => row_lit (some ad) L c i W (h.later hb) hc hm hi [1001] 1 #[.int .i64 1001] rfl (by decide) (by decide) rfl)
  have H := Lib.hid (show typesB L (nd L i) = ((rowB L (nd L i).ks [1001])) by unfold typesB; rw [hk]; rfl)
  rw [H.out]
  clear H h hn
  generalize rowB L (nd L i).ks [1001] = r0 at *
  generalize nd L i = y at *
  obtain ⟨k, x, m, ks, p⟩ := y
  simp only at hk c0 c1 c2 c3 c4 hkk hK0 ⊢
  subst hk
  have hKK := Lib.hid hK0
  clear hK0
  unfold maxLen at hm hkm
  generalize hM : ks.length = M at *
  have HM := Lib.hid hM
  clear hM
  go_enter Tryz.func78, Tryz.ntmps78
  go_upto_region 2 with fail
  obtain ⟨wa, hwa⟩ : ∃ wa : World, wa = ((w.alloc (.cells #[.slice (some ad) L.length c] 24)).alloc (.cells #[.int .i64 85, .string x, .int .i64 m, .slice K0 M kc0, .int .i64 p] 37)) := ⟨_, rfl⟩
  have xa : wa.cell? ⟨w.heap.size, 0, none⟩ = some (.slice (some ad) L.length c) := by rw [hwa]; simp [World.cell?_alloc_mark]
  have qa : Below w.heap.size w wa := by rw [hwa]; (exact bl)
  have za := Below.size qa
  have ya : wa.cell? ⟨w.heap.size + 1, 3, none⟩ = some (.slice K0 M kc0) := by rw [hwa]; simp [World.cell?_alloc_mark]
  have yk : wa.cell? ⟨w.heap.size + 1, 0, none⟩ = some (.int .i64 85) := by rw [hwa]; simp [World.cell?_alloc_mark]
  rw [← hwa]
  clear hwa
  go_wp2_with (first
    | (go_at_call 91; (with_reducible refine (HCr0.out wa qa).mono ?_); rintro e wr0 ⟨rfl, br0⟩; have qr0 := qa.trans (br0.mono qa.size); have zr0 := Below.size qr0; have xr0 : wr0.cell? ⟨w.heap.size, 0, none⟩ = some (.slice (some ad) L.length c) := (br0.cell (p := ⟨w.heap.size, 0, none⟩) (World.block_lt_of_cell? wa _ xa)).trans xa)
    | fail)
  all_goals go_ret
  all_goals (refine ⟨ret_bool ?_, (by (exact bl))⟩; first | rfl | (simp [*]; done) | ((try simp only [beq_iff_eq, beq_eq_false_iff_ne, bne_iff_ne, bne_eq_false_iff_eq, ne_eq, decide_eq_true_eq, decide_eq_false_iff_not, Bool.and_eq_true, Bool.or_eq_true, Bool.not_eq_true, Bool.not_eq_false, Bool.false_eq_true, Decidable.not_not, Bool.not_eq_eq_eq_not, Bool.not_true, Bool.not_false] at *); simp_all; done))
set_option maxRecDepth 100000 in
set_option maxHeartbeats 8000000 in
theorem types_84 (A : Option Addr) (L : List Nd) (c i : Nat) (w : World) (h : TreeAt w w.heap.size A L) (hc : L.length ≤ c) (hm : c ≤ maxLen) (hL : L.length ≤ 1000000000000) (hi : i < L.length) (hk : (nd L i).k = 84) : Calls Tryz.prog 78 #[.agg #[.slice A L.length c], .int .i64 (i : Int)] w fun e w' => e = .returned (.bool (typesB L (nd L i))) ∧ Below w.heap.size w w' := by
  have hT := Lib.hid h
  have hm2 := Lib.hid hm
  obtain ⟨ad, rfl, hn⟩ := h i hi
  have hb2 := hn.blk
  have hb1 : ad.block < w.heap.size := (by rw [block_add] at hb2; exact hb2)
  obtain ⟨K0, kc0, c0, c1, c2, c3, c4, hK0, hkk, hkm⟩ := node_open hn
  have HCr0 := Lib.hid (fun W (hb : Below w.heap.size w W) => each_any (some ad) L c i W (h.later hb) hc hm hi 85 85)
  have H := Lib.hid (show typesB L (nd L i) = ((eachB L (nd L i).ks 85 85)) by unfold typesB; rw [hk]; rfl)
  rw [H.out]
  clear H h hn
  generalize eachB L (nd L i).ks 85 85 = r0 at *
  generalize nd L i = y at *
  obtain ⟨k, x, m, ks, p⟩ := y
  simp only at hk c0 c1 c2 c3 c4 hkk hK0 ⊢
  subst hk
  have hKK := Lib.hid hK0
  clear hK0
  unfold maxLen at hm hkm
  generalize hM : ks.length = M at *
  have HM := Lib.hid hM
  clear hM
  go_enter Tryz.func78, Tryz.ntmps78
  go_upto_region 2 with fail
  obtain ⟨wa, hwa⟩ : ∃ wa : World, wa = ((w.alloc (.cells #[.slice (some ad) L.length c] 24)).alloc (.cells #[.int .i64 84, .string x, .int .i64 m, .slice K0 M kc0, .int .i64 p] 37)) := ⟨_, rfl⟩
  have xa : wa.cell? ⟨w.heap.size, 0, none⟩ = some (.slice (some ad) L.length c) := by rw [hwa]; simp [World.cell?_alloc_mark]
  have qa : Below w.heap.size w wa := by rw [hwa]; (exact bl)
  have za := Below.size qa
  have ya : wa.cell? ⟨w.heap.size + 1, 3, none⟩ = some (.slice K0 M kc0) := by rw [hwa]; simp [World.cell?_alloc_mark]
  have yk : wa.cell? ⟨w.heap.size + 1, 0, none⟩ = some (.int .i64 84) := by rw [hwa]; simp [World.cell?_alloc_mark]
  rw [← hwa]
  clear hwa
  go_wp2_with (first
    | (go_at_call 92; (with_reducible refine (HCr0.out wa qa).mono ?_); rintro e wr0 ⟨rfl, br0⟩; have qr0 := qa.trans (br0.mono qa.size); have zr0 := Below.size qr0; have xr0 : wr0.cell? ⟨w.heap.size, 0, none⟩ = some (.slice (some ad) L.length c) := (br0.cell (p := ⟨w.heap.size, 0, none⟩) (World.block_lt_of_cell? wa _ xa)).trans xa)
    | fail)
  all_goals go_ret
  all_goals (refine ⟨ret_bool ?_, (by (exact bl))⟩; first | rfl | (simp [*]; done) | ((try simp only [beq_iff_eq, beq_eq_false_iff_ne, bne_iff_ne, bne_eq_false_iff_eq, ne_eq, decide_eq_true_eq, decide_eq_false_iff_not, Bool.and_eq_true, Bool.or_eq_true, Bool.not_eq_true, Bool.not_eq_false, Bool.false_eq_true, Decidable.not_not, Bool.not_eq_eq_eq_not, Bool.not_true, Bool.not_false] at *); simp_all; done))
set_option maxRecDepth 100000 in
set_option maxHeartbeats 8000000 in
theorem types_86 (A : Option Addr) (L : List Nd) (c i : Nat) (w : World) (h : TreeAt w w.heap.size A L) (hc : L.length ≤ c) (hm : c ≤ maxLen) (hL : L.length ≤ 1000000000000) (hi : i < L.length) (hk : (nd L i).k = 86) : Calls Tryz.prog 78 #[.agg #[.slice A L.length c], .int .i64 (i : Int)] w fun e w' => e = .returned (.bool (typesB L (nd L i))) ∧ Below w.heap.size w w' := by
  have hT := Lib.hid h
  have hm2 := Lib.hid hm
  obtain ⟨ad, rfl, hn⟩ := h i hi
  have hb2 := hn.blk
  have hb1 : ad.block < w.heap.size := (by rw [block_add] at hb2; exact hb2)
  obtain ⟨K0, kc0, c0, c1, c2, c3, c4, hK0, hkk, hkm⟩ := node_open hn
  have HCr0 := Lib.hid (fun W (hb : Below w.heap.size w W) => row_lit (some ad) L c i W (h.later hb) hc hm hi [2, 1001] 2 #[.int .i64 2, .int .i64 1001] rfl (by decide) (by decide) rfl)
  have HCr1 := Lib.hid (fun W (hb : Below w.heap.size w W) => list_at (some ad) L c i W (h.later hb) hc hm hi 0 0 rfl (by decide) 1003)
  have H := Lib.hid (show typesB L (nd L i) = ((rowB L (nd L i).ks [2, 1001]) && (listB L (nd L i) 0 1003)) by unfold typesB; rw [hk]; rfl)
  rw [H.out]
  clear H h hn
  generalize rowB L (nd L i).ks [2, 1001] = r0 at *
  generalize listB L (nd L i) 0 1003 = r1 at *
  generalize nd L i = y at *
  obtain ⟨k, x, m, ks, p⟩ := y
  simp only at hk c0 c1 c2 c3 c4 hkk hK0 ⊢
  subst hk
  have hKK := Lib.hid hK0
  clear hK0
  unfold maxLen at hm hkm
  generalize hM : ks.length = M at *
  have HM := Lib.hid hM
  clear hM
  go_enter Tryz.func78, Tryz.ntmps78
  go_upto_region 2 with fail
  obtain ⟨wa, hwa⟩ : ∃ wa : World, wa = ((w.alloc (.cells #[.slice (some ad) L.length c] 24)).alloc (.cells #[.int .i64 86, .string x, .int .i64 m, .slice K0 M kc0, .int .i64 p] 37)) := ⟨_, rfl⟩
  have xa : wa.cell? ⟨w.heap.size, 0, none⟩ = some (.slice (some ad) L.length c) := by rw [hwa]; simp [World.cell?_alloc_mark]
  have qa : Below w.heap.size w wa := by rw [hwa]; (exact bl)
  have za := Below.size qa
  have ya : wa.cell? ⟨w.heap.size + 1, 3, none⟩ = some (.slice K0 M kc0) := by rw [hwa]; simp [World.cell?_alloc_mark]
  have yk : wa.cell? ⟨w.heap.size + 1, 0, none⟩ = some (.int .i64 86) := by rw [hwa]; simp [World.cell?_alloc_mark]
  rw [← hwa]
  clear hwa
  go_wp2_with (first
    | (go_at_call 91; (with_reducible refine (HCr0.out wa qa).mono ?_); rintro e wr0 ⟨rfl, br0⟩; have qr0 := qa.trans (br0.mono qa.size); have zr0 := Below.size qr0; have xr0 : wr0.cell? ⟨w.heap.size, 0, none⟩ = some (.slice (some ad) L.length c) := (br0.cell (p := ⟨w.heap.size, 0, none⟩) (World.block_lt_of_cell? wa _ xa)).trans xa)
    | (go_at_call 90; (with_reducible refine (HCr1.out wr0 qr0).mono ?_); rintro e wr1 ⟨rfl, br1⟩; have qr1 := qr0.trans (br1.mono qr0.size); have zr1 := Below.size qr1; have xr1 : wr1.cell? ⟨w.heap.size, 0, none⟩ = some (.slice (some ad) L.length c) := (br1.cell (p := ⟨w.heap.size, 0, none⟩) (World.block_lt_of_cell? wr0 _ xr0)).trans xr0)
    | fail)
  all_goals go_ret
  all_goals (refine ⟨ret_bool ?_, (by (exact bl))⟩; first | rfl | (simp [*]; done) | ((try simp only [beq_iff_eq, beq_eq_false_iff_ne, bne_iff_ne, bne_eq_false_iff_eq, ne_eq, decide_eq_true_eq, decide_eq_false_iff_not, Bool.and_eq_true, Bool.or_eq_true, Bool.not_eq_true, Bool.not_eq_false, Bool.false_eq_true, Decidable.not_not, Bool.not_eq_eq_eq_not, Bool.not_true, Bool.not_false] at *); simp_all; done))
set_option maxRecDepth 100000 in
set_option maxHeartbeats 8000000 in
theorem types_87 (A : Option Addr) (L : List Nd) (c i : Nat) (w : World) (h : TreeAt w w.heap.size A L) (hc : L.length ≤ c) (hm : c ≤ maxLen) (hL : L.length ≤ 1000000000000) (hi : i < L.length) (hk : (nd L i).k = 87) : Calls Tryz.prog 78 #[.agg #[.slice A L.length c], .int .i64 (i : Int)] w fun e w' => e = .returned (.bool (typesB L (nd L i))) ∧ Below w.heap.size w w' := by
  have hT := Lib.hid h
  have hm2 := Lib.hid hm
  obtain ⟨ad, rfl, hn⟩ := h i hi
  have hb2 := hn.blk
  have hb1 : ad.block < w.heap.size := (by rw [block_add] at hb2; exact hb2)
  obtain ⟨K0, kc0, c0, c1, c2, c3, c4, hK0, hkk, hkm⟩ := node_open hn
  have HCr0 := Lib.hid (fun W (hb : Below w.heap.size w W) => each_any (some ad) L c i W (h.later hb) hc hm hi 1001 1001)
  have H := Lib.hid (show typesB L (nd L i) = (decide (2 ≤ (nd L i).ks.length) && (eachB L (nd L i).ks 1001 1001)) by unfold typesB; rw [hk]; rfl)
  rw [H.out]
  clear H h hn
  generalize eachB L (nd L i).ks 1001 1001 = r0 at *
  generalize nd L i = y at *
  obtain ⟨k, x, m, ks, p⟩ := y
  simp only at hk c0 c1 c2 c3 c4 hkk hK0 ⊢
  subst hk
  have hKK := Lib.hid hK0
  clear hK0
  unfold maxLen at hm hkm
  generalize hM : ks.length = M at *
  have HM := Lib.hid hM
  clear hM
  go_enter Tryz.func78, Tryz.ntmps78
  go_upto_region 2 with fail
  obtain ⟨wa, hwa⟩ : ∃ wa : World, wa = ((w.alloc (.cells #[.slice (some ad) L.length c] 24)).alloc (.cells #[.int .i64 87, .string x, .int .i64 m, .slice K0 M kc0, .int .i64 p] 37)) := ⟨_, rfl⟩
  have xa : wa.cell? ⟨w.heap.size, 0, none⟩ = some (.slice (some ad) L.length c) := by rw [hwa]; simp [World.cell?_alloc_mark]
  have qa : Below w.heap.size w wa := by rw [hwa]; (exact bl)
  have za := Below.size qa
  have ya : wa.cell? ⟨w.heap.size + 1, 3, none⟩ = some (.slice K0 M kc0) := by rw [hwa]; simp [World.cell?_alloc_mark]
  have yk : wa.cell? ⟨w.heap.size + 1, 0, none⟩ = some (.int .i64 87) := by rw [hwa]; simp [World.cell?_alloc_mark]
  rw [← hwa]
  clear hwa
  go_wp2_with (first
    | (go_at_call 92; (with_reducible refine (HCr0.out wa qa).mono ?_); rintro e wr0 ⟨rfl, br0⟩; have qr0 := qa.trans (br0.mono qa.size); have zr0 := Below.size qr0; have xr0 : wr0.cell? ⟨w.heap.size, 0, none⟩ = some (.slice (some ad) L.length c) := (br0.cell (p := ⟨w.heap.size, 0, none⟩) (World.block_lt_of_cell? wa _ xa)).trans xa)
    | fail)
  all_goals go_ret
  all_goals (refine ⟨ret_bool ?_, (by (exact bl))⟩; first | rfl | (simp [*]; done) | ((try simp only [beq_iff_eq, beq_eq_false_iff_ne, bne_iff_ne, bne_eq_false_iff_eq, ne_eq, decide_eq_true_eq, decide_eq_false_iff_not, Bool.and_eq_true, Bool.or_eq_true, Bool.not_eq_true, Bool.not_eq_false, Bool.false_eq_true, Decidable.not_not, Bool.not_eq_eq_eq_not, Bool.not_true, Bool.not_false] at *); simp_all; done) | ((first | rw [show decide (2 ≤ M) = true from decide_eq_true (by omega)] | rw [show decide (2 ≤ M) = false from decide_eq_false (by omega)]); first | rfl | (simp [*]; done) | ((try simp only [beq_iff_eq, beq_eq_false_iff_ne, bne_iff_ne, bne_eq_false_iff_eq, ne_eq, decide_eq_true_eq, decide_eq_false_iff_not, Bool.and_eq_true, Bool.or_eq_true, Bool.not_eq_true, Bool.not_eq_false, Bool.false_eq_true, Decidable.not_not, Bool.not_eq_eq_eq_not, Bool.not_true, Bool.not_false] at *); simp_all; done)))
set_option maxRecDepth 100000 in
set_option maxHeartbeats 8000000 in
theorem stmts_1 (A : Option Addr) (L : List Nd) (c i : Nat) (w : World) (h : TreeAt w w.heap.size A L) (hc : L.length ≤ c) (hm : c ≤ maxLen) (hL : L.length ≤ 1000000000000) (hi : i < L.length) (hk : (nd L i).k = 1) : Calls Tryz.prog 81 #[.agg #[.slice A L.length c], .int .i64 (i : Int)] w fun e w' => e = .returned (.bool (stmtsB L (nd L i))) ∧ Below w.heap.size w w' := by
  have hT := Lib.hid h
  have hm2 := Lib.hid hm
  obtain ⟨ad, rfl, hn⟩ := h i hi
  have hb2 := hn.blk
  have hb1 : ad.block < w.heap.size := (by rw [block_add] at hb2; exact hb2)
  obtain ⟨K0, kc0, c0, c1, c2, c3, c4, hK0, hkk, hkm⟩ := node_open hn
  have H := Lib.hid (show stmtsB L (nd L i) = (decide ((nd L i).ks.length = 0)) by unfold stmtsB; rw [hk]; rfl)
  rw [H.out]
  clear H h hn
  generalize nd L i = y at *
  obtain ⟨k, x, m, ks, p⟩ := y
  simp only at hk c0 c1 c2 c3 c4 hkk hK0 ⊢
  subst hk
  have hKK := Lib.hid hK0
  clear hK0
  unfold maxLen at hm hkm
  generalize hM : ks.length = M at *
  have HM := Lib.hid hM
  clear hM
  go_enter Tryz.func81, Tryz.ntmps81
  go_upto_region 2 with fail
  obtain ⟨wa, hwa⟩ : ∃ wa : World, wa = ((w.alloc (.cells #[.slice (some ad) L.length c] 24)).alloc (.cells #[.int .i64 1, .string x, .int .i64 m, .slice K0 M kc0, .int .i64 p] 37)) := ⟨_, rfl⟩
  have xa : wa.cell? ⟨w.heap.size, 0, none⟩ = some (.slice (some ad) L.length c) := by rw [hwa]; simp [World.cell?_alloc_mark]
  have qa : Below w.heap.size w wa := by rw [hwa]; (exact bl)
  have za := Below.size qa
  have ya : wa.cell? ⟨w.heap.size + 1, 3, none⟩ = some (.slice K0 M kc0) := by rw [hwa]; simp [World.cell?_alloc_mark]
  have yk : wa.cell? ⟨w.heap.size + 1, 0, none⟩ = some (.int .i64 1) := by rw [hwa]; simp [World.cell?_alloc_mark]
  rw [← hwa]
  clear hwa
  go_wp2
  all_goals go_ret
  all_goals exact ⟨ret_bool (by rw [Bool.eq_iff_iff]; simp <;> omega), (by (exact bl))⟩
set_option maxRecDepth 100000 in
set_option maxHeartbeats 8000000 in
theorem stmts_58 (A : Option Addr) (L : List Nd) (c i : Nat) (w : World) (h : TreeAt w w.heap.size A L) (hc : L.length ≤ c) (hm : c ≤ maxLen) (hL : L.length ≤ 1000000000000) (hi : i < L.length) (hk : (nd L i).k = 58) : Calls Tryz.prog 81 #[.agg #[.slice A L.length c], .int .i64 (i : Int)] w fun e w' => e = .returned (.bool (stmtsB L (nd L i))) ∧ Below w.heap.size w w' := by
  have hT := Lib.hid h
  have hm2 := Lib.hid hm
  obtain ⟨ad, rfl, hn⟩ := h i hi
  have hb2 := hn.blk
  have hb1 : ad.block < w.heap.size := (by rw [block_add] at hb2; exact hb2)
  obtain ⟨K0, kc0, c0, c1, c2, c3, c4, hK0, hkk, hkm⟩ := node_open hn
  have H := Lib.hid (show stmtsB L (nd L i) = (decide ((nd L i).ks.length = 0)) by unfold stmtsB; rw [hk]; rfl)
  rw [H.out]
  clear H h hn
  generalize nd L i = y at *
  obtain ⟨k, x, m, ks, p⟩ := y
  simp only at hk c0 c1 c2 c3 c4 hkk hK0 ⊢
  subst hk
  have hKK := Lib.hid hK0
  clear hK0
  unfold maxLen at hm hkm
  generalize hM : ks.length = M at *
  have HM := Lib.hid hM
  clear hM
  go_enter Tryz.func81, Tryz.ntmps81
  go_upto_region 2 with fail
  obtain ⟨wa, hwa⟩ : ∃ wa : World, wa = ((w.alloc (.cells #[.slice (some ad) L.length c] 24)).alloc (.cells #[.int .i64 58, .string x, .int .i64 m, .slice K0 M kc0, .int .i64 p] 37)) := ⟨_, rfl⟩
  have xa : wa.cell? ⟨w.heap.size, 0, none⟩ = some (.slice (some ad) L.length c) := by rw [hwa]; simp [World.cell?_alloc_mark]
  have qa : Below w.heap.size w wa := by rw [hwa]; (exact bl)
  have za := Below.size qa
  have ya : wa.cell? ⟨w.heap.size + 1, 3, none⟩ = some (.slice K0 M kc0) := by rw [hwa]; simp [World.cell?_alloc_mark]
  have yk : wa.cell? ⟨w.heap.size + 1, 0, none⟩ = some (.int .i64 58) := by rw [hwa]; simp [World.cell?_alloc_mark]
  rw [← hwa]
  clear hwa
  go_wp2
  all_goals go_ret
  all_goals exact ⟨ret_bool (by rw [Bool.eq_iff_iff]; simp <;> omega), (by (exact bl))⟩
set_option maxRecDepth 100000 in
set_option maxHeartbeats 8000000 in
theorem stmts_59 (A : Option Addr) (L : List Nd) (c i : Nat) (w : World) (h : TreeAt w w.heap.size A L) (hc : L.length ≤ c) (hm : c ≤ maxLen) (hL : L.length ≤ 1000000000000) (hi : i < L.length) (hk : (nd L i).k = 59) : Calls Tryz.prog 81 #[.agg #[.slice A L.length c], .int .i64 (i : Int)] w fun e w' => e = .returned (.bool (stmtsB L (nd L i))) ∧ Below w.heap.size w w' := by
  have hT := Lib.hid h
  have hm2 := Lib.hid hm
  obtain ⟨ad, rfl, hn⟩ := h i hi
  have hb2 := hn.blk
  have hb1 : ad.block < w.heap.size := (by rw [block_add] at hb2; exact hb2)
  obtain ⟨K0, kc0, c0, c1, c2, c3, c4, hK0, hkk, hkm⟩ := node_open hn
  have H := Lib.hid (show stmtsB L (nd L i) = (decide ((nd L i).ks.length = 0)) by unfold stmtsB; rw [hk]; rfl)
  rw [H.out]
  clear H h hn
  generalize nd L i = y at *
  obtain ⟨k, x, m, ks, p⟩ := y
  simp only at hk c0 c1 c2 c3 c4 hkk hK0 ⊢
  subst hk
  have hKK := Lib.hid hK0
  clear hK0
  unfold maxLen at hm hkm
  generalize hM : ks.length = M at *
  have HM := Lib.hid hM
  clear hM
  go_enter Tryz.func81, Tryz.ntmps81
  go_upto_region 2 with fail
  obtain ⟨wa, hwa⟩ : ∃ wa : World, wa = ((w.alloc (.cells #[.slice (some ad) L.length c] 24)).alloc (.cells #[.int .i64 59, .string x, .int .i64 m, .slice K0 M kc0, .int .i64 p] 37)) := ⟨_, rfl⟩
  have xa : wa.cell? ⟨w.heap.size, 0, none⟩ = some (.slice (some ad) L.length c) := by rw [hwa]; simp [World.cell?_alloc_mark]
  have qa : Below w.heap.size w wa := by rw [hwa]; (exact bl)
  have za := Below.size qa
  have ya : wa.cell? ⟨w.heap.size + 1, 3, none⟩ = some (.slice K0 M kc0) := by rw [hwa]; simp [World.cell?_alloc_mark]
  have yk : wa.cell? ⟨w.heap.size + 1, 0, none⟩ = some (.int .i64 59) := by rw [hwa]; simp [World.cell?_alloc_mark]
  rw [← hwa]
  clear hwa
  go_wp2
  all_goals go_ret
  all_goals exact ⟨ret_bool (by rw [Bool.eq_iff_iff]; simp <;> omega), (by (exact bl))⟩
set_option maxRecDepth 100000 in
set_option maxHeartbeats 8000000 in
theorem stmts_65 (A : Option Addr) (L : List Nd) (c i : Nat) (w : World) (h : TreeAt w w.heap.size A L) (hc : L.length ≤ c) (hm : c ≤ maxLen) (hL : L.length ≤ 1000000000000) (hi : i < L.length) (hk : (nd L i).k = 65) : Calls Tryz.prog 81 #[.agg #[.slice A L.length c], .int .i64 (i : Int)] w fun e w' => e = .returned (.bool (stmtsB L (nd L i))) ∧ Below w.heap.size w w' := by
  have hT := Lib.hid h
  have hm2 := Lib.hid hm
  obtain ⟨ad, rfl, hn⟩ := h i hi
  have hb2 := hn.blk
  have hb1 : ad.block < w.heap.size := (by rw [block_add] at hb2; exact hb2)
  obtain ⟨K0, kc0, c0, c1, c2, c3, c4, hK0, hkk, hkm⟩ := node_open hn
  have H := Lib.hid (show stmtsB L (nd L i) = (decide ((nd L i).ks.length = 0)) by unfold stmtsB; rw [hk]; rfl)
  rw [H.out]
  clear H h hn
  generalize nd L i = y at *
  obtain ⟨k, x, m, ks, p⟩ := y
  simp only at hk c0 c1 c2 c3 c4 hkk hK0 ⊢
  subst hk
  have hKK := Lib.hid hK0
  clear hK0
  unfold maxLen at hm hkm
  generalize hM : ks.length = M at *
  have HM := Lib.hid hM
  clear hM
  go_enter Tryz.func81, Tryz.ntmps81
  go_upto_region 2 with fail
  obtain ⟨wa, hwa⟩ : ∃ wa : World, wa = ((w.alloc (.cells #[.slice (some ad) L.length c] 24)).alloc (.cells #[.int .i64 65, .string x, .int .i64 m, .slice K0 M kc0, .int .i64 p] 37)) := ⟨_, rfl⟩
  have xa : wa.cell? ⟨w.heap.size, 0, none⟩ = some (.slice (some ad) L.length c) := by rw [hwa]; simp [World.cell?_alloc_mark]
  have qa : Below w.heap.size w wa := by rw [hwa]; (exact bl)
  have za := Below.size qa
  have ya : wa.cell? ⟨w.heap.size + 1, 3, none⟩ = some (.slice K0 M kc0) := by rw [hwa]; simp [World.cell?_alloc_mark]
  have yk : wa.cell? ⟨w.heap.size + 1, 0, none⟩ = some (.int .i64 65) := by rw [hwa]; simp [World.cell?_alloc_mark]
  rw [← hwa]
  clear hwa
  go_wp2
  all_goals go_ret
  all_goals exact ⟨ret_bool (by rw [Bool.eq_iff_iff]; simp <;> omega), (by (exact bl))⟩
set_option maxRecDepth 100000 in
set_option maxHeartbeats 8000000 in
theorem stmts_3 (A : Option Addr) (L : List Nd) (c i : Nat) (w : World) (h : TreeAt w w.heap.size A L) (hc : L.length ≤ c) (hm : c ≤ maxLen) (hL : L.length ≤ 1000000000000) (hi : i < L.length) (hk : (nd L i).k = 3) : Calls Tryz.prog 81 #[.agg #[.slice A L.length c], .int .i64 (i : Int)] w fun e w' => e = .returned (.bool (stmtsB L (nd L i))) ∧ Below w.heap.size w w' := by
  have hT := Lib.hid h
  have hm2 := Lib.hid hm
  obtain ⟨ad, rfl, hn⟩ := h i hi
  have hb2 := hn.blk
  have hb1 : ad.block < w.heap.size := (by rw [block_add] at hb2; exact hb2)
  obtain ⟨K0, kc0, c0, c1, c2, c3, c4, hK0, hkk, hkm⟩ := node_open hn
  have HCr0 := Lib.hid (fun W (hb : Below w.heap.size w W) => each_any (some ad) L c i W (h.later hb) hc hm hi 1002 1002)
  have H := Lib.hid (show stmtsB L (nd L i) = ((eachB L (nd L i).ks 1002 1002)) by unfold stmtsB; rw [hk]; rfl)
  rw [H.out]
  clear H h hn
  generalize eachB L (nd L i).ks 1002 1002 = r0 at *
  generalize nd L i = y at *
  obtain ⟨k, x, m, ks, p⟩ := y
  simp only at hk c0 c1 c2 c3 c4 hkk hK0 ⊢
  subst hk
  have hKK := Lib.hid hK0
  clear hK0
  unfold maxLen at hm hkm
  generalize hM : ks.length = M at *
  have HM := Lib.hid hM
  clear hM
  go_enter Tryz.func81, Tryz.ntmps81
  go_upto_region 2 with fail
  obtain ⟨wa, hwa⟩ : ∃ wa : World, wa = ((w.alloc (.cells #[.slice (some ad) L.length c] 24)).alloc (.cells #[.int .i64 3, .string x, .int .i64 m, .slice K0 M kc0, .int .i64 p] 37)) := ⟨_, rfl⟩
  have xa : wa.cell? ⟨w.heap.size, 0, none⟩ = some (.slice (some ad) L.length c) := by rw [hwa]; simp [World.cell?_alloc_mark]
  have qa : Below w.heap.size w wa := by rw [hwa]; (exact bl)
  have za := Below.size qa
  have ya : wa.cell? ⟨w.heap.size + 1, 3, none⟩ = some (.slice K0 M kc0) := by rw [hwa]; simp [World.cell?_alloc_mark]
  have yk : wa.cell? ⟨w.heap.size + 1, 0, none⟩ = some (.int .i64 3) := by rw [hwa]; simp [World.cell?_alloc_mark]
  rw [← hwa]
  clear hwa
  go_wp2_with (first
    | (go_at_call 92; (with_reducible refine (HCr0.out wa qa).mono ?_); rintro e wr0 ⟨rfl, br0⟩; have qr0 := qa.trans (br0.mono qa.size); have zr0 := Below.size qr0; have xr0 : wr0.cell? ⟨w.heap.size, 0, none⟩ = some (.slice (some ad) L.length c) := (br0.cell (p := ⟨w.heap.size, 0, none⟩) (World.block_lt_of_cell? wa _ xa)).trans xa)
    | fail)
  all_goals go_ret
  all_goals (refine ⟨ret_bool ?_, (by (exact bl))⟩; first | rfl | (simp [*]; done) | ((try simp only [beq_iff_eq, beq_eq_false_iff_ne, bne_iff_ne, bne_eq_false_iff_eq, ne_eq, decide_eq_true_eq, decide_eq_false_iff_not, Bool.and_eq_true, Bool.or_eq_true, Bool.not_eq_true, Bool.not_eq_false, Bool.false_eq_true, Decidable.not_not, Bool.not_eq_eq_eq_not, Bool.not_true, Bool.not_false] at *); simp_all; done))
set_option maxRecDepth 100000 in
set_option maxHeartbeats 8000000 in
theorem stmts_63 (A : Option Addr) (L : List Nd) (c i : Nat) (w : World) (h : TreeAt w w.heap.size A L) (hc : L.length ≤ c) (hm : c ≤ maxLen) (hL : L.length ≤ 1000000000000) (hi : i < L.length) (hk : (nd L i).k = 63) : Calls Tryz.prog 81 #[.agg #[.slice A L.length c], .int .i64 (i : Int)] w fun e w' => e = .returned (.bool (stmtsB L (nd L i))) ∧ Below w.heap.size w w' := by
  have hT := Lib.hid h
  have hm2 := Lib.hid hm
  obtain ⟨ad, rfl, hn⟩ := h i hi
  have hb2 := hn.blk
  have hb1 : ad.block < w.heap.size := (by rw [block_add] at hb2; exact hb2)
  obtain ⟨K0, kc0, c0, c1, c2, c3, c4, hK0, hkk, hkm⟩ := node_open hn
  have HCr0 := Lib.hid (fun W (hb : Below w.heap.size w W) => each_any (some ad) L c i W (h.later hb) hc hm hi 1002 1002)
  have H := Lib.hid (show stmtsB L (nd L i) = ((eachB L (nd L i).ks 1002 1002)) by unfold stmtsB; rw [hk]; rfl)
  rw [H.out]
  clear H h hn
  generalize eachB L (nd L i).ks 1002 1002 = r0 at *
  generalize nd L i = y at *
  obtain ⟨k, x, m, ks, p⟩ := y
  simp only at hk c0 c1 c2 c3 c4 hkk hK0 ⊢
  subst hk
  have hKK := Lib.hid hK0
  clear hK0
  unfold maxLen at hm hkm
  generalize hM : ks.length = M at *
  have HM := Lib.hid hM
  clear hM
  go_enter Tryz.func81, Tryz.ntmps81
  go_upto_region 2 with fail
  obtain ⟨wa, hwa⟩ : ∃ wa : World, wa = ((w.alloc (.cells #[.slice (some ad) L.length c] 24)).alloc (.cells #[.int .i64 63, .string x, .int .i64 m, .slice K0 M kc0, .int .i64 p] 37)) := ⟨_, rfl⟩
  have xa : wa.cell? ⟨w.heap.size, 0, none⟩ = some (.slice (some ad) L.length c) := by rw [hwa]; simp [World.cell?_alloc_mark]
  have qa : Below w.heap.size w wa := by rw [hwa]; (exact bl)
  have za := Below.size qa
  have ya : wa.cell? ⟨w.heap.size + 1, 3, none⟩ = some (.slice K0 M kc0) := by rw [hwa]; simp [World.cell?_alloc_mark]
  have yk : wa.cell? ⟨w.heap.size + 1, 0, none⟩ = some (.int .i64 63) := by rw [hwa]; simp [World.cell?_alloc_mark]
  rw [← hwa]
  clear hwa
  go_wp2_with (first
    | (go_at_call 92; (with_reducible refine (HCr0.out wa qa).mono ?_); rintro e wr0 ⟨rfl, br0⟩; have qr0 := qa.trans (br0.mono qa.size); have zr0 := Below.size qr0; have xr0 : wr0.cell? ⟨w.heap.size, 0, none⟩ = some (.slice (some ad) L.length c) := (br0.cell (p := ⟨w.heap.size, 0, none⟩) (World.block_lt_of_cell? wa _ xa)).trans xa)
    | fail)
  all_goals go_ret
  all_goals (refine ⟨ret_bool ?_, (by (exact bl))⟩; first | rfl | (simp [*]; done) | ((try simp only [beq_iff_eq, beq_eq_false_iff_ne, bne_iff_ne, bne_eq_false_iff_eq, ne_eq, decide_eq_true_eq, decide_eq_false_iff_not, Bool.and_eq_true, Bool.or_eq_true, Bool.not_eq_true, Bool.not_eq_false, Bool.false_eq_true, Decidable.not_not, Bool.not_eq_eq_eq_not, Bool.not_true, Bool.not_false] at *); simp_all; done))
set_option maxRecDepth 100000 in
set_option maxHeartbeats 8000000 in
theorem stmts_53 (A : Option Addr) (L : List Nd) (c i : Nat) (w : World) (h : TreeAt w w.heap.size A L) (hc : L.length ≤ c) (hm : c ≤ maxLen) (hL : L.length ≤ 1000000000000) (hi : i < L.length) (hk : (nd L i).k = 53) : Calls Tryz.prog 81 #[.agg #[.slice A L.length c], .int .i64 (i : Int)] w fun e w' => e = .returned (.bool (stmtsB L (nd L i))) ∧ Below w.heap.size w w' := by
  have hT := Lib.hid h
  have hm2 := Lib.hid hm
  obtain ⟨ad, rfl, hn⟩ := h i hi
  have hb2 := hn.blk
  have hb1 : ad.block < w.heap.size := (by rw [block_add] at hb2; exact hb2)
  obtain ⟨K0, kc0, c0, c1, c2, c3, c4, hK0, hkk, hkm⟩ := node_open hn
  have HCv0 := Lib.hid (fun W (hb : Below w.heap.size w W) => kid_lit (some ad) L c i W (h.later hb) hc hm hi 2 2 rfl (by decide))
  have HCv1 := Lib.hid (fun W (hb : Below w.heap.size w W) => kid_lit (some ad) L c i W (h.later hb) hc hm hi 0 0 rfl (by decide))
  have HCv3 := Lib.hid (fun W (hb : Below w.heap.size w W) => kid_lit (some ad) L c i W (h.later hb) hc hm hi 1 1 rfl (by decide))
  have H := Lib.hid (show stmtsB L (nd L i) = (decide ((nd L i).ks.length = 3) && exprK (kidB L (nd L i) 0).k && (kidB L (nd L i) 1).k == 63 && ((kidB L (nd L i) 2).k == 63 || (kidB L (nd L i) 2).k == 53 || (kidB L (nd L i) 2).k == 1)) by unfold stmtsB; rw [hk]; rfl)
  rw [H.out]
  clear H h hn
  generalize kidB L (nd L i) 2 = y2 at *
  generalize kidB L (nd L i) 0 = y0 at *
  generalize kidB L (nd L i) 1 = y1 at *
  generalize nd L i = y at *
  obtain ⟨k, x, m, ks, p⟩ := y
  simp only at hk c0 c1 c2 c3 c4 hkk hK0 ⊢
  subst hk
  have hKK := Lib.hid hK0
  clear hK0
  unfold maxLen at hm hkm
  generalize hM : ks.length = M at *
  have HM := Lib.hid hM
  clear hM
  go_enter Tryz.func81, Tryz.ntmps81
  go_upto_region 2 with fail
  obtain ⟨wa, hwa⟩ : ∃ wa : World, wa = ((w.alloc (.cells #[.slice (some ad) L.length c] 24)).alloc (.cells #[.int .i64 53, .string x, .int .i64 m, .slice K0 M kc0, .int .i64 p] 37)) := ⟨_, rfl⟩
  have xa : wa.cell? ⟨w.heap.size, 0, none⟩ = some (.slice (some ad) L.length c) := by rw [hwa]; simp [World.cell?_alloc_mark]
  have qa : Below w.heap.size w wa := by rw [hwa]; (exact bl)
  have za := Below.size qa
  have ya : wa.cell? ⟨w.heap.size + 1, 3, none⟩ = some (.slice K0 M kc0) := by rw [hwa]; simp [World.cell?_alloc_mark]
  have yk : wa.cell? ⟨w.heap.size + 1, 0, none⟩ = some (.int .i64 53) := by rw [hwa]; simp [World.cell?_alloc_mark]
  rw [← hwa]
  clear hwa
  go_wp2_with (first
    | (go_at_call 93; (with_reducible refine (HCv0.out wa qa).mono ?_); rintro e wv0 ⟨⟨Kv0, kcv0, rfl, _, _, _⟩, bv0⟩; unfold nodeV; have qv0 := qa.trans (bv0.mono qa.size); have zv0 := Below.size qv0; have xv0 : wv0.cell? ⟨w.heap.size, 0, none⟩ = some (.slice (some ad) L.length c) := (bv0.cell (p := ⟨w.heap.size, 0, none⟩) (World.block_lt_of_cell? wa _ xa)).trans xa; have yv0 : wv0.cell? ⟨w.heap.size + 1, 3, none⟩ = some (.slice K0 M kc0) := (bv0.cell (p := ⟨w.heap.size + 1, 3, none⟩) (World.block_lt_of_cell? wa _ ya)).trans ya)
    | (go_at_call 93; (with_reducible refine (HCv1.out wv0 qv0).mono ?_); rintro e wv1 ⟨⟨Kv1, kcv1, rfl, _, _, _⟩, bv1⟩; unfold nodeV; have qv1 := qv0.trans (bv1.mono qv0.size); have zv1 := Below.size qv1; have xv1 : wv1.cell? ⟨w.heap.size, 0, none⟩ = some (.slice (some ad) L.length c) := (bv1.cell (p := ⟨w.heap.size, 0, none⟩) (World.block_lt_of_cell? wv0 _ xv0)).trans xv0; have yv1 : wv1.cell? ⟨w.heap.size + 1, 3, none⟩ = some (.slice K0 M kc0) := (bv1.cell (p := ⟨w.heap.size + 1, 3, none⟩) (World.block_lt_of_cell? wv0 _ yv0)).trans yv0)
    | (go_at_call 15; (with_reducible refine (rIsExpr_any _ wv1).mono ?_); rintro e wv2 ⟨rfl, bv2⟩; have qv2 := qv1.trans (bv2.mono qv1.size); have zv2 := Below.size qv2; have xv2 : wv2.cell? ⟨w.heap.size, 0, none⟩ = some (.slice (some ad) L.length c) := (bv2.cell (p := ⟨w.heap.size, 0, none⟩) (World.block_lt_of_cell? wv1 _ xv1)).trans xv1; have yv2 : wv2.cell? ⟨w.heap.size + 1, 3, none⟩ = some (.slice K0 M kc0) := (bv2.cell (p := ⟨w.heap.size + 1, 3, none⟩) (World.block_lt_of_cell? wv1 _ yv1)).trans yv1)
    | (go_at_call 93; (with_reducible refine (HCv3.out wv2 qv2).mono ?_); rintro e wv3 ⟨⟨Kv3, kcv3, rfl, _, _, _⟩, bv3⟩; unfold nodeV; have qv3 := qv2.trans (bv3.mono qv2.size); have zv3 := Below.size qv3; have xv3 : wv3.cell? ⟨w.heap.size, 0, none⟩ = some (.slice (some ad) L.length c) := (bv3.cell (p := ⟨w.heap.size, 0, none⟩) (World.block_lt_of_cell? wv2 _ xv2)).trans xv2; have yv3 : wv3.cell? ⟨w.heap.size + 1, 3, none⟩ = some (.slice K0 M kc0) := (bv3.cell (p := ⟨w.heap.size + 1, 3, none⟩) (World.block_lt_of_cell? wv2 _ yv2)).trans yv2)
    | fail)
  all_goals go_ret
  all_goals (refine ⟨ret_bool ?_, (by (exact bl))⟩; first | rfl | (simp [*]; done) | ((try simp only [beq_iff_eq, beq_eq_false_iff_ne, bne_iff_ne, bne_eq_false_iff_eq, ne_eq, decide_eq_true_eq, decide_eq_false_iff_not, Bool.and_eq_true, Bool.or_eq_true, Bool.not_eq_true, Bool.not_eq_false, Bool.false_eq_true, Decidable.not_not, Bool.not_eq_eq_eq_not, Bool.not_true, Bool.not_false] at *); simp_all; done) | ((first | rw [show decide (M = 3) = true from decide_eq_true (by omega)] | rw [show decide (M = 3) = false from decide_eq_false (by omega)]); first | rfl | (simp [*]; done) | ((try simp only [beq_iff_eq, beq_eq_false_iff_ne, bne_iff_ne, bne_eq_false_iff_eq, ne_eq, decide_eq_true_eq, decide_eq_false_iff_not, Bool.and_eq_true, Bool.or_eq_true, Bool.not_eq_true, Bool.not_eq_false, Bool.false_eq_true, Decidable.not_not, Bool.not_eq_eq_eq_not, Bool.not_true, Bool.not_false] at *); simp_all; done)))
set_option maxRecDepth 100000 in
set_option maxHeartbeats 8000000 in
theorem stmts_54 (A : Option Addr) (L : List Nd) (c i : Nat) (w : World) (h : TreeAt w w.heap.size A L) (hc : L.length ≤ c) (hm : c ≤ maxLen) (hL : L.length ≤ 1000000000000) (hi : i < L.length) (hk : (nd L i).k = 54) : Calls Tryz.prog 81 #[.agg #[.slice A L.length c], .int .i64 (i : Int)] w fun e w' => e = .returned (.bool (stmtsB L (nd L i))) ∧ Below w.heap.size w w' := by
  have hT := Lib.hid h
  have hm2 := Lib.hid hm
  obtain ⟨ad, rfl, hn⟩ := h i hi
  have hb2 := hn.blk
  have hb1 : ad.block < w.heap.size := (by rw [block_add] at hb2; exact hb2)
  obtain ⟨K0, kc0, c0, c1, c2, c3, c4, hK0, hkk, hkm⟩ := node_open hn
  have HCr0 := Lib.hid (fun W (hb : Below w.heap.size w W) => row_lit (some ad) L c i W (h.later hb) hc hm hi [1000, 63] 2 #[.int .i64 1000, .int .i64 63] rfl (by decide) (by decide) rfl)
  have H := Lib.hid (show stmtsB L (nd L i) = ((rowB L (nd L i).ks [1000, 63])) by unfold stmtsB; rw [hk]; rfl)
  rw [H.out]
  clear H h hn
  generalize rowB L (nd L i).ks [1000, 63] = r0 at *
  generalize nd L i = y at *
  obtain ⟨k, x, m, ks, p⟩ := y
  simp only at hk c0 c1 c2 c3 c4 hkk hK0 ⊢
  subst hk
  have hKK := Lib.hid hK0
  clear hK0
  unfold maxLen at hm hkm
  generalize hM : ks.length = M at *
  have HM := Lib.hid hM
  clear hM
  go_enter Tryz.func81, Tryz.ntmps81
  go_upto_region 2 with fail
  obtain ⟨wa, hwa⟩ : ∃ wa : World, wa = ((w.alloc (.cells #[.slice (some ad) L.length c] 24)).alloc (.cells #[.int .i64 54, .string x, .int .i64 m, .slice K0 M kc0, .int .i64 p] 37)) := ⟨_, rfl⟩
  have xa : wa.cell? ⟨w.heap.size, 0, none⟩ = some (.slice (some ad) L.length c) := by rw [hwa]; simp [World.cell?_alloc_mark]
  have qa : Below w.heap.size w wa := by rw [hwa]; (exact bl)
  have za := Below.size qa
  have ya : wa.cell? ⟨w.heap.size + 1, 3, none⟩ = some (.slice K0 M kc0) := by rw [hwa]; simp [World.cell?_alloc_mark]
  have yk : wa.cell? ⟨w.heap.size + 1, 0, none⟩ = some (.int .i64 54) := by rw [hwa]; simp [World.cell?_alloc_mark]
  rw [← hwa]
  clear hwa
  go_wp2_with (first
    | (go_at_call 91; (with_reducible refine (HCr0.out wa qa).mono ?_); rintro e wr0 ⟨rfl, br0⟩; have qr0 := qa.trans (br0.mono qa.size); have zr0 := Below.size qr0; have xr0 : wr0.cell? ⟨w.heap.size, 0, none⟩ = some (.slice (some ad) L.length c) := (br0.cell (p := ⟨w.heap.size, 0, none⟩) (World.block_lt_of_cell? wa _ xa)).trans xa)
    | fail)
  all_goals go_ret
  all_goals (refine ⟨ret_bool ?_, (by (exact bl))⟩; first | rfl | (simp [*]; done) | ((try simp only [beq_iff_eq, beq_eq_false_iff_ne, bne_iff_ne, bne_eq_false_iff_eq, ne_eq, decide_eq_true_eq, decide_eq_false_iff_not, Bool.and_eq_true, Bool.or_eq_true, Bool.not_eq_true, Bool.not_eq_false, Bool.false_eq_true, Decidable.not_not, Bool.not_eq_eq_eq_not, Bool.not_true, Bool.not_false] at *); simp_all; done))
set_option maxRecDepth 100000 in
set_option maxHeartbeats 8000000 in
theorem stmts_55 (A : Option Addr) (L : List Nd) (c i : Nat) (w : World) (h : TreeAt w w.heap.size A L) (hc : L.length ≤ c) (hm : c ≤ maxLen) (hL : L.length ≤ 1000000000000) (hi : i < L.length) (hk : (nd L i).k = 55) : Calls Tryz.prog 81 #[.agg #[.slice A L.length c], .int .i64 (i : Int)] w fun e w' => e = .returned (.bool (stmtsB L (nd L i))) ∧ Below w.heap.size w w' := by
  have hT := Lib.hid h
  have hm2 := Lib.hid hm
  obtain ⟨ad, rfl, hn⟩ := h i hi
  have hb2 := hn.blk
  have hb1 : ad.block < w.heap.size := (by rw [block_add] at hb2; exact hb2)
  obtain ⟨K0, kc0, c0, c1, c2, c3, c4, hK0, hkk, hkm⟩ := node_open hn
  have HCr0 := Lib.hid (fun W (hb : Below w.heap.size w W) => row_lit (some ad) L c i W (h.later hb) hc hm hi [-40, -1000, -1000, 63] 4 #[.int .i64 (-40), .int .i64 (-1000), .int .i64 (-1000), .int .i64 63] rfl (by decide) (by decide) rfl)
  have HCv0 := Lib.hid (fun W (hb : Below w.heap.size w W) => kid_lit (some ad) L c i W (h.later hb) hc hm hi 0 0 rfl (by decide))
  have HCv1 := Lib.hid (fun W (hb : Below w.heap.size w W) => kid_lit (some ad) L c i W (h.later hb) hc hm hi 0 0 rfl (by decide))
  have H := Lib.hid (show stmtsB L (nd L i) = ((rowB L (nd L i).ks [-40, -1000, -1000, 63]) && ((kidB L (nd L i) 0).k == 1 || (kidB L (nd L i) 0).m == 0)) by unfold stmtsB; rw [hk]; rfl)
  rw [H.out]
  clear H h hn
  generalize rowB L (nd L i).ks [-40, -1000, -1000, 63] = r0 at *
  generalize kidB L (nd L i) 0 = y0 at *
  generalize nd L i = y at *
  obtain ⟨k, x, m, ks, p⟩ := y
  simp only at hk c0 c1 c2 c3 c4 hkk hK0 ⊢
  subst hk
  have hKK := Lib.hid hK0
  clear hK0
  unfold maxLen at hm hkm
  generalize hM : ks.length = M at *
  have HM := Lib.hid hM
  clear hM
  go_enter Tryz.func81, Tryz.ntmps81
  go_upto_region 2 with fail
  obtain ⟨wa, hwa⟩ : ∃ wa : World, wa = ((w.alloc (.cells #[.slice (some ad) L.length c] 24)).alloc (.cells #[.int .i64 55, .string x, .int .i64 m, .slice K0 M kc0, .int .i64 p] 37)) := ⟨_, rfl⟩
  have xa : wa.cell? ⟨w.heap.size, 0, none⟩ = some (.slice (some ad) L.length c) := by rw [hwa]; simp [World.cell?_alloc_mark]
  have qa : Below w.heap.size w wa := by rw [hwa]; (exact bl)
  have za := Below.size qa
  have ya : wa.cell? ⟨w.heap.size + 1, 3, none⟩ = some (.slice K0 M kc0) := by rw [hwa]; simp [World.cell?_alloc_mark]
  have yk : wa.cell? ⟨w.heap.size + 1, 0, none⟩ = some (.int .i64 55) := by rw [hwa]; simp [World.cell?_alloc_mark]
  rw [← hwa]
  clear hwa
  go_wp2_with (first
    | (go_at_call 91; (with_reducible refine (HCr0.out wa qa).mono ?_); rintro e wr0 ⟨rfl, br0⟩; have qr0 := qa.trans (br0.mono qa.size); have zr0 := Below.size qr0; have xr0 : wr0.cell? ⟨w.heap.size, 0, none⟩ = some (.slice (some ad) L.length c) := (br0.cell (p := ⟨w.heap.size, 0, none⟩) (World.block_lt_of_cell? wa _ xa)).trans xa)
    | (go_at_call 93; (with_reducible refine (HCv0.out wr0 qr0).mono ?_); rintro e wv0 ⟨⟨Kv0, kcv0, rfl, _, _, _⟩, bv0⟩; unfold nodeV; have qv0 := qr0.trans (bv0.mono qr0.size); have zv0 := Below.size qv0; have xv0 : wv0.cell? ⟨w.heap.size, 0, none⟩ = some (.slice (some ad) L.length c) := (bv0.cell (p := ⟨w.heap.size, 0, none⟩) (World.block_lt_of_cell? wr0 _ xr0)).trans xr0)
    | (go_at_call 93; (with_reducible refine (HCv1.out wv0 qv0).mono ?_); rintro e wv1 ⟨⟨Kv1, kcv1, rfl, _, _, _⟩, bv1⟩; unfold nodeV; have qv1 := qv0.trans (bv1.mono qv0.size); have zv1 := Below.size qv1; have xv1 : wv1.cell? ⟨w.heap.size, 0, none⟩ = some (.slice (some ad) L.length c) := (bv1.cell (p := ⟨w.heap.size, 0, none⟩) (World.block_lt_of_cell? wv0 _ xv0)).trans xv0)
    | fail)
  all_goals go_ret
  all_goals (refine ⟨ret_bool ?_, (by (exact bl))⟩; first | rfl | (simp [*]; done) | ((try simp only [beq_iff_eq, beq_eq_false_iff_ne, bne_iff_ne, bne_eq_false_iff_eq, ne_eq, decide_eq_true_eq, decide_eq_false_iff_not, Bool.and_eq_true, Bool.or_eq_true, Bool.not_eq_true, Bool.not_eq_false, Bool.false_eq_true, Decidable.not_not, Bool.not_eq_eq_eq_not, Bool.not_true, Bool.not_false] at *); simp_all; done))
set_option maxRecDepth 100000 in
set_option maxHeartbeats 8000000 in
theorem stmts_56 (A : Option Addr) (L : List Nd) (c i : Nat) (w : World) (h : TreeAt w w.heap.size A L) (hc : L.length ≤ c) (hm : c ≤ maxLen) (hL : L.length ≤ 1000000000000) (hi : i < L.length) (hk : (nd L i).k = 56) : Calls Tryz.prog 81 #[.agg #[.slice A L.length c], .int .i64 (i : Int)] w fun e w' => e = .returned (.bool (stmtsB L (nd L i))) ∧ Below w.heap.size w w' := by
  have hT := Lib.hid h
  have hm2 := Lib.hid hm
  obtain ⟨ad, rfl, hn⟩ := h i hi
  have hb2 := hn.blk
  have hb1 : ad.block < w.heap.size := (by rw [block_add] at hb2; exact hb2)
  obtain ⟨K0, kc0, c0, c1, c2, c3, c4, hK0, hkk, hkm⟩ := node_open hn
  have HCr0 := Lib.hid (fun W (hb : Below w.heap.size w W) => row_lit (some ad) L c i W (h.later hb) hc hm hi [1000, 63] 2 #[.int .i64 1000, .int .i64 63] rfl (by decide) (by decide) rfl)
  have H := Lib.hid (show stmtsB L (nd L i) = ((rowB L (nd L i).ks [1000, 63])) by unfold stmtsB; rw [hk]; rfl)
  rw [H.out]
  clear H h hn
  generalize rowB L (nd L i).ks [1000, 63] = r0 at *
  generalize nd L i = y at *
  obtain ⟨k, x, m, ks, p⟩ := y
  simp only at hk c0 c1 c2 c3 c4 hkk hK0 ⊢
  subst hk
  have hKK := Lib.hid hK0
  clear hK0
  unfold maxLen at hm hkm
  generalize hM : ks.length = M at *
  have HM := Lib.hid hM
  clear hM
  go_enter Tryz.func81, Tryz.ntmps81
  go_upto_region 2 with fail
  obtain ⟨wa, hwa⟩ : ∃ wa : World, wa = ((w.alloc (.cells #[.slice (some ad) L.length c] 24)).alloc (.cells #[.int .i64 56, .string x, .int .i64 m, .slice K0 M kc0, .int .i64 p] 37)) := ⟨_, rfl⟩
  have xa : wa.cell? ⟨w.heap.size, 0, none⟩ = some (.slice (some ad) L.length c) := by rw [hwa]; simp [World.cell?_alloc_mark]
  have qa : Below w.heap.size w wa := by rw [hwa]; (exact bl)
  have za := Below.size qa
  have ya : wa.cell? ⟨w.heap.size + 1, 3, none⟩ = some (.slice K0 M kc0) := by rw [hwa]; simp [World.cell?_alloc_mark]
  have yk : wa.cell? ⟨w.heap.size + 1, 0, none⟩ = some (.int .i64 56) := by rw [hwa]; simp [World.cell?_alloc_mark]
  rw [← hwa]
  clear hwa
  go_wp2_with (first
    | (go_at_call 91; (with_reducible refine (HCr0.out wa qa).mono ?_); rintro e wr0 ⟨rfl, br0⟩; have qr0 := qa.trans (br0.mono qa.size); have zr0 := Below.size qr0; have xr0 : wr0.cell? ⟨w.heap.size, 0, none⟩ = some (.slice (some ad) L.length c) := (br0.cell (p := ⟨w.heap.size, 0, none⟩) (World.block_lt_of_cell? wa _ xa)).trans xa)
    | fail)
  all_goals go_ret
  all_goals (refine ⟨ret_bool ?_, (by (exact bl))⟩; first | rfl | (simp [*]; done) | ((try simp only [beq_iff_eq, beq_eq_false_iff_ne, bne_iff_ne, bne_eq_false_iff_eq, ne_eq, decide_eq_true_eq, decide_eq_false_iff_not, Bool.and_eq_true, Bool.or_eq_true, Bool.not_eq_true, Bool.not_eq_false, Bool.false_eq_true, Decidable.not_not, Bool.not_eq_eq_eq_not, Bool.not_true, Bool.not_false] at *); simp_all; done))
set_option maxRecDepth 100000 in
set_option maxHeartbeats 8000000 in
theorem stmts_57 (A : Option Addr) (L : List Nd) (c i : Nat) (w : World) (h : TreeAt w w.heap.size A L) (hc : L.length ≤ c) (hm : c ≤ maxLen) (hL : L.length ≤ 1000000000000) (hi : i < L.length) (hk : (nd L i).k = 57) : Calls Tryz.prog 81 #[.agg #[.slice A L.length c], .int .i64 (i : Int)] w fun e w' => e = .returned (.bool (stmtsB L (nd L i))) ∧ Below w.heap.size w w' := by
  have hT := Lib.hid h
  have hm2 := Lib.hid hm
  obtain ⟨ad, rfl, hn⟩ := h i hi
  have hb2 := hn.blk
  have hb1 : ad.block < w.heap.size := (by rw [block_add] at hb2; exact hb2)
  obtain ⟨K0, kc0, c0, c1, c2, c3, c4, hK0, hkk, hkm⟩ := node_open hn
  have HCr0 := Lib.hid (fun W (hb : Below w.heap.size w W) => row_lit (some ad) L c i W (h.later hb) hc hm hi [-1000] 1 #[.int .i64 (-1000)] rfl (by decide) (by decide) rfl)
  have H := Lib.hid (show stmtsB L (nd L i) = ((rowB L (nd L i).ks [-1000])) by unfold stmtsB; rw [hk]; rfl)
  rw [H.out]
  clear H h hn
  generalize rowB L (nd L i).ks [-1000] = r0 at *
  generalize nd L i = y at *
  obtain ⟨k, x, m, ks, p⟩ := y
  simp only at hk c0 c1 c2 c3 c4 hkk hK0 ⊢
  subst hk
  have hKK := Lib.hid hK0
  clear hK0
  unfold maxLen at hm hkm
  generalize hM : ks.length = M at *
  have HM := Lib.hid hM
  clear hM
  go_enter Tryz.func81, Tryz.ntmps81
  go_upto_region 2 with fail
  obtain ⟨wa, hwa⟩ : ∃ wa : World, wa = ((w.alloc (.cells #[.slice (some ad) L.length c] 24)).alloc (.cells #[.int .i64 57, .string x, .int .i64 m, .slice K0 M kc0, .int .i64 p] 37)) := ⟨_, rfl⟩
  have xa : wa.cell? ⟨w.heap.size, 0, none⟩ = some (.slice (some ad) L.length c) := by rw [hwa]; simp [World.cell?_alloc_mark]
  have qa : Below w.heap.size w wa := by rw [hwa]; (exact bl)
  have za := Below.size qa
  have ya : wa.cell? ⟨w.heap.size + 1, 3, none⟩ = some (.slice K0 M kc0) := by rw [hwa]; simp [World.cell?_alloc_mark]
  have yk : wa.cell? ⟨w.heap.size + 1, 0, none⟩ = some (.int .i64 57) := by rw [hwa]; simp [World.cell?_alloc_mark]
  rw [← hwa]
  clear hwa
  go_wp2_with (first
    | (go_at_call 91; (with_reducible refine (HCr0.out wa qa).mono ?_); rintro e wr0 ⟨rfl, br0⟩; have qr0 := qa.trans (br0.mono qa.size); have zr0 := Below.size qr0; have xr0 : wr0.cell? ⟨w.heap.size, 0, none⟩ = some (.slice (some ad) L.length c) := (br0.cell (p := ⟨w.heap.size, 0, none⟩) (World.block_lt_of_cell? wa _ xa)).trans xa)
    | fail)
  all_goals go_ret
  all_goals (refine ⟨ret_bool ?_, (by (exact bl))⟩; first | rfl | (simp [*]; done) | ((try simp only [beq_iff_eq, beq_eq_false_iff_ne, bne_iff_ne, bne_eq_false_iff_eq, ne_eq, decide_eq_true_eq, decide_eq_false_iff_not, Bool.and_eq_true, Bool.or_eq_true, Bool.not_eq_true, Bool.not_eq_false, Bool.false_eq_true, Decidable.not_not, Bool.not_eq_eq_eq_not, Bool.not_true, Bool.not_false] at *); simp_all; done))
set_option maxRecDepth 100000 in
set_option maxHeartbeats 8000000 in
theorem stmts_60 (A : Option Addr) (L : List Nd) (c i : Nat) (w : World) (h : TreeAt w w.heap.size A L) (hc : L.length ≤ c) (hm : c ≤ maxLen) (hL : L.length ≤ 1000000000000) (hi : i < L.length) (hk : (nd L i).k = 60) : Calls Tryz.prog 81 #[.agg #[.slice A L.length c], .int .i64 (i : Int)] w fun e w' => e = .returned (.bool (stmtsB L (nd L i))) ∧ Below w.heap.size w w' := by
  have hT := Lib.hid h
  have hm2 := Lib.hid hm
  obtain ⟨ad, rfl, hn⟩ := h i hi
  have hb2 := hn.blk
  have hb1 : ad.block < w.heap.size := (by rw [block_add] at hb2; exact hb2)
  obtain ⟨K0, kc0, c0, c1, c2, c3, c4, hK0, hkk, hkm⟩ := node_open hn
  have HCr0 := Lib.hid (fun W (hb : Below w.heap.size w W) => row_lit (some ad) L c i W (h.later hb) hc hm hi [1000] 1 #[.int .i64 1000] rfl (by decide) (by decide) rfl)
  have H := Lib.hid (show stmtsB L (nd L i) = ((rowB L (nd L i).ks [1000])) by unfold stmtsB; rw [hk]; rfl)
  rw [H.out]
  clear H h hn
  generalize rowB L (nd L i).ks [1000] = r0 at *
  generalize nd L i = y at *
  obtain ⟨k, x, m, ks, p⟩ := y
  simp only at hk c0 c1 c2 c3 c4 hkk hK0 ⊢
  subst hk
  have hKK := Lib.hid hK0
  clear hK0
  unfold maxLen at hm hkm
  generalize hM : ks.length = M at *
  have HM := Lib.hid hM
  clear hM
  go_enter Tryz.func81, Tryz.ntmps81
  go_upto_region 2 with fail
  obtain ⟨wa, hwa⟩ : ∃ wa : World, wa = ((w.alloc (.cells #[.slice (some ad) L.length c] 24)).alloc (.cells #[.int .i64 60, .string x, .int .i64 m, .slice K0 M kc0, .int .i64 p] 37)) := ⟨_, rfl⟩
  have xa : wa.cell? ⟨w.heap.size, 0, none⟩ = some (.slice (some ad) L.length c) := by rw [hwa]; simp [World.cell?_alloc_mark]
  have qa : Below w.heap.size w wa := by rw [hwa]; (exact bl)
  have za := Below.size qa
  have ya : wa.cell? ⟨w.heap.size + 1, 3, none⟩ = some (.slice K0 M kc0) := by rw [hwa]; simp [World.cell?_alloc_mark]
  have yk : wa.cell? ⟨w.heap.size + 1, 0, none⟩ = some (.int .i64 60) := by rw [hwa]; simp [World.cell?_alloc_mark]
  rw [← hwa]
  clear hwa
  go_wp2_with (first
    | (go_at_call 91; (with_reducible refine (HCr0.out wa qa).mono ?_); rintro e wr0 ⟨rfl, br0⟩; have qr0 := qa.trans (br0.mono qa.size); have zr0 := Below.size qr0; have xr0 : wr0.cell? ⟨w.heap.size, 0, none⟩ = some (.slice (some ad) L.length c) := (br0.cell (p := ⟨w.heap.size, 0, none⟩) (World.block_lt_of_cell? wa _ xa)).trans xa)
    | fail)
  all_goals go_ret
  all_goals (refine ⟨ret_bool ?_, (by (exact bl))⟩; first | rfl | (simp [*]; done) | ((try simp only [beq_iff_eq, beq_eq_false_iff_ne, bne_iff_ne, bne_eq_false_iff_eq, ne_eq, decide_eq_true_eq, decide_eq_false_iff_not, Bool.and_eq_true, Bool.or_eq_true, Bool.not_eq_true, Bool.not_eq_false, Bool.false_eq_true, Decidable.not_not, Bool.not_eq_eq_eq_not, Bool.not_true, Bool.not_false] at *); simp_all; done))
set_option maxRecDepth 100000 in
set_option maxHeartbeats 8000000 in
theorem stmts_64 (A : Option Addr) (L : List Nd) (c i : Nat) (w : World) (h : TreeAt w w.heap.size A L) (hc : L.length ≤ c) (hm : c ≤ maxLen) (hL : L.length ≤ 1000000000000) (hi : i < L.length) (hk : (nd L i).k = 64) : Calls Tryz.prog 81 #[.agg #[.slice A L.length c], .int .i64 (i : Int)] w fun e w' => e = .returned (.bool (stmtsB L (nd L i))) ∧ Below w.heap.size w w' := by
  have hT := Lib.hid h
  have hm2 := Lib.hid hm
  obtain ⟨ad, rfl, hn⟩ := h i hi
  have hb2 := hn.blk
  have hb1 : ad.block < w.heap.size := (by rw [block_add] at hb2; exact hb2)
  obtain ⟨K0, kc0, c0, c1, c2, c3, c4, hK0, hkk, hkm⟩ := node_open hn
  have HCr0 := Lib.hid (fun W (hb : Below w.heap.size w W) => row_lit (some ad) L c i W (h.later hb) hc hm hi [1000] 1 #[.int .i64 1000] rfl (by decide) (by decide) rfl)
  have H := Lib.hid (show stmtsB L (nd L i) = ((rowB L (nd L i).ks [1000])) by unfold stmtsB; rw [hk]; rfl)
  rw [H.out]
  clear H h hn
  generalize rowB L (nd L i).ks [1000] = r0 at *
  generalize nd L i = y at *
  obtain ⟨k, x, m, ks, p⟩ := y
  simp only at hk c0 c1 c2 c3 c4 hkk hK0 ⊢
  subst hk
  have hKK := Lib.hid hK0
  clear hK0
  unfold maxLen at hm hkm
  generalize hM : ks.length = M at *
  have HM := Lib.hid hM
  clear hM
  go_enter Tryz.func81, Tryz.ntmps81
  go_upto_region 2 with fail
  obtain ⟨wa, hwa⟩ : ∃ wa : World, wa = ((w.alloc (.cells #[.slice (some ad) L.length c] 24)).alloc (.cells #[.int .i64 64, .string x, .int .i64 m, .slice K0 M kc0, .int .i64 p] 37)) := ⟨_, rfl⟩
  have xa : wa.cell? ⟨w.heap.size, 0, none⟩ = some (.slice (some ad) L.length c) := by rw [hwa]; simp [World.cell?_alloc_mark]
  have qa : Below w.heap.size w wa := by rw [hwa]; (exact bl)
  have za := Below.size qa
  have ya : wa.cell? ⟨w.heap.size + 1, 3, none⟩ = some (.slice K0 M kc0) := by rw [hwa]; simp [World.cell?_alloc_mark]
  have yk : wa.cell? ⟨w.heap.size + 1, 0, none⟩ = some (.int .i64 64) := by rw [hwa]; simp [World.cell?_alloc_mark]
  rw [← hwa]
  clear hwa
  go_wp2_with (first
    | (go_at_call 91; (with_reducible refine (HCr0.out wa qa).mono ?_); rintro e wr0 ⟨rfl, br0⟩; have qr0 := qa.trans (br0.mono qa.size); have zr0 := Below.size qr0; have xr0 : wr0.cell? ⟨w.heap.size, 0, none⟩ = some (.slice (some ad) L.length c) := (br0.cell (p := ⟨w.heap.size, 0, none⟩) (World.block_lt_of_cell? wa _ xa)).trans xa)
    | fail)
  all_goals go_ret
  all_goals (refine ⟨ret_bool ?_, (by (exact bl))⟩; first | rfl | (simp [*]; done) | ((try simp only [beq_iff_eq, beq_eq_false_iff_ne, bne_iff_ne, bne_eq_false_iff_eq, ne_eq, decide_eq_true_eq, decide_eq_false_iff_not, Bool.and_eq_true, Bool.or_eq_true, Bool.not_eq_true, Bool.not_eq_false, Bool.false_eq_true, Decidable.not_not, Bool.not_eq_eq_eq_not, Bool.not_true, Bool.not_false] at *); simp_all; done))
set_option maxRecDepth 100000 in
set_option maxHeartbeats 8000000 in
theorem stmts_61 (A : Option Addr) (L : List Nd) (c i : Nat) (w : World) (h : TreeAt w w.heap.size A L) (hc : L.length ≤ c) (hm : c ≤ maxLen) (hL : L.length ≤ 1000000000000) (hi : i < L.length) (hk : (nd L i).k = 61) : Calls Tryz.prog 81 #[.agg #[.slice A L.length c], .int .i64 (i : Int)] w fun e w' => e = .returned (.bool (stmtsB L (nd L i))) ∧ Below w.heap.size w w' := by
  have hT := Lib.hid h
  have hm2 := Lib.hid hm
  obtain ⟨ad, rfl, hn⟩ := h i hi
  have hb2 := hn.blk
  have hb1 : ad.block < w.heap.size := (by rw [block_add] at hb2; exact hb2)
  obtain ⟨K0, kc0, c0, c1, c2, c3, c4, hK0, hkk, hkm⟩ := node_open hn
  have HCr0 := Lib.hid (fun W (hb : Below w.heap.size w W) => row_lit (some ad) L c i W (h.later hb) hc hm hi [63, -62, -63] 3 #[.int .i64 63, .int .i64 (-62), .int .i64 (-63)] rfl (by decide) (by decide) rfl)
  have HCv0 := Lib.hid (fun W (hb : Below w.heap.size w W) => kid_lit (some ad) L c i W (h.later hb) hc hm hi 1 1 rfl (by decide))
  have HCv1 := Lib.hid (fun W (hb : Below w.heap.size w W) => kid_lit (some ad) L c i W (h.later hb) hc hm hi 2 2 rfl (by decide))
  have H := Lib.hid (show stmtsB L (nd L i) = ((rowB L (nd L i).ks [63, -62, -63]) && ((kidB L (nd L i) 1).k == 62 || (kidB L (nd L i) 2).k == 63)) by unfold stmtsB; rw [hk]; rfl)
  rw [H.out]
  clear H h hn
  generalize rowB L (nd L i).ks [63, -62, -63] = r0 at *
  generalize kidB L (nd L i) 1 = y1 at *
  generalize kidB L (nd L i) 2 = y2 at *
  generalize nd L i = y at *
  obtain ⟨k, x, m, ks, p⟩ := y
  simp only at hk c0 c1 c2 c3 c4 hkk hK0 ⊢
  subst hk
  have hKK := Lib.hid hK0
  clear hK0
  unfold maxLen at hm hkm
  generalize hM : ks.length = M at *
  have HM := Lib.hid hM
  clear hM
  go_enter Tryz.func81, Tryz.ntmps81
  go_upto_region 2 with fail
  obtain ⟨wa, hwa⟩ : ∃ wa : World, wa = ((w.alloc (.cells #[.slice (some ad) L.length c] 24)).alloc (.cells #[.int .i64 61, .string x, .int .i64 m, .slice K0 M kc0, .int .i64 p] 37)) := ⟨_, rfl⟩
  have xa : wa.cell? ⟨w.heap.size, 0, none⟩ = some (.slice (some ad) L.length c) := by rw [hwa]; simp [World.cell?_alloc_mark]
  have qa : Below w.heap.size w wa := by rw [hwa]; (exact bl)
  have za := Below.size qa
  have ya : wa.cell? ⟨w.heap.size + 1, 3, none⟩ = some (.slice K0 M kc0) := by rw [hwa]; simp [World.cell?_alloc_mark]
  have yk : wa.cell? ⟨w.heap.size + 1, 0, none⟩ = some (.int .i64 61) := by rw [hwa]; simp [World.cell?_alloc_mark]
  rw [← hwa]
  clear hwa
  go_wp2_with (first
    | (go_at_call 91; (with_reducible refine (HCr0.out wa qa).mono ?_); rintro e wr0 ⟨rfl, br0⟩; have qr0 := qa.trans (br0.mono qa.size); have zr0 := Below.size qr0; have xr0 : wr0.cell? ⟨w.heap.size, 0, none⟩ = some (.slice (some ad) L.length c) := (br0.cell (p := ⟨w.heap.size, 0, none⟩) (World.block_lt_of_cell? wa _ xa)).trans xa)
    | (go_at_call 93; (with_reducible refine (HCv0.out wr0 qr0).mono ?_); rintro e wv0 ⟨⟨Kv0, kcv0, rfl, _, _, _⟩, bv0⟩; unfold nodeV; have qv0 := qr0.trans (bv0.mono qr0.size); have zv0 := Below.size qv0; have xv0 : wv0.cell? ⟨w.heap.size, 0, none⟩ = some (.slice (some ad) L.length c) := (bv0.cell (p := ⟨w.heap.size, 0, none⟩) (World.block_lt_of_cell? wr0 _ xr0)).trans xr0)
    | (go_at_call 93; (with_reducible refine (HCv1.out wv0 qv0).mono ?_); rintro e wv1 ⟨⟨Kv1, kcv1, rfl, _, _, _⟩, bv1⟩; unfold nodeV; have qv1 := qv0.trans (bv1.mono qv0.size); have zv1 := Below.size qv1; have xv1 : wv1.cell? ⟨w.heap.size, 0, none⟩ = some (.slice (some ad) L.length c) := (bv1.cell (p := ⟨w.heap.size, 0, none⟩) (World.block_lt_of_cell? wv0 _ xv0)).trans xv0)
    | fail)
  all_goals go_ret
  all_goals (refine ⟨ret_bool ?_, (by (exact bl))⟩; first | rfl | (simp [*]; done) | ((try simp only [beq_iff_eq, beq_eq_false_iff_ne, bne_iff_ne, bne_eq_false_iff_eq, ne_eq, decide_eq_true_eq, decide_eq_false_iff_not, Bool.and_eq_true, Bool.or_eq_true, Bool.not_eq_true, Bool.not_eq_false, Bool.false_eq_true, Decidable.not_not, Bool.not_eq_eq_eq_not, Bool.not_true, Bool.not_false] at *); simp_all; done))
set_option maxRecDepth 100000 in
set_option maxHeartbeats 8000000 in
theorem stmts_62 (A : Option Addr) (L : List Nd) (c i : Nat) (w : World) (h : TreeAt w w.heap.size A L) (hc : L.length ≤ c) (hm : c ≤ maxLen) (hL : L.length ≤ 1000000000000) (hi : i < L.length) (hk : (nd L i).k = 62) : Calls Tryz.prog 81 #[.agg #[.slice A L.length c], .int .i64 (i : Int)] w fun e w' => e = .returned (.bool (stmtsB L (nd L i))) ∧ Below w.heap.size w w' := by
  have hT := Lib.hid h
  have hm2 := Lib.hid hm
  obtain ⟨ad, rfl, hn⟩ := h i hi
  have hb2 := hn.blk
  have hb1 : ad.block < w.heap.size := (by rw [block_add] at hb2; exact hb2)
  obtain ⟨K0, kc0, c0, c1, c2, c3, c4, hK0, hkk, hkm⟩ := node_open hn
  have HCr0 := Lib.hid (fun W (hb : Below w.heap.size w W) => row_lit (some ad) L c i W (h.later hb) hc hm hi [63] 1 #[.int .i64 63] rfl (by decide) (by decide) rfl)
  have H := Lib.hid (show stmtsB L (nd L i) = ((rowB L (nd L i).ks [63])) by unfold stmtsB; rw [hk]; rfl)
  rw [H.out]
  clear H h hn
  generalize rowB L (nd L i).ks [63] = r0 at *
  generalize nd L i = y at *
  obtain ⟨k, x, m, ks, p⟩ := y
  simp only at hk c0 c1 c2 c3 c4 hkk hK0 ⊢
  subst hk
  have hKK := Lib.hid hK0
  clear hK0
  unfold maxLen at hm hkm
  generalize hM : ks.length = M at *
  have HM := Lib.hid hM
  clear hM
  go_enter Tryz.func81, Tryz.ntmps81
  go_upto_region 2 with fail
  obtain ⟨wa, hwa⟩ : ∃ wa : World, wa = ((w.alloc (.cells #[.slice (some ad) L.length c] 24)).alloc (.cells #[.int .i64 62, .string x, .int .i64 m, .slice K0 M kc0, .int .i64 p] 37)) := ⟨_, rfl⟩
  have xa : wa.cell? ⟨w.heap.size, 0, none⟩ = some (.slice (some ad) L.length c) := by rw [hwa]; simp [World.cell?_alloc_mark]
  have qa : Below w.heap.size w wa := by rw [hwa]; (exact bl)
  have za := Below.size qa
  have ya : wa.cell? ⟨w.heap.size + 1, 3, none⟩ = some (.slice K0 M kc0) := by rw [hwa]; simp [World.cell?_alloc_mark]
  have yk : wa.cell? ⟨w.heap.size + 1, 0, none⟩ = some (.int .i64 62) := by rw [hwa]; simp [World.cell?_alloc_mark]
  rw [← hwa]
  clear hwa
  go_wp2_with (first
    | (go_at_call 91; (with_reducible refine (HCr0.out wa qa).mono ?_); rintro e wr0 ⟨rfl, br0⟩; have qr0 := qa.trans (br0.mono qa.size); have zr0 := Below.size qr0; have xr0 : wr0.cell? ⟨w.heap.size, 0, none⟩ = some (.slice (some ad) L.length c) := (br0.cell (p := ⟨w.heap.size, 0, none⟩) (World.block_lt_of_cell? wa _ xa)).trans xa)
    | fail)
  all_goals go_ret
  all_goals (refine ⟨ret_bool ?_, (by (exact bl))⟩; first | rfl | (simp [*]; done) | ((try simp only [beq_iff_eq, beq_eq_false_iff_ne, bne_iff_ne, bne_eq_false_iff_eq, ne_eq, decide_eq_true_eq, decide_eq_false_iff_not, Bool.and_eq_true, Bool.or_eq_true, Bool.not_eq_true, Bool.not_eq_false, Bool.false_eq_true, Decidable.not_not, Bool.not_eq_eq_eq_not, Bool.not_true, Bool.not_false] at *); simp_all; done))
theorem types_any (A : Option Addr) (L : List Nd) (c i : Nat) (w : World) (h : TreeAt w w.heap.size A L) (hc : L.length ≤ c) (hm : c ≤ maxLen) (hL : L.length ≤ 1000000000000) (hi : i < L.length) (hk : 80 ≤ (nd L i).k ∧ (nd L i).k ≤ 87) : Calls Tryz.prog 78 #[.agg #[.slice A L.length c], .int .i64 (i : Int)] w fun e w' => e = .returned (.bool (typesB L (nd L i))) ∧ Below w.heap.size w w' := by
  have h2 : (nd L i).k = 80 ∨ (nd L i).k = 81 ∨ (nd L i).k = 82 ∨ (nd L i).k = 83 ∨ (nd L i).k = 85 ∨ (nd L i).k = 84 ∨ (nd L i).k = 86 ∨ (nd L i).k = 87 := by omega
  rcases h2 with h2 | h2 | h2 | h2 | h2 | h2 | h2 | h2
  · exact types_80 A L c i w h hc hm hL hi h2
  · exact types_81 A L c i w h hc hm hL hi h2
  · exact types_82 A L c i w h hc hm hL hi h2
  · exact types_83 A L c i w h hc hm hL hi h2
  · exact types_85 A L c i w h hc hm hL hi h2
  · exact types_84 A L c i w h hc hm hL hi h2
  · exact types_86 A L c i w h hc hm hL hi h2
  · exact types_87 A L c i w h hc hm hL hi h2
theorem stmts_any (A : Option Addr) (L : List Nd) (c i : Nat) (w : World) (h : TreeAt w w.heap.size A L) (hc : L.length ≤ c) (hm : c ≤ maxLen) (hL : L.length ≤ 1000000000000) (hi : i < L.length) (hk : (nd L i).k = 1 ∨ (nd L i).k = 3 ∨ (53 ≤ (nd L i).k ∧ (nd L i).k ≤ 65)) : Calls Tryz.prog 81 #[.agg #[.slice A L.length c], .int .i64 (i : Int)] w fun e w' => e = .returned (.bool (stmtsB L (nd L i))) ∧ Below w.heap.size w w' := by
  have h2 : (nd L i).k = 1 ∨ (nd L i).k = 58 ∨ (nd L i).k = 59 ∨ (nd L i).k = 65 ∨ (nd L i).k = 3 ∨ (nd L i).k = 63 ∨ (nd L i).k = 53 ∨ (nd L i).k = 54 ∨ (nd L i).k = 55 ∨ (nd L i).k = 56 ∨ (nd L i).k = 57 ∨ (nd L i).k = 60 ∨ (nd L i).k = 64 ∨ (nd L i).k = 61 ∨ (nd L i).k = 62 := by omega
  rcases h2 with h2 | h2 | h2 | h2 | h2 | h2 | h2 | h2 | h2 | h2 | h2 | h2 | h2 | h2 | h2
  · exact stmts_1 A L c i w h hc hm hL hi h2
  · exact stmts_58 A L c i w h hc hm hL hi h2
  · exact stmts_59 A L c i w h hc hm hL hi h2
  · exact stmts_65 A L c i w h hc hm hL hi h2
  · exact stmts_3 A L c i w h hc hm hL hi h2
  · exact stmts_63 A L c i w h hc hm hL hi h2
  · exact stmts_53 A L c i w h hc hm hL hi h2
  · exact stmts_54 A L c i w h hc hm hL hi h2
  · exact stmts_55 A L c i w h hc hm hL hi h2
  · exact stmts_56 A L c i w h hc hm hL hi h2
  · exact stmts_57 A L c i w h hc hm hL hi h2
  · exact stmts_60 A L c i w h hc hm hL hi h2
  · exact stmts_64 A L c i w h hc hm hL hi h2
  · exact stmts_61 A L c i w h hc hm hL hi h2
  · exact stmts_62 A L c i w h hc hm hL hi h2
end Go.Proofs.YtpkdhciokiomlaaGreatDoor
