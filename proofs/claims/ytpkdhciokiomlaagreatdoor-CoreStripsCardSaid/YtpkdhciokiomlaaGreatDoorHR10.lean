/- The walks of the reference's exprs, kind for kind (printed by genrk.py). -/
import Derived.Test.YtpkdhciokiomlaaGreatDoorHBZ19
namespace Go.Proofs.YtpkdhciokiomlaaGreatDoor
set_option linter.unusedVariables false
set_option linter.unusedSimpArgs false
set_option linter.unnecessarySimpa false
open Go.RowKit
attribute [local go_sem] cell_alloc_add cell_set_add lt_more fld0 fld2
set_option maxRecDepth 100000 in
set_option maxHeartbeats 8000000 in
theorem exprs_10 (A : Option Addr) (L : List Nd) (c i : Nat) (w : World) (h : TreeAt w w.heap.size A L) (hc : L.length ≤ c) (hm : c ≤ maxLen) (hL : L.length ≤ 1000000000000) (hi : i < L.length) (hk : (nd L i).k = 10) : Calls Tryz.prog 79 #[.agg #[.slice A L.length c], .int .i64 (i : Int)] w fun e w' => e = .returned (.bool (exprsB L (nd L i))) ∧ Below w.heap.size w w' := by
  have hT := Lib.hid h
  have hm2 := Lib.hid hm
  obtain ⟨ad, rfl, hn⟩ := h i hi
  have hb2 := hn.blk
  have hb1 : ad.block < w.heap.size := (by rw [block_add] at hb2; exact hb2)
  obtain ⟨K0, kc0, c0, c1, c2, c3, c4, hK0, hkk, hkm⟩ := node_open hn
  have H := Lib.hid (show exprsB L (nd L i) = (decide ((nd L i).ks.length = 0)) by unfold exprsB; rw [hk]; rfl)
  rw [H.out]
  clear H h hn
  generalize nd L i = y at *
  obtain ⟨k, x, m, ks, p⟩ := y
  simp only at hk c0 c1 c2 c3 c4 hkk hK0 ⊢
  subst hk
  have hKK := Lib.hid hK0
  clear hK0
  unfold maxLen at hm hkm
  generalize hM : ks.length = M at *
  have HM := Lib.hid hM
  clear hM
  go_enter Tryz.func79, Tryz.ntmps79
  go_upto_region 2 with fail
  obtain ⟨wa, hwa⟩ : ∃ wa : World, wa = ((w.alloc (.cells #[.slice (some ad) L.length c] 24)).alloc (.cells #[.int .i64 10, .string x, .int .i64 m, .slice K0 M kc0, .int .i64 p] 37)) := ⟨_, rfl⟩
  have xa : wa.cell? ⟨w.heap.size, 0, none⟩ = some (.slice (some ad) L.length c) := by rw [hwa]; simp [World.cell?_alloc_mark]
  have qa : Below w.heap.size w wa := by rw [hwa]; (exact bl)
  have za := Below.size qa
  have ya : wa.cell? ⟨w.heap.size + 1, 3, none⟩ = some (.slice K0 M kc0) := by rw [hwa]; simp [World.cell?_alloc_mark]
  have yk : wa.cell? ⟨w.heap.size + 1, 0, none⟩ = some (.int .i64 10) := by rw [hwa]; simp [World.cell?_alloc_mark]
  rw [← hwa]
  clear hwa
  go_wp2
  all_goals go_ret
  all_goals exact ⟨ret_bool (by rw [Bool.eq_iff_iff]; simp <;> omega), (by (exact bl))⟩
set_option maxRecDepth 100000 in
set_option maxHeartbeats 8000000 in
theorem exprs_11 (A : Option Addr) (L : List Nd) (c i : Nat) (w : World) (h : TreeAt w w.heap.size A L) (hc : L.length ≤ c) (hm : c ≤ maxLen) (hL : L.length ≤ 1000000000000) (hi : i < L.length) (hk : (nd L i).k = 11) : Calls Tryz.prog 79 #[.agg #[.slice A L.length c], .int .i64 (i : Int)] w fun e w' => e = .returned (.bool (exprsB L (nd L i))) ∧ Below w.heap.size w w' := by
  have hT := Lib.hid h
  have hm2 := Lib.hid hm
  obtain ⟨ad, rfl, hn⟩ := h i hi
  have hb2 := hn.blk
  have hb1 : ad.block < w.heap.size := (by rw [block_add] at hb2; exact hb2)
  obtain ⟨K0, kc0, c0, c1, c2, c3, c4, hK0, hkk, hkm⟩ := node_open hn
  have H := Lib.hid (show exprsB L (nd L i) = (decide ((nd L i).ks.length = 0)) by unfold exprsB; rw [hk]; rfl)
  rw [H.out]
  clear H h hn
  generalize nd L i = y at *
  obtain ⟨k, x, m, ks, p⟩ := y
  simp only at hk c0 c1 c2 c3 c4 hkk hK0 ⊢
  subst hk
  have hKK := Lib.hid hK0
  clear hK0
  unfold maxLen at hm hkm
  generalize hM : ks.length = M at *
  have HM := Lib.hid hM
  clear hM
  go_enter Tryz.func79, Tryz.ntmps79
  go_upto_region 2 with fail
  obtain ⟨wa, hwa⟩ : ∃ wa : World, wa = ((w.alloc (.cells #[.slice (some ad) L.length c] 24)).alloc (.cells #[.int .i64 11, .string x, .int .i64 m, .slice K0 M kc0, .int .i64 p] 37)) := ⟨_, rfl⟩
  have xa : wa.cell? ⟨w.heap.size, 0, none⟩ = some (.slice (some ad) L.length c) := by rw [hwa]; simp [World.cell?_alloc_mark]
  have qa : Below w.heap.size w wa := by rw [hwa]; (exact bl)
  have za := Below.size qa
  have ya : wa.cell? ⟨w.heap.size + 1, 3, none⟩ = some (.slice K0 M kc0) := by rw [hwa]; simp [World.cell?_alloc_mark]
  have yk : wa.cell? ⟨w.heap.size + 1, 0, none⟩ = some (.int .i64 11) := by rw [hwa]; simp [World.cell?_alloc_mark]
  rw [← hwa]
  clear hwa
  go_wp2
  all_goals go_ret
  all_goals exact ⟨ret_bool (by rw [Bool.eq_iff_iff]; simp <;> omega), (by (exact bl))⟩
set_option maxRecDepth 100000 in
set_option maxHeartbeats 8000000 in
theorem exprs_13 (A : Option Addr) (L : List Nd) (c i : Nat) (w : World) (h : TreeAt w w.heap.size A L) (hc : L.length ≤ c) (hm : c ≤ maxLen) (hL : L.length ≤ 1000000000000) (hi : i < L.length) (hk : (nd L i).k = 13) : Calls Tryz.prog 79 #[.agg #[.slice A L.length c], .int .i64 (i : Int)] w fun e w' => e = .returned (.bool (exprsB L (nd L i))) ∧ Below w.heap.size w w' := by
  have hT := Lib.hid h
  have hm2 := Lib.hid hm
  obtain ⟨ad, rfl, hn⟩ := h i hi
  have hb2 := hn.blk
  have hb1 : ad.block < w.heap.size := (by rw [block_add] at hb2; exact hb2)
  obtain ⟨K0, kc0, c0, c1, c2, c3, c4, hK0, hkk, hkm⟩ := node_open hn
  have H := Lib.hid (show exprsB L (nd L i) = (decide ((nd L i).ks.length = 0)) by unfold exprsB; rw [hk]; rfl)
  rw [H.out]
  clear H h hn
  generalize nd L i = y at *
  obtain ⟨k, x, m, ks, p⟩ := y
  simp only at hk c0 c1 c2 c3 c4 hkk hK0 ⊢
  subst hk
  have hKK := Lib.hid hK0
  clear hK0
  unfold maxLen at hm hkm
  generalize hM : ks.length = M at *
  have HM := Lib.hid hM
  clear hM
  go_enter Tryz.func79, Tryz.ntmps79
  go_upto_region 2 with fail
  obtain ⟨wa, hwa⟩ : ∃ wa : World, wa = ((w.alloc (.cells #[.slice (some ad) L.length c] 24)).alloc (.cells #[.int .i64 13, .string x, .int .i64 m, .slice K0 M kc0, .int .i64 p] 37)) := ⟨_, rfl⟩
  have xa : wa.cell? ⟨w.heap.size, 0, none⟩ = some (.slice (some ad) L.length c) := by rw [hwa]; simp [World.cell?_alloc_mark]
  have qa : Below w.heap.size w wa := by rw [hwa]; (exact bl)
  have za := Below.size qa
  have ya : wa.cell? ⟨w.heap.size + 1, 3, none⟩ = some (.slice K0 M kc0) := by rw [hwa]; simp [World.cell?_alloc_mark]
  have yk : wa.cell? ⟨w.heap.size + 1, 0, none⟩ = some (.int .i64 13) := by rw [hwa]; simp [World.cell?_alloc_mark]
  rw [← hwa]
  clear hwa
  go_wp2
  all_goals go_ret
  all_goals exact ⟨ret_bool (by rw [Bool.eq_iff_iff]; simp <;> omega), (by (exact bl))⟩
set_option maxRecDepth 100000 in
set_option maxHeartbeats 8000000 in
theorem exprs_14 (A : Option Addr) (L : List Nd) (c i : Nat) (w : World) (h : TreeAt w w.heap.size A L) (hc : L.length ≤ c) (hm : c ≤ maxLen) (hL : L.length ≤ 1000000000000) (hi : i < L.length) (hk : (nd L i).k = 14) : Calls Tryz.prog 79 #[.agg #[.slice A L.length c], .int .i64 (i : Int)] w fun e w' => e = .returned (.bool (exprsB L (nd L i))) ∧ Below w.heap.size w w' := by
  have hT := Lib.hid h
  have hm2 := Lib.hid hm
  obtain ⟨ad, rfl, hn⟩ := h i hi
  have hb2 := hn.blk
  have hb1 : ad.block < w.heap.size := (by rw [block_add] at hb2; exact hb2)
  obtain ⟨K0, kc0, c0, c1, c2, c3, c4, hK0, hkk, hkm⟩ := node_open hn
  have H := Lib.hid (show exprsB L (nd L i) = (decide ((nd L i).ks.length = 0)) by unfold exprsB; rw [hk]; rfl)
  rw [H.out]
  clear H h hn
  generalize nd L i = y at *
  obtain ⟨k, x, m, ks, p⟩ := y
  simp only at hk c0 c1 c2 c3 c4 hkk hK0 ⊢
  subst hk
  have hKK := Lib.hid hK0
  clear hK0
  unfold maxLen at hm hkm
  generalize hM : ks.length = M at *
  have HM := Lib.hid hM
  clear hM
  go_enter Tryz.func79, Tryz.ntmps79
  go_upto_region 2 with fail
  obtain ⟨wa, hwa⟩ : ∃ wa : World, wa = ((w.alloc (.cells #[.slice (some ad) L.length c] 24)).alloc (.cells #[.int .i64 14, .string x, .int .i64 m, .slice K0 M kc0, .int .i64 p] 37)) := ⟨_, rfl⟩
  have xa : wa.cell? ⟨w.heap.size, 0, none⟩ = some (.slice (some ad) L.length c) := by rw [hwa]; simp [World.cell?_alloc_mark]
  have qa : Below w.heap.size w wa := by rw [hwa]; (exact bl)
  have za := Below.size qa
  have ya : wa.cell? ⟨w.heap.size + 1, 3, none⟩ = some (.slice K0 M kc0) := by rw [hwa]; simp [World.cell?_alloc_mark]
  have yk : wa.cell? ⟨w.heap.size + 1, 0, none⟩ = some (.int .i64 14) := by rw [hwa]; simp [World.cell?_alloc_mark]
  rw [← hwa]
  clear hwa
  go_wp2
  all_goals go_ret
  all_goals exact ⟨ret_bool (by rw [Bool.eq_iff_iff]; simp <;> omega), (by (exact bl))⟩
set_option maxRecDepth 100000 in
set_option maxHeartbeats 8000000 in
theorem exprs_15 (A : Option Addr) (L : List Nd) (c i : Nat) (w : World) (h : TreeAt w w.heap.size A L) (hc : L.length ≤ c) (hm : c ≤ maxLen) (hL : L.length ≤ 1000000000000) (hi : i < L.length) (hk : (nd L i).k = 15) : Calls Tryz.prog 79 #[.agg #[.slice A L.length c], .int .i64 (i : Int)] w fun e w' => e = .returned (.bool (exprsB L (nd L i))) ∧ Below w.heap.size w w' := by
  have hT := Lib.hid h
  have hm2 := Lib.hid hm
  obtain ⟨ad, rfl, hn⟩ := h i hi
  have hb2 := hn.blk
  have hb1 : ad.block < w.heap.size := (by rw [block_add] at hb2; exact hb2)
  obtain ⟨K0, kc0, c0, c1, c2, c3, c4, hK0, hkk, hkm⟩ := node_open hn
  have H := Lib.hid (show exprsB L (nd L i) = (decide ((nd L i).ks.length = 0)) by unfold exprsB; rw [hk]; rfl)
  rw [H.out]
  clear H h hn
  generalize nd L i = y at *
  obtain ⟨k, x, m, ks, p⟩ := y
  simp only at hk c0 c1 c2 c3 c4 hkk hK0 ⊢
  subst hk
  have hKK := Lib.hid hK0
  clear hK0
  unfold maxLen at hm hkm
  generalize hM : ks.length = M at *
  have HM := Lib.hid hM
  clear hM
  go_enter Tryz.func79, Tryz.ntmps79
  go_upto_region 2 with fail
  obtain ⟨wa, hwa⟩ : ∃ wa : World, wa = ((w.alloc (.cells #[.slice (some ad) L.length c] 24)).alloc (.cells #[.int .i64 15, .string x, .int .i64 m, .slice K0 M kc0, .int .i64 p] 37)) := ⟨_, rfl⟩
  have xa : wa.cell? ⟨w.heap.size, 0, none⟩ = some (.slice (some ad) L.length c) := by rw [hwa]; simp [World.cell?_alloc_mark]
  have qa : Below w.heap.size w wa := by rw [hwa]; (exact bl)
  have za := Below.size qa
  have ya : wa.cell? ⟨w.heap.size + 1, 3, none⟩ = some (.slice K0 M kc0) := by rw [hwa]; simp [World.cell?_alloc_mark]
  have yk : wa.cell? ⟨w.heap.size + 1, 0, none⟩ = some (.int .i64 15) := by rw [hwa]; simp [World.cell?_alloc_mark]
  rw [← hwa]
  clear hwa
  go_wp2
  all_goals go_ret
  all_goals exact ⟨ret_bool (by rw [Bool.eq_iff_iff]; simp <;> omega), (by (exact bl))⟩
set_option maxRecDepth 100000 in
set_option maxHeartbeats 8000000 in
theorem exprs_16 (A : Option Addr) (L : List Nd) (c i : Nat) (w : World) (h : TreeAt w w.heap.size A L) (hc : L.length ≤ c) (hm : c ≤ maxLen) (hL : L.length ≤ 1000000000000) (hi : i < L.length) (hk : (nd L i).k = 16) : Calls Tryz.prog 79 #[.agg #[.slice A L.length c], .int .i64 (i : Int)] w fun e w' => e = .returned (.bool (exprsB L (nd L i))) ∧ Below w.heap.size w w' := by
  have hT := Lib.hid h
  have hm2 := Lib.hid hm
  obtain ⟨ad, rfl, hn⟩ := h i hi
  have hb2 := hn.blk
  have hb1 : ad.block < w.heap.size := (by rw [block_add] at hb2; exact hb2)
  obtain ⟨K0, kc0, c0, c1, c2, c3, c4, hK0, hkk, hkm⟩ := node_open hn
  have H := Lib.hid (show exprsB L (nd L i) = (decide ((nd L i).ks.length = 0)) by unfold exprsB; rw [hk]; rfl)
  rw [H.out]
  clear H h hn
  generalize nd L i = y at *
  obtain ⟨k, x, m, ks, p⟩ := y
  simp only at hk c0 c1 c2 c3 c4 hkk hK0 ⊢
  subst hk
  have hKK := Lib.hid hK0
  clear hK0
  unfold maxLen at hm hkm
  generalize hM : ks.length = M at *
  have HM := Lib.hid hM
  clear hM
  go_enter Tryz.func79, Tryz.ntmps79
  go_upto_region 2 with fail
  obtain ⟨wa, hwa⟩ : ∃ wa : World, wa = ((w.alloc (.cells #[.slice (some ad) L.length c] 24)).alloc (.cells #[.int .i64 16, .string x, .int .i64 m, .slice K0 M kc0, .int .i64 p] 37)) := ⟨_, rfl⟩
  have xa : wa.cell? ⟨w.heap.size, 0, none⟩ = some (.slice (some ad) L.length c) := by rw [hwa]; simp [World.cell?_alloc_mark]
  have qa : Below w.heap.size w wa := by rw [hwa]; (exact bl)
  have za := Below.size qa
  have ya : wa.cell? ⟨w.heap.size + 1, 3, none⟩ = some (.slice K0 M kc0) := by rw [hwa]; simp [World.cell?_alloc_mark]
  have yk : wa.cell? ⟨w.heap.size + 1, 0, none⟩ = some (.int .i64 16) := by rw [hwa]; simp [World.cell?_alloc_mark]
  rw [← hwa]
  clear hwa
  go_wp2
  all_goals go_ret
  all_goals exact ⟨ret_bool (by rw [Bool.eq_iff_iff]; simp <;> omega), (by (exact bl))⟩
set_option maxRecDepth 100000 in
set_option maxHeartbeats 8000000 in
theorem exprs_17 (A : Option Addr) (L : List Nd) (c i : Nat) (w : World) (h : TreeAt w w.heap.size A L) (hc : L.length ≤ c) (hm : c ≤ maxLen) (hL : L.length ≤ 1000000000000) (hi : i < L.length) (hk : (nd L i).k = 17) : Calls Tryz.prog 79 #[.agg #[.slice A L.length c], .int .i64 (i : Int)] w fun e w' => e = .returned (.bool (exprsB L (nd L i))) ∧ Below w.heap.size w w' := by
  have hT := Lib.hid h
  have hm2 := Lib.hid hm
  obtain ⟨ad, rfl, hn⟩ := h i hi
  have hb2 := hn.blk
  have hb1 : ad.block < w.heap.size := (by rw [block_add] at hb2; exact hb2)
  obtain ⟨K0, kc0, c0, c1, c2, c3, c4, hK0, hkk, hkm⟩ := node_open hn
  have H := Lib.hid (show exprsB L (nd L i) = (decide ((nd L i).ks.length = 0)) by unfold exprsB; rw [hk]; rfl)
  rw [H.out]
  clear H h hn
  generalize nd L i = y at *
  obtain ⟨k, x, m, ks, p⟩ := y
  simp only at hk c0 c1 c2 c3 c4 hkk hK0 ⊢
  subst hk
  have hKK := Lib.hid hK0
  clear hK0
  unfold maxLen at hm hkm
  generalize hM : ks.length = M at *
  have HM := Lib.hid hM
  clear hM
  go_enter Tryz.func79, Tryz.ntmps79
  go_upto_region 2 with fail
  obtain ⟨wa, hwa⟩ : ∃ wa : World, wa = ((w.alloc (.cells #[.slice (some ad) L.length c] 24)).alloc (.cells #[.int .i64 17, .string x, .int .i64 m, .slice K0 M kc0, .int .i64 p] 37)) := ⟨_, rfl⟩
  have xa : wa.cell? ⟨w.heap.size, 0, none⟩ = some (.slice (some ad) L.length c) := by rw [hwa]; simp [World.cell?_alloc_mark]
  have qa : Below w.heap.size w wa := by rw [hwa]; (exact bl)
  have za := Below.size qa
  have ya : wa.cell? ⟨w.heap.size + 1, 3, none⟩ = some (.slice K0 M kc0) := by rw [hwa]; simp [World.cell?_alloc_mark]
  have yk : wa.cell? ⟨w.heap.size + 1, 0, none⟩ = some (.int .i64 17) := by rw [hwa]; simp [World.cell?_alloc_mark]
  rw [← hwa]
  clear hwa
  go_wp2
  all_goals go_ret
  all_goals exact ⟨ret_bool (by rw [Bool.eq_iff_iff]; simp <;> omega), (by (exact bl))⟩
set_option maxRecDepth 100000 in
set_option maxHeartbeats 8000000 in
theorem exprs_18 (A : Option Addr) (L : List Nd) (c i : Nat) (w : World) (h : TreeAt w w.heap.size A L) (hc : L.length ≤ c) (hm : c ≤ maxLen) (hL : L.length ≤ 1000000000000) (hi : i < L.length) (hk : (nd L i).k = 18) : Calls Tryz.prog 79 #[.agg #[.slice A L.length c], .int .i64 (i : Int)] w fun e w' => e = .returned (.bool (exprsB L (nd L i))) ∧ Below w.heap.size w w' := by
  have hT := Lib.hid h
  have hm2 := Lib.hid hm
  obtain ⟨ad, rfl, hn⟩ := h i hi
  have hb2 := hn.blk
  have hb1 : ad.block < w.heap.size := (by rw [block_add] at hb2; exact hb2)
  obtain ⟨K0, kc0, c0, c1, c2, c3, c4, hK0, hkk, hkm⟩ := node_open hn
  have H := Lib.hid (show exprsB L (nd L i) = (decide ((nd L i).ks.length = 0)) by unfold exprsB; rw [hk]; rfl)
  rw [H.out]
  clear H h hn
  generalize nd L i = y at *
  obtain ⟨k, x, m, ks, p⟩ := y
  simp only at hk c0 c1 c2 c3 c4 hkk hK0 ⊢
  subst hk
  have hKK := Lib.hid hK0
  clear hK0
  unfold maxLen at hm hkm
  generalize hM : ks.length = M at *
  have HM := Lib.hid hM
  clear hM
  go_enter Tryz.func79, Tryz.ntmps79
  go_upto_region 2 with fail
  obtain ⟨wa, hwa⟩ : ∃ wa : World, wa = ((w.alloc (.cells #[.slice (some ad) L.length c] 24)).alloc (.cells #[.int .i64 18, .string x, .int .i64 m, .slice K0 M kc0, .int .i64 p] 37)) := ⟨_, rfl⟩
  have xa : wa.cell? ⟨w.heap.size, 0, none⟩ = some (.slice (some ad) L.length c) := by rw [hwa]; simp [World.cell?_alloc_mark]
  have qa : Below w.heap.size w wa := by rw [hwa]; (exact bl)
  have za := Below.size qa
  have ya : wa.cell? ⟨w.heap.size + 1, 3, none⟩ = some (.slice K0 M kc0) := by rw [hwa]; simp [World.cell?_alloc_mark]
  have yk : wa.cell? ⟨w.heap.size + 1, 0, none⟩ = some (.int .i64 18) := by rw [hwa]; simp [World.cell?_alloc_mark]
  rw [← hwa]
  clear hwa
  go_wp2
  all_goals go_ret
  all_goals exact ⟨ret_bool (by rw [Bool.eq_iff_iff]; simp <;> omega), (by (exact bl))⟩
set_option maxRecDepth 100000 in
set_option maxHeartbeats 8000000 in
theorem exprs_32 (A : Option Addr) (L : List Nd) (c i : Nat) (w : World) (h : TreeAt w w.heap.size A L) (hc : L.length ≤ c) (hm : c ≤ maxLen) (hL : L.length ≤ 1000000000000) (hi : i < L.length) (hk : (nd L i).k = 32) : Calls Tryz.prog 79 #[.agg #[.slice A L.length c], .int .i64 (i : Int)] w fun e w' => e = .returned (.bool (exprsB L (nd L i))) ∧ Below w.heap.size w w' := by
  have hT := Lib.hid h
  have hm2 := Lib.hid hm
  obtain ⟨ad, rfl, hn⟩ := h i hi
  have hb2 := hn.blk
  have hb1 : ad.block < w.heap.size := (by rw [block_add] at hb2; exact hb2)
  obtain ⟨K0, kc0, c0, c1, c2, c3, c4, hK0, hkk, hkm⟩ := node_open hn
  have H := Lib.hid (show exprsB L (nd L i) = (decide ((nd L i).ks.length = 0)) by unfold exprsB; rw [hk]; rfl)
  rw [H.out]
  clear H h hn
  generalize nd L i = y at *
  obtain ⟨k, x, m, ks, p⟩ := y
  simp only at hk c0 c1 c2 c3 c4 hkk hK0 ⊢
  subst hk
  have hKK := Lib.hid hK0
  clear hK0
  unfold maxLen at hm hkm
  generalize hM : ks.length = M at *
  have HM := Lib.hid hM
  clear hM
  go_enter Tryz.func79, Tryz.ntmps79
  go_upto_region 2 with fail
  obtain ⟨wa, hwa⟩ : ∃ wa : World, wa = ((w.alloc (.cells #[.slice (some ad) L.length c] 24)).alloc (.cells #[.int .i64 32, .string x, .int .i64 m, .slice K0 M kc0, .int .i64 p] 37)) := ⟨_, rfl⟩
  have xa : wa.cell? ⟨w.heap.size, 0, none⟩ = some (.slice (some ad) L.length c) := by rw [hwa]; simp [World.cell?_alloc_mark]
  have qa : Below w.heap.size w wa := by rw [hwa]; (exact bl)
  have za := Below.size qa
  have ya : wa.cell? ⟨w.heap.size + 1, 3, none⟩ = some (.slice K0 M kc0) := by rw [hwa]; simp [World.cell?_alloc_mark]
  have yk : wa.cell? ⟨w.heap.size + 1, 0, none⟩ = some (.int .i64 32) := by rw [hwa]; simp [World.cell?_alloc_mark]
  rw [← hwa]
  clear hwa
  go_wp2
  all_goals go_ret
  all_goals exact ⟨ret_bool (by rw [Bool.eq_iff_iff]; simp <;> omega), (by (exact bl))⟩
set_option maxRecDepth 100000 in
set_option maxHeartbeats 8000000 in
theorem exprs_19 (A : Option Addr) (L : List Nd) (c i : Nat) (w : World) (h : TreeAt w w.heap.size A L) (hc : L.length ≤ c) (hm : c ≤ maxLen) (hL : L.length ≤ 1000000000000) (hi : i < L.length) (hk : (nd L i).k = 19) : Calls Tryz.prog 79 #[.agg #[.slice A L.length c], .int .i64 (i : Int)] w fun e w' => e = .returned (.bool (exprsB L (nd L i))) ∧ Below w.heap.size w w' := by
  have hT := Lib.hid h
  have hm2 := Lib.hid hm
  obtain ⟨ad, rfl, hn⟩ := h i hi
  have hb2 := hn.blk
  have hb1 : ad.block < w.heap.size := (by rw [block_add] at hb2; exact hb2)
  obtain ⟨K0, kc0, c0, c1, c2, c3, c4, hK0, hkk, hkm⟩ := node_open hn
  have HCr0 := Lib.hid (fun W (hb : Below w.heap.size w W) => each_any (some ad) L c i W (h.later hb) hc hm hi 1000 1000)
  have H := Lib.hid (show exprsB L (nd L i) = ((eachB L (nd L i).ks 1000 1000)) by unfold exprsB; rw [hk]; rfl)
  rw [H.out]
  clear H h hn
  generalize eachB L (nd L i).ks 1000 1000 = r0 at *
  generalize nd L i = y at *
  obtain ⟨k, x, m, ks, p⟩ := y
  simp only at hk c0 c1 c2 c3 c4 hkk hK0 ⊢
  subst hk
  have hKK := Lib.hid hK0
  clear hK0
  unfold maxLen at hm hkm
  generalize hM : ks.length = M at *
  have HM := Lib.hid hM
  clear hM
  go_enter Tryz.func79, Tryz.ntmps79
  go_upto_region 2 with fail
  obtain ⟨wa, hwa⟩ : ∃ wa : World, wa = ((w.alloc (.cells #[.slice (some ad) L.length c] 24)).alloc (.cells #[.int .i64 19, .string x, .int .i64 m, .slice K0 M kc0, .int .i64 p] 37)) := ⟨_, rfl⟩
  have xa : wa.cell? ⟨w.heap.size, 0, none⟩ = some (.slice (some ad) L.length c) := by rw [hwa]; simp [World.cell?_alloc_mark]
  have qa : Below w.heap.size w wa := by rw [hwa]; (exact bl)
  have za := Below.size qa
  have ya : wa.cell? ⟨w.heap.size + 1, 3, none⟩ = some (.slice K0 M kc0) := by rw [hwa]; simp [World.cell?_alloc_mark]
  have yk : wa.cell? ⟨w.heap.size + 1, 0, none⟩ = some (.int .i64 19) := by rw [hwa]; simp [World.cell?_alloc_mark]
  rw [← hwa]
  clear hwa
  go_wp2_with (first
    | (go_at_call 92; (with_reducible refine (HCr0.out wa qa).mono ?_); rintro e wr0 ⟨rfl, br0⟩; have qr0 := qa.trans (br0.mono qa.size); have zr0 := Below.size qr0; have xr0 : wr0.cell? ⟨w.heap.size, 0, none⟩ = some (.slice (some ad) L.length c) := (br0.cell (p := ⟨w.heap.size, 0, none⟩) (World.block_lt_of_cell? wa _ xa)).trans xa)
    | fail)
  all_goals go_ret
  all_goals (refine ⟨ret_bool ?_, (by (exact bl))⟩; first | rfl | (simp [*]; done) | ((try simp only [beq_iff_eq, beq_eq_false_iff_ne, bne_iff_ne, bne_eq_false_iff_eq, ne_eq, decide_eq_true_eq, decide_eq_false_iff_not, Bool.and_eq_true, Bool.or_eq_true, Bool.not_eq_true, Bool.not_eq_false, Bool.false_eq_true, Decidable.not_not, Bool.not_eq_eq_eq_not, Bool.not_true, Bool.not_false] at *); simp_all; done))
set_option maxRecDepth 100000 in
set_option maxHeartbeats 8000000 in
theorem exprs_20 (A : Option Addr) (L : List Nd) (c i : Nat) (w : World) (h : TreeAt w w.heap.size A L) (hc : L.length ≤ c) (hm : c ≤ maxLen) (hL : L.length ≤ 1000000000000) (hi : i < L.length) (hk : (nd L i).k = 20) : Calls Tryz.prog 79 #[.agg #[.slice A L.length c], .int .i64 (i : Int)] w fun e w' => e = .returned (.bool (exprsB L (nd L i))) ∧ Below w.heap.size w w' := by
  have hT := Lib.hid h
  have hm2 := Lib.hid hm
  obtain ⟨ad, rfl, hn⟩ := h i hi
  have hb2 := hn.blk
  have hb1 : ad.block < w.heap.size := (by rw [block_add] at hb2; exact hb2)
  obtain ⟨K0, kc0, c0, c1, c2, c3, c4, hK0, hkk, hkm⟩ := node_open hn
  have HCr0 := Lib.hid (fun W (hb : Below w.heap.size w W) => each_any (some ad) L c i W (h.later hb) hc hm hi 21 21)
  have H := Lib.hid (show exprsB L (nd L i) = ((eachB L (nd L i).ks 21 21)) by unfold exprsB; rw [hk]; rfl)
  rw [H.out]
  clear H h hn
  generalize eachB L (nd L i).ks 21 21 = r0 at *
  generalize nd L i = y at *
  obtain ⟨k, x, m, ks, p⟩ := y
  simp only at hk c0 c1 c2 c3 c4 hkk hK0 ⊢
  subst hk
  have hKK := Lib.hid hK0
  clear hK0
  unfold maxLen at hm hkm
  generalize hM : ks.length = M at *
  have HM := Lib.hid hM
  clear hM
  go_enter Tryz.func79, Tryz.ntmps79
  go_upto_region 2 with fail
  obtain ⟨wa, hwa⟩ : ∃ wa : World, wa = ((w.alloc (.cells #[.slice (some ad) L.length c] 24)).alloc (.cells #[.int .i64 20, .string x, .int .i64 m, .slice K0 M kc0, .int .i64 p] 37)) := ⟨_, rfl⟩
  have xa : wa.cell? ⟨w.heap.size, 0, none⟩ = some (.slice (some ad) L.length c) := by rw [hwa]; simp [World.cell?_alloc_mark]
  have qa : Below w.heap.size w wa := by rw [hwa]; (exact bl)
  have za := Below.size qa
  have ya : wa.cell? ⟨w.heap.size + 1, 3, none⟩ = some (.slice K0 M kc0) := by rw [hwa]; simp [World.cell?_alloc_mark]
  have yk : wa.cell? ⟨w.heap.size + 1, 0, none⟩ = some (.int .i64 20) := by rw [hwa]; simp [World.cell?_alloc_mark]
  rw [← hwa]
  clear hwa
  go_wp2_with (first
    | (go_at_call 92; (with_reducible refine (HCr0.out wa qa).mono ?_); rintro e wr0 ⟨rfl, br0⟩; have qr0 := qa.trans (br0.mono qa.size); have zr0 := Below.size qr0; have xr0 : wr0.cell? ⟨w.heap.size, 0, none⟩ = some (.slice (some ad) L.length c) := (br0.cell (p := ⟨w.heap.size, 0, none⟩) (World.block_lt_of_cell? wa _ xa)).trans xa)
    | fail)
  all_goals go_ret
  all_goals (refine ⟨ret_bool ?_, (by (exact bl))⟩; first | rfl | (simp [*]; done) | ((try simp only [beq_iff_eq, beq_eq_false_iff_ne, bne_iff_ne, bne_eq_false_iff_eq, ne_eq, decide_eq_true_eq, decide_eq_false_iff_not, Bool.and_eq_true, Bool.or_eq_true, Bool.not_eq_true, Bool.not_eq_false, Bool.false_eq_true, Decidable.not_not, Bool.not_eq_eq_eq_not, Bool.not_true, Bool.not_false] at *); simp_all; done))
set_option maxRecDepth 100000 in
set_option maxHeartbeats 8000000 in
theorem exprs_21 (A : Option Addr) (L : List Nd) (c i : Nat) (w : World) (h : TreeAt w w.heap.size A L) (hc : L.length ≤ c) (hm : c ≤ maxLen) (hL : L.length ≤ 1000000000000) (hi : i < L.length) (hk : (nd L i).k = 21) : Calls Tryz.prog 79 #[.agg #[.slice A L.length c], .int .i64 (i : Int)] w fun e w' => e = .returned (.bool (exprsB L (nd L i))) ∧ Below w.heap.size w w' := by
  have hT := Lib.hid h
  have hm2 := Lib.hid hm
  obtain ⟨ad, rfl, hn⟩ := h i hi
  have hb2 := hn.blk
  have hb1 : ad.block < w.heap.size := (by rw [block_add] at hb2; exact hb2)
  obtain ⟨K0, kc0, c0, c1, c2, c3, c4, hK0, hkk, hkm⟩ := node_open hn
  have HCr0 := Lib.hid (fun W (hb : Below w.heap.size w W) => row_lit (some ad) L c i W (h.later hb) hc hm hi [1000] 1 #[.int .i64 1000] rfl (by decide) (by decide) rfl)
  have H := Lib.hid (show exprsB L (nd L i) = ((rowB L (nd L i).ks [1000])) by unfold exprsB; rw [hk]; rfl)
  rw [H.out]
  clear H h hn
  generalize rowB L (nd L i).ks [1000] = r0 at *
  generalize nd L i = y at *
  obtain ⟨k, x, m, ks, p⟩ := y
  simp only at hk c0 c1 c2 c3 c4 hkk hK0 ⊢
  subst hk
  have hKK := Lib.hid hK0
  clear hK0
  unfold maxLen at hm hkm
  generalize hM : ks.length = M at *
  have HM := Lib.hid hM
  clear hM
  go_enter Tryz.func79, Tryz.ntmps79
  go_upto_region 2 with fail
  obtain ⟨wa, hwa⟩ : ∃ wa : World, wa = ((w.alloc (.cells #[.slice (some ad) L.length c] 24)).alloc (.cells #[.int .i64 21, .string x, .int .i64 m, .slice K0 M kc0, .int .i64 p] 37)) := ⟨_, rfl⟩
  have xa : wa.cell? ⟨w.heap.size, 0, none⟩ = some (.slice (some ad) L.length c) := by rw [hwa]; simp [World.cell?_alloc_mark]
  have qa : Below w.heap.size w wa := by rw [hwa]; (exact bl)
  have za := Below.size qa
  have ya : wa.cell? ⟨w.heap.size + 1, 3, none⟩ = some (.slice K0 M kc0) := by rw [hwa]; simp [World.cell?_alloc_mark]
  have yk : wa.cell? ⟨w.heap.size + 1, 0, none⟩ = some (.int .i64 21) := by rw [hwa]; simp [World.cell?_alloc_mark]
  rw [← hwa]
  clear hwa
  go_wp2_with (first
    | (go_at_call 91; (with_reducible refine (HCr0.out wa qa).mono ?_); rintro e wr0 ⟨rfl, br0⟩; have qr0 := qa.trans (br0.mono qa.size); have zr0 := Below.size qr0; have xr0 : wr0.cell? ⟨w.heap.size, 0, none⟩ = some (.slice (some ad) L.length c) := (br0.cell (p := ⟨w.heap.size, 0, none⟩) (World.block_lt_of_cell? wa _ xa)).trans xa)
    | fail)
  all_goals go_ret
  all_goals (refine ⟨ret_bool ?_, (by (exact bl))⟩; first | rfl | (simp [*]; done) | ((try simp only [beq_iff_eq, beq_eq_false_iff_ne, bne_iff_ne, bne_eq_false_iff_eq, ne_eq, decide_eq_true_eq, decide_eq_false_iff_not, Bool.and_eq_true, Bool.or_eq_true, Bool.not_eq_true, Bool.not_eq_false, Bool.false_eq_true, Decidable.not_not, Bool.not_eq_eq_eq_not, Bool.not_true, Bool.not_false] at *); simp_all; done))
set_option maxRecDepth 100000 in
set_option maxHeartbeats 8000000 in
theorem exprs_23 (A : Option Addr) (L : List Nd) (c i : Nat) (w : World) (h : TreeAt w w.heap.size A L) (hc : L.length ≤ c) (hm : c ≤ maxLen) (hL : L.length ≤ 1000000000000) (hi : i < L.length) (hk : (nd L i).k = 23) : Calls Tryz.prog 79 #[.agg #[.slice A L.length c], .int .i64 (i : Int)] w fun e w' => e = .returned (.bool (exprsB L (nd L i))) ∧ Below w.heap.size w w' := by
  have hT := Lib.hid h
  have hm2 := Lib.hid hm
  obtain ⟨ad, rfl, hn⟩ := h i hi
  have hb2 := hn.blk
  have hb1 : ad.block < w.heap.size := (by rw [block_add] at hb2; exact hb2)
  obtain ⟨K0, kc0, c0, c1, c2, c3, c4, hK0, hkk, hkm⟩ := node_open hn
  have HCr0 := Lib.hid (fun W (hb : Below w.heap.size w W) => row_lit (some ad) L c i W (h.later hb) hc hm hi [1000] 1 #[.int .i64 1000] rfl (by decide) (by decide) rfl)
  have H := Lib.hid (show exprsB L (nd L i) = ((rowB L (nd L i).ks [1000])) by unfold exprsB; rw [hk]; rfl)
  rw [H.out]
  clear H h hn
  generalize rowB L (nd L i).ks [1000] = r0 at *
  generalize nd L i = y at *
  obtain ⟨k, x, m, ks, p⟩ := y
  simp only at hk c0 c1 c2 c3 c4 hkk hK0 ⊢
  subst hk
  have hKK := Lib.hid hK0
  clear hK0
  unfold maxLen at hm hkm
  generalize hM : ks.length = M at *
  have HM := Lib.hid hM
  clear hM
  go_enter Tryz.func79, Tryz.ntmps79
  go_upto_region 2 with fail
  obtain ⟨wa, hwa⟩ : ∃ wa : World, wa = ((w.alloc (.cells #[.slice (some ad) L.length c] 24)).alloc (.cells #[.int .i64 23, .string x, .int .i64 m, .slice K0 M kc0, .int .i64 p] 37)) := ⟨_, rfl⟩
  have xa : wa.cell? ⟨w.heap.size, 0, none⟩ = some (.slice (some ad) L.length c) := by rw [hwa]; simp [World.cell?_alloc_mark]
  have qa : Below w.heap.size w wa := by rw [hwa]; (exact bl)
  have za := Below.size qa
  have ya : wa.cell? ⟨w.heap.size + 1, 3, none⟩ = some (.slice K0 M kc0) := by rw [hwa]; simp [World.cell?_alloc_mark]
  have yk : wa.cell? ⟨w.heap.size + 1, 0, none⟩ = some (.int .i64 23) := by rw [hwa]; simp [World.cell?_alloc_mark]
  rw [← hwa]
  clear hwa
  go_wp2_with (first
    | (go_at_call 91; (with_reducible refine (HCr0.out wa qa).mono ?_); rintro e wr0 ⟨rfl, br0⟩; have qr0 := qa.trans (br0.mono qa.size); have zr0 := Below.size qr0; have xr0 : wr0.cell? ⟨w.heap.size, 0, none⟩ = some (.slice (some ad) L.length c) := (br0.cell (p := ⟨w.heap.size, 0, none⟩) (World.block_lt_of_cell? wa _ xa)).trans xa)
    | fail)
  all_goals go_ret
  all_goals (refine ⟨ret_bool ?_, (by (exact bl))⟩; first | rfl | (simp [*]; done) | ((try simp only [beq_iff_eq, beq_eq_false_iff_ne, bne_iff_ne, bne_eq_false_iff_eq, ne_eq, decide_eq_true_eq, decide_eq_false_iff_not, Bool.and_eq_true, Bool.or_eq_true, Bool.not_eq_true, Bool.not_eq_false, Bool.false_eq_true, Decidable.not_not, Bool.not_eq_eq_eq_not, Bool.not_true, Bool.not_false] at *); simp_all; done))
set_option maxRecDepth 100000 in
set_option maxHeartbeats 8000000 in
theorem exprs_29 (A : Option Addr) (L : List Nd) (c i : Nat) (w : World) (h : TreeAt w w.heap.size A L) (hc : L.length ≤ c) (hm : c ≤ maxLen) (hL : L.length ≤ 1000000000000) (hi : i < L.length) (hk : (nd L i).k = 29) : Calls Tryz.prog 79 #[.agg #[.slice A L.length c], .int .i64 (i : Int)] w fun e w' => e = .returned (.bool (exprsB L (nd L i))) ∧ Below w.heap.size w w' := by
  have hT := Lib.hid h
  have hm2 := Lib.hid hm
  obtain ⟨ad, rfl, hn⟩ := h i hi
  have hb2 := hn.blk
  have hb1 : ad.block < w.heap.size := (by rw [block_add] at hb2; exact hb2)
  obtain ⟨K0, kc0, c0, c1, c2, c3, c4, hK0, hkk, hkm⟩ := node_open hn
  have HCr0 := Lib.hid (fun W (hb : Below w.heap.size w W) => row_lit (some ad) L c i W (h.later hb) hc hm hi [1000] 1 #[.int .i64 1000] rfl (by decide) (by decide) rfl)
  have H := Lib.hid (show exprsB L (nd L i) = ((rowB L (nd L i).ks [1000])) by unfold exprsB; rw [hk]; rfl)
  rw [H.out]
  clear H h hn
  generalize rowB L (nd L i).ks [1000] = r0 at *
  generalize nd L i = y at *
  obtain ⟨k, x, m, ks, p⟩ := y
  simp only at hk c0 c1 c2 c3 c4 hkk hK0 ⊢
  subst hk
  have hKK := Lib.hid hK0
  clear hK0
  unfold maxLen at hm hkm
  generalize hM : ks.length = M at *
  have HM := Lib.hid hM
  clear hM
  go_enter Tryz.func79, Tryz.ntmps79
  go_upto_region 2 with fail
  obtain ⟨wa, hwa⟩ : ∃ wa : World, wa = ((w.alloc (.cells #[.slice (some ad) L.length c] 24)).alloc (.cells #[.int .i64 29, .string x, .int .i64 m, .slice K0 M kc0, .int .i64 p] 37)) := ⟨_, rfl⟩
  have xa : wa.cell? ⟨w.heap.size, 0, none⟩ = some (.slice (some ad) L.length c) := by rw [hwa]; simp [World.cell?_alloc_mark]
  have qa : Below w.heap.size w wa := by rw [hwa]; (exact bl)
  have za := Below.size qa
  have ya : wa.cell? ⟨w.heap.size + 1, 3, none⟩ = some (.slice K0 M kc0) := by rw [hwa]; simp [World.cell?_alloc_mark]
  have yk : wa.cell? ⟨w.heap.size + 1, 0, none⟩ = some (.int .i64 29) := by rw [hwa]; simp [World.cell?_alloc_mark]
  rw [← hwa]
  clear hwa
  go_wp2_with (first
    | (go_at_call 91; (with_reducible refine (HCr0.out wa qa).mono ?_); rintro e wr0 ⟨rfl, br0⟩; have qr0 := qa.trans (br0.mono qa.size); have zr0 := Below.size qr0; have xr0 : wr0.cell? ⟨w.heap.size, 0, none⟩ = some (.slice (some ad) L.length c) := (br0.cell (p := ⟨w.heap.size, 0, none⟩) (World.block_lt_of_cell? wa _ xa)).trans xa)
    | fail)
  all_goals go_ret
  all_goals (refine ⟨ret_bool ?_, (by (exact bl))⟩; first | rfl | (simp [*]; done) | ((try simp only [beq_iff_eq, beq_eq_false_iff_ne, bne_iff_ne, bne_eq_false_iff_eq, ne_eq, decide_eq_true_eq, decide_eq_false_iff_not, Bool.and_eq_true, Bool.or_eq_true, Bool.not_eq_true, Bool.not_eq_false, Bool.false_eq_true, Decidable.not_not, Bool.not_eq_eq_eq_not, Bool.not_true, Bool.not_false] at *); simp_all; done))
set_option maxRecDepth 100000 in
set_option maxHeartbeats 8000000 in
theorem exprs_34 (A : Option Addr) (L : List Nd) (c i : Nat) (w : World) (h : TreeAt w w.heap.size A L) (hc : L.length ≤ c) (hm : c ≤ maxLen) (hL : L.length ≤ 1000000000000) (hi : i < L.length) (hk : (nd L i).k = 34) : Calls Tryz.prog 79 #[.agg #[.slice A L.length c], .int .i64 (i : Int)] w fun e w' => e = .returned (.bool (exprsB L (nd L i))) ∧ Below w.heap.size w w' := by
  have hT := Lib.hid h
  have hm2 := Lib.hid hm
  obtain ⟨ad, rfl, hn⟩ := h i hi
  have hb2 := hn.blk
  have hb1 : ad.block < w.heap.size := (by rw [block_add] at hb2; exact hb2)
  obtain ⟨K0, kc0, c0, c1, c2, c3, c4, hK0, hkk, hkm⟩ := node_open hn
  have HCr0 := Lib.hid (fun W (hb : Below w.heap.size w W) => row_lit (some ad) L c i W (h.later hb) hc hm hi [1000] 1 #[.int .i64 1000] rfl (by decide) (by decide) rfl)
  have H := Lib.hid (show exprsB L (nd L i) = ((rowB L (nd L i).ks [1000])) by unfold exprsB; rw [hk]; rfl)
  rw [H.out]
  clear H h hn
  generalize rowB L (nd L i).ks [1000] = r0 at *
  generalize nd L i = y at *
  obtain ⟨k, x, m, ks, p⟩ := y
  simp only at hk c0 c1 c2 c3 c4 hkk hK0 ⊢
  subst hk
  have hKK := Lib.hid hK0
  clear hK0
  unfold maxLen at hm hkm
  generalize hM : ks.length = M at *
  have HM := Lib.hid hM
  clear hM
  go_enter Tryz.func79, Tryz.ntmps79
  go_upto_region 2 with fail
  obtain ⟨wa, hwa⟩ : ∃ wa : World, wa = ((w.alloc (.cells #[.slice (some ad) L.length c] 24)).alloc (.cells #[.int .i64 34, .string x, .int .i64 m, .slice K0 M kc0, .int .i64 p] 37)) := ⟨_, rfl⟩
  have xa : wa.cell? ⟨w.heap.size, 0, none⟩ = some (.slice (some ad) L.length c) := by rw [hwa]; simp [World.cell?_alloc_mark]
  have qa : Below w.heap.size w wa := by rw [hwa]; (exact bl)
  have za := Below.size qa
  have ya : wa.cell? ⟨w.heap.size + 1, 3, none⟩ = some (.slice K0 M kc0) := by rw [hwa]; simp [World.cell?_alloc_mark]
  have yk : wa.cell? ⟨w.heap.size + 1, 0, none⟩ = some (.int .i64 34) := by rw [hwa]; simp [World.cell?_alloc_mark]
  rw [← hwa]
  clear hwa
  go_wp2_with (first
    | (go_at_call 91; (with_reducible refine (HCr0.out wa qa).mono ?_); rintro e wr0 ⟨rfl, br0⟩; have qr0 := qa.trans (br0.mono qa.size); have zr0 := Below.size qr0; have xr0 : wr0.cell? ⟨w.heap.size, 0, none⟩ = some (.slice (some ad) L.length c) := (br0.cell (p := ⟨w.heap.size, 0, none⟩) (World.block_lt_of_cell? wa _ xa)).trans xa)
    | fail)
  all_goals go_ret
  all_goals (refine ⟨ret_bool ?_, (by (exact bl))⟩; first | rfl | (simp [*]; done) | ((try simp only [beq_iff_eq, beq_eq_false_iff_ne, bne_iff_ne, bne_eq_false_iff_eq, ne_eq, decide_eq_true_eq, decide_eq_false_iff_not, Bool.and_eq_true, Bool.or_eq_true, Bool.not_eq_true, Bool.not_eq_false, Bool.false_eq_true, Decidable.not_not, Bool.not_eq_eq_eq_not, Bool.not_true, Bool.not_false] at *); simp_all; done))
set_option maxRecDepth 100000 in
set_option maxHeartbeats 8000000 in
theorem exprs_22 (A : Option Addr) (L : List Nd) (c i : Nat) (w : World) (h : TreeAt w w.heap.size A L) (hc : L.length ≤ c) (hm : c ≤ maxLen) (hL : L.length ≤ 1000000000000) (hi : i < L.length) (hk : (nd L i).k = 22) : Calls Tryz.prog 79 #[.agg #[.slice A L.length c], .int .i64 (i : Int)] w fun e w' => e = .returned (.bool (exprsB L (nd L i))) ∧ Below w.heap.size w w' := by
  have hT := Lib.hid h
  have hm2 := Lib.hid hm
  obtain ⟨ad, rfl, hn⟩ := h i hi
  have hb2 := hn.blk
  have hb1 : ad.block < w.heap.size := (by rw [block_add] at hb2; exact hb2)
  obtain ⟨K0, kc0, c0, c1, c2, c3, c4, hK0, hkk, hkm⟩ := node_open hn
  have HCr0 := Lib.hid (fun W (hb : Below w.heap.size w W) => list_at (some ad) L c i W (h.later hb) hc hm hi 0 0 rfl (by decide) 67)
  have HCr1 := Lib.hid (fun W (hb : Below w.heap.size w W) => list_at (some ad) L c i W (h.later hb) hc hm hi 1 1 rfl (by decide) 1003)
  have HCv0 := Lib.hid (fun W (hb : Below w.heap.size w W) => kid_lit (some ad) L c i W (h.later hb) hc hm hi 2 2 rfl (by decide))
  have HCv1 := Lib.hid (fun W (hb : Below w.heap.size w W) => kid_lit (some ad) L c i W (h.later hb) hc hm hi 2 2 rfl (by decide))
  have H := Lib.hid (show exprsB L (nd L i) = (decide ((nd L i).ks.length = 3) && (listB L (nd L i) 0 67) && (listB L (nd L i) 1 1003) && ((kidB L (nd L i) 2).k == 63 || exprK (kidB L (nd L i) 2).k)) by unfold exprsB; rw [hk]; rfl)
  rw [H.out]
  clear H h hn
  generalize listB L (nd L i) 0 67 = r0 at *
  generalize listB L (nd L i) 1 1003 = r1 at *
  generalize kidB L (nd L i) 2 = y2 at *
  generalize nd L i = y at *
  obtain ⟨k, x, m, ks, p⟩ := y
  simp only at hk c0 c1 c2 c3 c4 hkk hK0 ⊢
  subst hk
  have hKK := Lib.hid hK0
  clear hK0
  unfold maxLen at hm hkm
  generalize hM : ks.length = M at *
  have HM := Lib.hid hM
  clear hM
  go_enter Tryz.func79, Tryz.ntmps79
  go_upto_region 2 with fail
  obtain ⟨wa, hwa⟩ : ∃ wa : World, wa = ((w.alloc (.cells #[.slice (some ad) L.length c] 24)).alloc (.cells #[.int .i64 22, .string x, .int .i64 m, .slice K0 M kc0, .int .i64 p] 37)) := ⟨_, rfl⟩
  have xa : wa.cell? ⟨w.heap.size, 0, none⟩ = some (.slice (some ad) L.length c) := by rw [hwa]; simp [World.cell?_alloc_mark]
  have qa : Below w.heap.size w wa := by rw [hwa]; (exact bl)
  have za := Below.size qa
  have ya : wa.cell? ⟨w.heap.size + 1, 3, none⟩ = some (.slice K0 M kc0) := by rw [hwa]; simp [World.cell?_alloc_mark]
  have yk : wa.cell? ⟨w.heap.size + 1, 0, none⟩ = some (.int .i64 22) := by rw [hwa]; simp [World.cell?_alloc_mark]
  rw [← hwa]
  clear hwa
  go_wp2_with (first
    | (go_at_call 90; (with_reducible refine (HCr0.out wa qa).mono ?_); rintro e wr0 ⟨rfl, br0⟩; have qr0 := qa.trans (br0.mono qa.size); have zr0 := Below.size qr0; have xr0 : wr0.cell? ⟨w.heap.size, 0, none⟩ = some (.slice (some ad) L.length c) := (br0.cell (p := ⟨w.heap.size, 0, none⟩) (World.block_lt_of_cell? wa _ xa)).trans xa)
    | (go_at_call 90; (with_reducible refine (HCr1.out wr0 qr0).mono ?_); rintro e wr1 ⟨rfl, br1⟩; have qr1 := qr0.trans (br1.mono qr0.size); have zr1 := Below.size qr1; have xr1 : wr1.cell? ⟨w.heap.size, 0, none⟩ = some (.slice (some ad) L.length c) := (br1.cell (p := ⟨w.heap.size, 0, none⟩) (World.block_lt_of_cell? wr0 _ xr0)).trans xr0)
    | (go_at_call 93; (with_reducible refine (HCv0.out wr1 qr1).mono ?_); rintro e wv0 ⟨⟨Kv0, kcv0, rfl, _, _, _⟩, bv0⟩; unfold nodeV; have qv0 := qr1.trans (bv0.mono qr1.size); have zv0 := Below.size qv0; have xv0 : wv0.cell? ⟨w.heap.size, 0, none⟩ = some (.slice (some ad) L.length c) := (bv0.cell (p := ⟨w.heap.size, 0, none⟩) (World.block_lt_of_cell? wr1 _ xr1)).trans xr1)
    | (go_at_call 93; (with_reducible refine (HCv1.out wv0 qv0).mono ?_); rintro e wv1 ⟨⟨Kv1, kcv1, rfl, _, _, _⟩, bv1⟩; unfold nodeV; have qv1 := qv0.trans (bv1.mono qv0.size); have zv1 := Below.size qv1; have xv1 : wv1.cell? ⟨w.heap.size, 0, none⟩ = some (.slice (some ad) L.length c) := (bv1.cell (p := ⟨w.heap.size, 0, none⟩) (World.block_lt_of_cell? wv0 _ xv0)).trans xv0)
    | (go_at_call 15; (with_reducible refine (rIsExpr_any _ wv1).mono ?_); rintro e wv2 ⟨rfl, bv2⟩; have qv2 := qv1.trans (bv2.mono qv1.size); have zv2 := Below.size qv2; have xv2 : wv2.cell? ⟨w.heap.size, 0, none⟩ = some (.slice (some ad) L.length c) := (bv2.cell (p := ⟨w.heap.size, 0, none⟩) (World.block_lt_of_cell? wv1 _ xv1)).trans xv1)
    | fail)
  all_goals go_ret
  all_goals (refine ⟨ret_bool ?_, (by (exact bl))⟩; first | rfl | (simp [*]; done) | ((try simp only [beq_iff_eq, beq_eq_false_iff_ne, bne_iff_ne, bne_eq_false_iff_eq, ne_eq, decide_eq_true_eq, decide_eq_false_iff_not, Bool.and_eq_true, Bool.or_eq_true, Bool.not_eq_true, Bool.not_eq_false, Bool.false_eq_true, Decidable.not_not, Bool.not_eq_eq_eq_not, Bool.not_true, Bool.not_false] at *); simp_all; done) | ((first | rw [show decide (M = 3) = true from decide_eq_true (by omega)] | rw [show decide (M = 3) = false from decide_eq_false (by omega)]); first | rfl | (simp [*]; done) | ((try simp only [beq_iff_eq, beq_eq_false_iff_ne, bne_iff_ne, bne_eq_false_iff_eq, ne_eq, decide_eq_true_eq, decide_eq_false_iff_not, Bool.and_eq_true, Bool.or_eq_true, Bool.not_eq_true, Bool.not_eq_false, Bool.false_eq_true, Decidable.not_not, Bool.not_eq_eq_eq_not, Bool.not_true, Bool.not_false] at *); simp_all; done)))
set_option maxRecDepth 100000 in
set_option maxHeartbeats 8000000 in
theorem exprs_24 (A : Option Addr) (L : List Nd) (c i : Nat) (w : World) (h : TreeAt w w.heap.size A L) (hc : L.length ≤ c) (hm : c ≤ maxLen) (hL : L.length ≤ 1000000000000) (hi : i < L.length) (hk : (nd L i).k = 24) : Calls Tryz.prog 79 #[.agg #[.slice A L.length c], .int .i64 (i : Int)] w fun e w' => e = .returned (.bool (exprsB L (nd L i))) ∧ Below w.heap.size w w' := by
  have hT := Lib.hid h
  have hm2 := Lib.hid hm
  obtain ⟨ad, rfl, hn⟩ := h i hi
  have hb2 := hn.blk
  have hb1 : ad.block < w.heap.size := (by rw [block_add] at hb2; exact hb2)
  obtain ⟨K0, kc0, c0, c1, c2, c3, c4, hK0, hkk, hkm⟩ := node_open hn
  have HCr0 := Lib.hid (fun W (hb : Below w.heap.size w W) => row_lit (some ad) L c i W (h.later hb) hc hm hi [1000, 1000] 2 #[.int .i64 1000, .int .i64 1000] rfl (by decide) (by decide) rfl)
  have H := Lib.hid (show exprsB L (nd L i) = ((rowB L (nd L i).ks [1000, 1000])) by unfold exprsB; rw [hk]; rfl)
  rw [H.out]
  clear H h hn
  generalize rowB L (nd L i).ks [1000, 1000] = r0 at *
  generalize nd L i = y at *
  obtain ⟨k, x, m, ks, p⟩ := y
  simp only at hk c0 c1 c2 c3 c4 hkk hK0 ⊢
  subst hk
  have hKK := Lib.hid hK0
  clear hK0
  unfold maxLen at hm hkm
  generalize hM : ks.length = M at *
  have HM := Lib.hid hM
  clear hM
  go_enter Tryz.func79, Tryz.ntmps79
  go_upto_region 2 with fail
  obtain ⟨wa, hwa⟩ : ∃ wa : World, wa = ((w.alloc (.cells #[.slice (some ad) L.length c] 24)).alloc (.cells #[.int .i64 24, .string x, .int .i64 m, .slice K0 M kc0, .int .i64 p] 37)) := ⟨_, rfl⟩
  have xa : wa.cell? ⟨w.heap.size, 0, none⟩ = some (.slice (some ad) L.length c) := by rw [hwa]; simp [World.cell?_alloc_mark]
  have qa : Below w.heap.size w wa := by rw [hwa]; (exact bl)
  have za := Below.size qa
  have ya : wa.cell? ⟨w.heap.size + 1, 3, none⟩ = some (.slice K0 M kc0) := by rw [hwa]; simp [World.cell?_alloc_mark]
  have yk : wa.cell? ⟨w.heap.size + 1, 0, none⟩ = some (.int .i64 24) := by rw [hwa]; simp [World.cell?_alloc_mark]
  rw [← hwa]
  clear hwa
  go_wp2_with (first
    | (go_at_call 91; (with_reducible refine (HCr0.out wa qa).mono ?_); rintro e wr0 ⟨rfl, br0⟩; have qr0 := qa.trans (br0.mono qa.size); have zr0 := Below.size qr0; have xr0 : wr0.cell? ⟨w.heap.size, 0, none⟩ = some (.slice (some ad) L.length c) := (br0.cell (p := ⟨w.heap.size, 0, none⟩) (World.block_lt_of_cell? wa _ xa)).trans xa)
    | fail)
  all_goals go_ret
  all_goals (refine ⟨ret_bool ?_, (by (exact bl))⟩; first | rfl | (simp [*]; done) | ((try simp only [beq_iff_eq, beq_eq_false_iff_ne, bne_iff_ne, bne_eq_false_iff_eq, ne_eq, decide_eq_true_eq, decide_eq_false_iff_not, Bool.and_eq_true, Bool.or_eq_true, Bool.not_eq_true, Bool.not_eq_false, Bool.false_eq_true, Decidable.not_not, Bool.not_eq_eq_eq_not, Bool.not_true, Bool.not_false] at *); simp_all; done))
set_option maxRecDepth 100000 in
set_option maxHeartbeats 8000000 in
theorem exprs_30 (A : Option Addr) (L : List Nd) (c i : Nat) (w : World) (h : TreeAt w w.heap.size A L) (hc : L.length ≤ c) (hm : c ≤ maxLen) (hL : L.length ≤ 1000000000000) (hi : i < L.length) (hk : (nd L i).k = 30) : Calls Tryz.prog 79 #[.agg #[.slice A L.length c], .int .i64 (i : Int)] w fun e w' => e = .returned (.bool (exprsB L (nd L i))) ∧ Below w.heap.size w w' := by
  have hT := Lib.hid h
  have hm2 := Lib.hid hm
  obtain ⟨ad, rfl, hn⟩ := h i hi
  have hb2 := hn.blk
  have hb1 : ad.block < w.heap.size := (by rw [block_add] at hb2; exact hb2)
  obtain ⟨K0, kc0, c0, c1, c2, c3, c4, hK0, hkk, hkm⟩ := node_open hn
  have HCr0 := Lib.hid (fun W (hb : Below w.heap.size w W) => row_lit (some ad) L c i W (h.later hb) hc hm hi [1000, 1000] 2 #[.int .i64 1000, .int .i64 1000] rfl (by decide) (by decide) rfl)
  have H := Lib.hid (show exprsB L (nd L i) = ((rowB L (nd L i).ks [1000, 1000])) by unfold exprsB; rw [hk]; rfl)
  rw [H.out]
  clear H h hn
  generalize rowB L (nd L i).ks [1000, 1000] = r0 at *
  generalize nd L i = y at *
  obtain ⟨k, x, m, ks, p⟩ := y
  simp only at hk c0 c1 c2 c3 c4 hkk hK0 ⊢
  subst hk
  have hKK := Lib.hid hK0
  clear hK0
  unfold maxLen at hm hkm
  generalize hM : ks.length = M at *
  have HM := Lib.hid hM
  clear hM
  go_enter Tryz.func79, Tryz.ntmps79
  go_upto_region 2 with fail
  obtain ⟨wa, hwa⟩ : ∃ wa : World, wa = ((w.alloc (.cells #[.slice (some ad) L.length c] 24)).alloc (.cells #[.int .i64 30, .string x, .int .i64 m, .slice K0 M kc0, .int .i64 p] 37)) := ⟨_, rfl⟩
  have xa : wa.cell? ⟨w.heap.size, 0, none⟩ = some (.slice (some ad) L.length c) := by rw [hwa]; simp [World.cell?_alloc_mark]
  have qa : Below w.heap.size w wa := by rw [hwa]; (exact bl)
  have za := Below.size qa
  have ya : wa.cell? ⟨w.heap.size + 1, 3, none⟩ = some (.slice K0 M kc0) := by rw [hwa]; simp [World.cell?_alloc_mark]
  have yk : wa.cell? ⟨w.heap.size + 1, 0, none⟩ = some (.int .i64 30) := by rw [hwa]; simp [World.cell?_alloc_mark]
  rw [← hwa]
  clear hwa
  go_wp2_with (first
    | (go_at_call 91; (with_reducible refine (HCr0.out wa qa).mono ?_); rintro e wr0 ⟨rfl, br0⟩; have qr0 := qa.trans (br0.mono qa.size); have zr0 := Below.size qr0; have xr0 : wr0.cell? ⟨w.heap.size, 0, none⟩ = some (.slice (some ad) L.length c) := (br0.cell (p := ⟨w.heap.size, 0, none⟩) (World.block_lt_of_cell? wa _ xa)).trans xa)
    | fail)
  all_goals go_ret
  all_goals (refine ⟨ret_bool ?_, (by (exact bl))⟩; first | rfl | (simp [*]; done) | ((try simp only [beq_iff_eq, beq_eq_false_iff_ne, bne_iff_ne, bne_eq_false_iff_eq, ne_eq, decide_eq_true_eq, decide_eq_false_iff_not, Bool.and_eq_true, Bool.or_eq_true, Bool.not_eq_true, Bool.not_eq_false, Bool.false_eq_true, Decidable.not_not, Bool.not_eq_eq_eq_not, Bool.not_true, Bool.not_false] at *); simp_all; done))
set_option maxRecDepth 100000 in
set_option maxHeartbeats 8000000 in
theorem exprs_25 (A : Option Addr) (L : List Nd) (c i : Nat) (w : World) (h : TreeAt w w.heap.size A L) (hc : L.length ≤ c) (hm : c ≤ maxLen) (hL : L.length ≤ 1000000000000) (hi : i < L.length) (hk : (nd L i).k = 25) : Calls Tryz.prog 79 #[.agg #[.slice A L.length c], .int .i64 (i : Int)] w fun e w' => e = .returned (.bool (exprsB L (nd L i))) ∧ Below w.heap.size w w' := by
  have hT := Lib.hid h
  have hm2 := Lib.hid hm
  obtain ⟨ad, rfl, hn⟩ := h i hi
  have hb2 := hn.blk
  have hb1 : ad.block < w.heap.size := (by rw [block_add] at hb2; exact hb2)
  obtain ⟨K0, kc0, c0, c1, c2, c3, c4, hK0, hkk, hkm⟩ := node_open hn
  have HCr0 := Lib.hid (fun W (hb : Below w.heap.size w W) => row_lit (some ad) L c i W (h.later hb) hc hm hi [1000, 1000, 1000] 3 #[.int .i64 1000, .int .i64 1000, .int .i64 1000] rfl (by decide) (by decide) rfl)
  have H := Lib.hid (show exprsB L (nd L i) = ((rowB L (nd L i).ks [1000, 1000, 1000])) by unfold exprsB; rw [hk]; rfl)
  rw [H.out]
  clear H h hn
  generalize rowB L (nd L i).ks [1000, 1000, 1000] = r0 at *
  generalize nd L i = y at *
  obtain ⟨k, x, m, ks, p⟩ := y
  simp only at hk c0 c1 c2 c3 c4 hkk hK0 ⊢
  subst hk
  have hKK := Lib.hid hK0
  clear hK0
  unfold maxLen at hm hkm
  generalize hM : ks.length = M at *
  have HM := Lib.hid hM
  clear hM
  go_enter Tryz.func79, Tryz.ntmps79
  go_upto_region 2 with fail
  obtain ⟨wa, hwa⟩ : ∃ wa : World, wa = ((w.alloc (.cells #[.slice (some ad) L.length c] 24)).alloc (.cells #[.int .i64 25, .string x, .int .i64 m, .slice K0 M kc0, .int .i64 p] 37)) := ⟨_, rfl⟩
  have xa : wa.cell? ⟨w.heap.size, 0, none⟩ = some (.slice (some ad) L.length c) := by rw [hwa]; simp [World.cell?_alloc_mark]
  have qa : Below w.heap.size w wa := by rw [hwa]; (exact bl)
  have za := Below.size qa
  have ya : wa.cell? ⟨w.heap.size + 1, 3, none⟩ = some (.slice K0 M kc0) := by rw [hwa]; simp [World.cell?_alloc_mark]
  have yk : wa.cell? ⟨w.heap.size + 1, 0, none⟩ = some (.int .i64 25) := by rw [hwa]; simp [World.cell?_alloc_mark]
  rw [← hwa]
  clear hwa
  go_wp2_with (first
    | (go_at_call 91; (with_reducible refine (HCr0.out wa qa).mono ?_); rintro e wr0 ⟨rfl, br0⟩; have qr0 := qa.trans (br0.mono qa.size); have zr0 := Below.size qr0; have xr0 : wr0.cell? ⟨w.heap.size, 0, none⟩ = some (.slice (some ad) L.length c) := (br0.cell (p := ⟨w.heap.size, 0, none⟩) (World.block_lt_of_cell? wa _ xa)).trans xa)
    | fail)
  all_goals go_ret
  all_goals (refine ⟨ret_bool ?_, (by (exact bl))⟩; first | rfl | (simp [*]; done) | ((try simp only [beq_iff_eq, beq_eq_false_iff_ne, bne_iff_ne, bne_eq_false_iff_eq, ne_eq, decide_eq_true_eq, decide_eq_false_iff_not, Bool.and_eq_true, Bool.or_eq_true, Bool.not_eq_true, Bool.not_eq_false, Bool.false_eq_true, Decidable.not_not, Bool.not_eq_eq_eq_not, Bool.not_true, Bool.not_false] at *); simp_all; done))
set_option maxRecDepth 100000 in
set_option maxHeartbeats 8000000 in
theorem exprs_26 (A : Option Addr) (L : List Nd) (c i : Nat) (w : World) (h : TreeAt w w.heap.size A L) (hc : L.length ≤ c) (hm : c ≤ maxLen) (hL : L.length ≤ 1000000000000) (hi : i < L.length) (hk : (nd L i).k = 26) : Calls Tryz.prog 79 #[.agg #[.slice A L.length c], .int .i64 (i : Int)] w fun e w' => e = .returned (.bool (exprsB L (nd L i))) ∧ Below w.heap.size w w' := by
  have hT := Lib.hid h
  have hm2 := Lib.hid hm
  obtain ⟨ad, rfl, hn⟩ := h i hi
  have hb2 := hn.blk
  have hb1 : ad.block < w.heap.size := (by rw [block_add] at hb2; exact hb2)
  obtain ⟨K0, kc0, c0, c1, c2, c3, c4, hK0, hkk, hkm⟩ := node_open hn
  have HCv0 := Lib.hid (fun W (hb : Below w.heap.size w W) => kid_lit (some ad) L c i W (h.later hb) hc hm hi 0 0 rfl (by decide))
  have HCr0 := Lib.hid (fun W (hb : Below w.heap.size w W) => row_lit (some ad) L c i W (h.later hb) hc hm hi [1000, 1000] 2 #[.int .i64 1000, .int .i64 1000] rfl (by decide) (by decide) rfl)
  have H := Lib.hid (show exprsB L (nd L i) = ((rowB L (nd L i).ks [1000, 1000]) && ((kidB L (nd L i) 0).k == 17 || (kidB L (nd L i) 0).k == 29 || (kidB L (nd L i) 0).k == 30)) by unfold exprsB; rw [hk]; rfl)
  rw [H.out]
  clear H h hn
  generalize rowB L (nd L i).ks [1000, 1000] = r0 at *
  generalize kidB L (nd L i) 0 = y0 at *
  generalize nd L i = y at *
  obtain ⟨k, x, m, ks, p⟩ := y
  simp only at hk c0 c1 c2 c3 c4 hkk hK0 ⊢
  subst hk
  have hKK := Lib.hid hK0
  clear hK0
  unfold maxLen at hm hkm
  generalize hM : ks.length = M at *
  have HM := Lib.hid hM
  clear hM
  go_enter Tryz.func79, Tryz.ntmps79
  go_upto_region 2 with fail
  obtain ⟨wa, hwa⟩ : ∃ wa : World, wa = ((w.alloc (.cells #[.slice (some ad) L.length c] 24)).alloc (.cells #[.int .i64 26, .string x, .int .i64 m, .slice K0 M kc0, .int .i64 p] 37)) := ⟨_, rfl⟩
  have xa : wa.cell? ⟨w.heap.size, 0, none⟩ = some (.slice (some ad) L.length c) := by rw [hwa]; simp [World.cell?_alloc_mark]
  have qa : Below w.heap.size w wa := by rw [hwa]; (exact bl)
  have za := Below.size qa
  have ya : wa.cell? ⟨w.heap.size + 1, 3, none⟩ = some (.slice K0 M kc0) := by rw [hwa]; simp [World.cell?_alloc_mark]
  have yk : wa.cell? ⟨w.heap.size + 1, 0, none⟩ = some (.int .i64 26) := by rw [hwa]; simp [World.cell?_alloc_mark]
  rw [← hwa]
  clear hwa
  go_wp2_with (first
    | (go_at_call 93; (with_reducible refine (HCv0.out wa qa).mono ?_); rintro e wv0 ⟨⟨Kv0, kcv0, rfl, _, _, _⟩, bv0⟩; unfold nodeV; have qv0 := qa.trans (bv0.mono qa.size); have zv0 := Below.size qv0; have xv0 : wv0.cell? ⟨w.heap.size, 0, none⟩ = some (.slice (some ad) L.length c) := (bv0.cell (p := ⟨w.heap.size, 0, none⟩) (World.block_lt_of_cell? wa _ xa)).trans xa)
    | (go_at_call 91; (with_reducible refine (HCr0.out wv0 qv0).mono ?_); rintro e wr0 ⟨rfl, br0⟩; have qr0 := qv0.trans (br0.mono qv0.size); have zr0 := Below.size qr0; have xr0 : wr0.cell? ⟨w.heap.size, 0, none⟩ = some (.slice (some ad) L.length c) := (br0.cell (p := ⟨w.heap.size, 0, none⟩) (World.block_lt_of_cell? wv0 _ xv0)).trans xv0)
    | fail)
  all_goals go_ret
  all_goals (refine ⟨ret_bool ?_, (by (exact bl))⟩; first | rfl | (simp [*]; done) | ((try simp only [beq_iff_eq, beq_eq_false_iff_ne, bne_iff_ne, bne_eq_false_iff_eq, ne_eq, decide_eq_true_eq, decide_eq_false_iff_not, Bool.and_eq_true, Bool.or_eq_true, Bool.not_eq_true, Bool.not_eq_false, Bool.false_eq_true, Decidable.not_not, Bool.not_eq_eq_eq_not, Bool.not_true, Bool.not_false] at *); simp_all; done))
set_option maxRecDepth 100000 in
set_option maxHeartbeats 8000000 in
theorem exprs_27 (A : Option Addr) (L : List Nd) (c i : Nat) (w : World) (h : TreeAt w w.heap.size A L) (hc : L.length ≤ c) (hm : c ≤ maxLen) (hL : L.length ≤ 1000000000000) (hi : i < L.length) (hk : (nd L i).k = 27) : Calls Tryz.prog 79 #[.agg #[.slice A L.length c], .int .i64 (i : Int)] w fun e w' => e = .returned (.bool (exprsB L (nd L i))) ∧ Below w.heap.size w w' := by
  have hT := Lib.hid h
  have hm2 := Lib.hid hm
  obtain ⟨ad, rfl, hn⟩ := h i hi
  have hb2 := hn.blk
  have hb1 : ad.block < w.heap.size := (by rw [block_add] at hb2; exact hb2)
  obtain ⟨K0, kc0, c0, c1, c2, c3, c4, hK0, hkk, hkm⟩ := node_open hn
  have HCr0 := Lib.hid (fun W (hb : Below w.heap.size w W) => row_lit (some ad) L c i W (h.later hb) hc hm hi [1000, 2, 2] 3 #[.int .i64 1000, .int .i64 2, .int .i64 2] rfl (by decide) (by decide) rfl)
  have HCr1 := Lib.hid (fun W (hb : Below w.heap.size w W) => list_at (some ad) L c i W (h.later hb) hc hm hi 1 1 rfl (by decide) 1001)
  have HCr2 := Lib.hid (fun W (hb : Below w.heap.size w W) => list_at (some ad) L c i W (h.later hb) hc hm hi 2 2 rfl (by decide) 1000)
  have H := Lib.hid (show exprsB L (nd L i) = ((rowB L (nd L i).ks [1000, 2, 2]) && (listB L (nd L i) 1 1001) && (listB L (nd L i) 2 1000)) by unfold exprsB; rw [hk]; rfl)
  rw [H.out]
  clear H h hn
  generalize rowB L (nd L i).ks [1000, 2, 2] = r0 at *
  generalize listB L (nd L i) 1 1001 = r1 at *
  generalize listB L (nd L i) 2 1000 = r2 at *
  generalize nd L i = y at *
  obtain ⟨k, x, m, ks, p⟩ := y
  simp only at hk c0 c1 c2 c3 c4 hkk hK0 ⊢
  subst hk
  have hKK := Lib.hid hK0
  clear hK0
  unfold maxLen at hm hkm
  generalize hM : ks.length = M at *
  have HM := Lib.hid hM
  clear hM
  go_enter Tryz.func79, Tryz.ntmps79
  go_upto_region 2 with fail
  obtain ⟨wa, hwa⟩ : ∃ wa : World, wa = ((w.alloc (.cells #[.slice (some ad) L.length c] 24)).alloc (.cells #[.int .i64 27, .string x, .int .i64 m, .slice K0 M kc0, .int .i64 p] 37)) := ⟨_, rfl⟩
  have xa : wa.cell? ⟨w.heap.size, 0, none⟩ = some (.slice (some ad) L.length c) := by rw [hwa]; simp [World.cell?_alloc_mark]
  have qa : Below w.heap.size w wa := by rw [hwa]; (exact bl)
  have za := Below.size qa
  have ya : wa.cell? ⟨w.heap.size + 1, 3, none⟩ = some (.slice K0 M kc0) := by rw [hwa]; simp [World.cell?_alloc_mark]
  have yk : wa.cell? ⟨w.heap.size + 1, 0, none⟩ = some (.int .i64 27) := by rw [hwa]; simp [World.cell?_alloc_mark]
  rw [← hwa]
  clear hwa
  go_wp2_with (first
    | (go_at_call 91; (with_reducible refine (HCr0.out wa qa).mono ?_); rintro e wr0 ⟨rfl, br0⟩; have qr0 := qa.trans (br0.mono qa.size); have zr0 := Below.size qr0; have xr0 : wr0.cell? ⟨w.heap.size, 0, none⟩ = some (.slice (some ad) L.length c) := (br0.cell (p := ⟨w.heap.size, 0, none⟩) (World.block_lt_of_cell? wa _ xa)).trans xa)
    | (go_at_call 90; (with_reducible refine (HCr1.out wr0 qr0).mono ?_); rintro e wr1 ⟨rfl, br1⟩; have qr1 := qr0.trans (br1.mono qr0.size); have zr1 := Below.size qr1; have xr1 : wr1.cell? ⟨w.heap.size, 0, none⟩ = some (.slice (some ad) L.length c) := (br1.cell (p := ⟨w.heap.size, 0, none⟩) (World.block_lt_of_cell? wr0 _ xr0)).trans xr0)
    | (go_at_call 90; (with_reducible refine (HCr2.out wr1 qr1).mono ?_); rintro e wr2 ⟨rfl, br2⟩; have qr2 := qr1.trans (br2.mono qr1.size); have zr2 := Below.size qr2; have xr2 : wr2.cell? ⟨w.heap.size, 0, none⟩ = some (.slice (some ad) L.length c) := (br2.cell (p := ⟨w.heap.size, 0, none⟩) (World.block_lt_of_cell? wr1 _ xr1)).trans xr1)
    | fail)
  all_goals go_ret
  all_goals (refine ⟨ret_bool ?_, (by (exact bl))⟩; first | rfl | (simp [*]; done) | ((try simp only [beq_iff_eq, beq_eq_false_iff_ne, bne_iff_ne, bne_eq_false_iff_eq, ne_eq, decide_eq_true_eq, decide_eq_false_iff_not, Bool.and_eq_true, Bool.or_eq_true, Bool.not_eq_true, Bool.not_eq_false, Bool.false_eq_true, Decidable.not_not, Bool.not_eq_eq_eq_not, Bool.not_true, Bool.not_false] at *); simp_all; done))
set_option maxRecDepth 100000 in
set_option maxHeartbeats 8000000 in
theorem exprs_31 (A : Option Addr) (L : List Nd) (c i : Nat) (w : World) (h : TreeAt w w.heap.size A L) (hc : L.length ≤ c) (hm : c ≤ maxLen) (hL : L.length ≤ 1000000000000) (hi : i < L.length) (hk : (nd L i).k = 31) : Calls Tryz.prog 79 #[.agg #[.slice A L.length c], .int .i64 (i : Int)] w fun e w' => e = .returned (.bool (exprsB L (nd L i))) ∧ Below w.heap.size w w' := by
  have hT := Lib.hid h
  have hm2 := Lib.hid hm
  obtain ⟨ad, rfl, hn⟩ := h i hi
  have hb2 := hn.blk
  have hb1 : ad.block < w.heap.size := (by rw [block_add] at hb2; exact hb2)
  obtain ⟨K0, kc0, c0, c1, c2, c3, c4, hK0, hkk, hkm⟩ := node_open hn
  have HCr0 := Lib.hid (fun W (hb : Below w.heap.size w W) => list_at (some ad) L c i W (h.later hb) hc hm hi 0 0 rfl (by decide) 1000)
  have H := Lib.hid (show exprsB L (nd L i) = (decide ((nd L i).ks.length = 1) && (listB L (nd L i) 0 1000)) by unfold exprsB; rw [hk]; rfl)
  rw [H.out]
  clear H h hn
  generalize listB L (nd L i) 0 1000 = r0 at *
  generalize nd L i = y at *
  obtain ⟨k, x, m, ks, p⟩ := y
  simp only at hk c0 c1 c2 c3 c4 hkk hK0 ⊢
  subst hk
  have hKK := Lib.hid hK0
  clear hK0
  unfold maxLen at hm hkm
  generalize hM : ks.length = M at *
  have HM := Lib.hid hM
  clear hM
  go_enter Tryz.func79, Tryz.ntmps79
  go_upto_region 2 with fail
  obtain ⟨wa, hwa⟩ : ∃ wa : World, wa = ((w.alloc (.cells #[.slice (some ad) L.length c] 24)).alloc (.cells #[.int .i64 31, .string x, .int .i64 m, .slice K0 M kc0, .int .i64 p] 37)) := ⟨_, rfl⟩
  have xa : wa.cell? ⟨w.heap.size, 0, none⟩ = some (.slice (some ad) L.length c) := by rw [hwa]; simp [World.cell?_alloc_mark]
  have qa : Below w.heap.size w wa := by rw [hwa]; (exact bl)
  have za := Below.size qa
  have ya : wa.cell? ⟨w.heap.size + 1, 3, none⟩ = some (.slice K0 M kc0) := by rw [hwa]; simp [World.cell?_alloc_mark]
  have yk : wa.cell? ⟨w.heap.size + 1, 0, none⟩ = some (.int .i64 31) := by rw [hwa]; simp [World.cell?_alloc_mark]
  rw [← hwa]
  clear hwa
  go_wp2_with (first
    | (go_at_call 90; (with_reducible refine (HCr0.out wa qa).mono ?_); rintro e wr0 ⟨rfl, br0⟩; have qr0 := qa.trans (br0.mono qa.size); have zr0 := Below.size qr0; have xr0 : wr0.cell? ⟨w.heap.size, 0, none⟩ = some (.slice (some ad) L.length c) := (br0.cell (p := ⟨w.heap.size, 0, none⟩) (World.block_lt_of_cell? wa _ xa)).trans xa)
    | fail)
  all_goals go_ret
  all_goals (refine ⟨ret_bool ?_, (by (exact bl))⟩; first | rfl | (simp [*]; done) | ((try simp only [beq_iff_eq, beq_eq_false_iff_ne, bne_iff_ne, bne_eq_false_iff_eq, ne_eq, decide_eq_true_eq, decide_eq_false_iff_not, Bool.and_eq_true, Bool.or_eq_true, Bool.not_eq_true, Bool.not_eq_false, Bool.false_eq_true, Decidable.not_not, Bool.not_eq_eq_eq_not, Bool.not_true, Bool.not_false] at *); simp_all; done) | ((first | rw [show decide (M = 1) = true from decide_eq_true (by omega)] | rw [show decide (M = 1) = false from decide_eq_false (by omega)]); first | rfl | (simp [*]; done) | ((try simp only [beq_iff_eq, beq_eq_false_iff_ne, bne_iff_ne, bne_eq_false_iff_eq, ne_eq, decide_eq_true_eq, decide_eq_false_iff_not, Bool.and_eq_true, Bool.or_eq_true, Bool.not_eq_true, Bool.not_eq_false, Bool.false_eq_true, Decidable.not_not, Bool.not_eq_eq_eq_not, Bool.not_true, Bool.not_false] at *); simp_all; done)))
set_option maxRecDepth 100000 in
set_option maxHeartbeats 8000000 in
theorem exprs_33 (A : Option Addr) (L : List Nd) (c i : Nat) (w : World) (h : TreeAt w w.heap.size A L) (hc : L.length ≤ c) (hm : c ≤ maxLen) (hL : L.length ≤ 1000000000000) (hi : i < L.length) (hk : (nd L i).k = 33) : Calls Tryz.prog 79 #[.agg #[.slice A L.length c], .int .i64 (i : Int)] w fun e w' => e = .returned (.bool (exprsB L (nd L i))) ∧ Below w.heap.size w w' := by
  have hT := Lib.hid h
  have hm2 := Lib.hid hm
  obtain ⟨ad, rfl, hn⟩ := h i hi
  have hb2 := hn.blk
  have hb1 : ad.block < w.heap.size := (by rw [block_add] at hb2; exact hb2)
  obtain ⟨K0, kc0, c0, c1, c2, c3, c4, hK0, hkk, hkm⟩ := node_open hn
  have HCr0 := Lib.hid (fun W (hb : Below w.heap.size w W) => row_lit (some ad) L c i W (h.later hb) hc hm hi [1000, 1001] 2 #[.int .i64 1000, .int .i64 1001] rfl (by decide) (by decide) rfl)
  have H := Lib.hid (show exprsB L (nd L i) = ((rowB L (nd L i).ks [1000, 1001])) by unfold exprsB; rw [hk]; rfl)
  rw [H.out]
  clear H h hn
  generalize rowB L (nd L i).ks [1000, 1001] = r0 at *
  generalize nd L i = y at *
  obtain ⟨k, x, m, ks, p⟩ := y
  simp only at hk c0 c1 c2 c3 c4 hkk hK0 ⊢
  subst hk
  have hKK := Lib.hid hK0
  clear hK0
  unfold maxLen at hm hkm
  generalize hM : ks.length = M at *
  have HM := Lib.hid hM
  clear hM
  go_enter Tryz.func79, Tryz.ntmps79
  go_upto_region 2 with fail
  obtain ⟨wa, hwa⟩ : ∃ wa : World, wa = ((w.alloc (.cells #[.slice (some ad) L.length c] 24)).alloc (.cells #[.int .i64 33, .string x, .int .i64 m, .slice K0 M kc0, .int .i64 p] 37)) := ⟨_, rfl⟩
  have xa : wa.cell? ⟨w.heap.size, 0, none⟩ = some (.slice (some ad) L.length c) := by rw [hwa]; simp [World.cell?_alloc_mark]
  have qa : Below w.heap.size w wa := by rw [hwa]; (exact bl)
  have za := Below.size qa
  have ya : wa.cell? ⟨w.heap.size + 1, 3, none⟩ = some (.slice K0 M kc0) := by rw [hwa]; simp [World.cell?_alloc_mark]
  have yk : wa.cell? ⟨w.heap.size + 1, 0, none⟩ = some (.int .i64 33) := by rw [hwa]; simp [World.cell?_alloc_mark]
  rw [← hwa]
  clear hwa
  go_wp2_with (first
    | (go_at_call 91; (with_reducible refine (HCr0.out wa qa).mono ?_); rintro e wr0 ⟨rfl, br0⟩; have qr0 := qa.trans (br0.mono qa.size); have zr0 := Below.size qr0; have xr0 : wr0.cell? ⟨w.heap.size, 0, none⟩ = some (.slice (some ad) L.length c) := (br0.cell (p := ⟨w.heap.size, 0, none⟩) (World.block_lt_of_cell? wa _ xa)).trans xa)
    | fail)
  all_goals go_ret
  all_goals (refine ⟨ret_bool ?_, (by (exact bl))⟩; first | rfl | (simp [*]; done) | ((try simp only [beq_iff_eq, beq_eq_false_iff_ne, bne_iff_ne, bne_eq_false_iff_eq, ne_eq, decide_eq_true_eq, decide_eq_false_iff_not, Bool.and_eq_true, Bool.or_eq_true, Bool.not_eq_true, Bool.not_eq_false, Bool.false_eq_true, Decidable.not_not, Bool.not_eq_eq_eq_not, Bool.not_true, Bool.not_false] at *); simp_all; done))
end Go.Proofs.YtpkdhciokiomlaaGreatDoor
