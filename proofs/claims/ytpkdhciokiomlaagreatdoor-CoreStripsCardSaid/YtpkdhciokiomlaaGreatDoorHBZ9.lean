/- Some texts of this claim, put together. -/
import Derived.Test.YtpkdhciokiomlaaGreatDoorHBZ16
import Derived.Test.YtpkdhciokiomlaaGreatDoorHBZ19
import Derived.Deep.RegionLaw
import Derived.StillTailTactics
namespace Go.Proofs.YtpkdhciokiomlaaGreatDoor
section
set_option linter.unusedVariables false
set_option linter.unusedSimpArgs false
set_option linter.unnecessarySimpa false
open Go.RowKit
attribute [local go_sem] cell_alloc_add cell_set_add lt_more fld0
set_option maxRecDepth 100000 in
set_option maxHeartbeats 4000000 in
theorem rEmptied_any (k : Int) (i : Nat) (w : World) : Calls Tryz.prog 26 #[.int .i64 k, .int .i64 (i : Int)] w fun e w' => e = .returned (.bool (emptied k i)) ∧ Below w.heap.size w w' := by
  generalize hE : emptied k i = R
  have HE := Lib.hid hE
  clear hE
  by_cases h : k = 22
  · subst h
    go_enter Tryz.func26, Tryz.ntmps26
    go_wp2
    all_goals go_ret
    all_goals exact ⟨ret_bool (by rw [← HE.out]; simp [emptied] <;> first | omega | (rw [Bool.eq_iff_iff]; simp <;> omega)), (by (exact bl))⟩
  have k22 : (k == 22) = false := beq_eq_false_iff_ne.2 h
  have n22 := Lib.hid h
  clear h
  by_cases h : k = 43
  · subst h
    go_enter Tryz.func26, Tryz.ntmps26
    go_wp2
    all_goals go_ret
    all_goals exact ⟨ret_bool (by rw [← HE.out]; simp [emptied] <;> first | omega | (rw [Bool.eq_iff_iff]; simp <;> omega)), (by (exact bl))⟩
  have k43 : (k == 43) = false := beq_eq_false_iff_ne.2 h
  have n43 := Lib.hid h
  clear h
  by_cases h : k = 41
  · subst h
    by_cases i0 : i = 0
    · subst i0
      go_enter Tryz.func26, Tryz.ntmps26
      go_wp2
      all_goals go_ret
      all_goals exact ⟨ret_bool (by rw [← HE.out]; simp [emptied]), (by (exact bl))⟩
    · have j0 : ((i : Int) == 0) = false := beq_eq_false_iff_ne.2 (by omega)
      go_enter Tryz.func26, Tryz.ntmps26
      go_wp2
      all_goals go_ret
      all_goals exact ⟨ret_bool (by rw [← HE.out]; simp [emptied, i0] <;> first | omega | (rw [Bool.eq_iff_iff]; simp <;> omega)), (by (exact bl))⟩
  have k41 : (k == 41) = false := beq_eq_false_iff_ne.2 h
  have n41 := Lib.hid h
  clear h
  by_cases h : k = 45
  · subst h
    by_cases i0 : i = 0
    · subst i0
      go_enter Tryz.func26, Tryz.ntmps26
      go_wp2
      all_goals go_ret
      all_goals exact ⟨ret_bool (by rw [← HE.out]; simp [emptied]), (by (exact bl))⟩
    · have j0 : ((i : Int) == 0) = false := beq_eq_false_iff_ne.2 (by omega)
      go_enter Tryz.func26, Tryz.ntmps26
      go_wp2
      all_goals go_ret
      all_goals exact ⟨ret_bool (by rw [← HE.out]; simp [emptied, i0] <;> first | omega | (rw [Bool.eq_iff_iff]; simp <;> omega)), (by (exact bl))⟩
  have k45 : (k == 45) = false := beq_eq_false_iff_ne.2 h
  have n45 := Lib.hid h
  clear h
  by_cases h : k = 42
  · subst h
    by_cases i0 : i = 0
    · subst i0
      go_enter Tryz.func26, Tryz.ntmps26
      go_wp2
      all_goals go_ret
      all_goals exact ⟨ret_bool (by rw [← HE.out]; simp [emptied]), (by (exact bl))⟩
    · have j0 : ((i : Int) == 0) = false := beq_eq_false_iff_ne.2 (by omega)
      go_enter Tryz.func26, Tryz.ntmps26
      go_wp2
      all_goals go_ret
      all_goals exact ⟨ret_bool (by rw [← HE.out]; simp [emptied, i0] <;> first | omega | (rw [Bool.eq_iff_iff]; simp <;> omega)), (by (exact bl))⟩
  have k42 : (k == 42) = false := beq_eq_false_iff_ne.2 h
  have n42 := Lib.hid h
  clear h
  by_cases h : k = 27
  · subst h
    go_enter Tryz.func26, Tryz.ntmps26
    go_wp2
    all_goals go_ret
    all_goals exact ⟨ret_bool (by rw [← HE.out]; simp [emptied] <;> first | omega | (rw [Bool.eq_iff_iff]; simp <;> omega)), (by (exact bl))⟩
  have k27 : (k == 27) = false := beq_eq_false_iff_ne.2 h
  have n27 := Lib.hid h
  clear h
  by_cases h : k = 28
  · subst h
    go_enter Tryz.func26, Tryz.ntmps26
    go_wp2
    all_goals go_ret
    all_goals exact ⟨ret_bool (by rw [← HE.out]; simp [emptied] <;> first | omega | (rw [Bool.eq_iff_iff]; simp <;> omega)), (by (exact bl))⟩
  have k28 : (k == 28) = false := beq_eq_false_iff_ne.2 h
  have n28 := Lib.hid h
  clear h
  by_cases h : k = 40
  · subst h
    go_enter Tryz.func26, Tryz.ntmps26
    go_wp2
    all_goals go_ret
    all_goals exact ⟨ret_bool (by rw [← HE.out]; simp [emptied] <;> first | omega | (rw [Bool.eq_iff_iff]; simp <;> omega)), (by (exact bl))⟩
  have k40 : (k == 40) = false := beq_eq_false_iff_ne.2 h
  have n40 := Lib.hid h
  clear h
  by_cases h : k = 44
  · subst h
    go_enter Tryz.func26, Tryz.ntmps26
    go_wp2
    all_goals go_ret
    all_goals exact ⟨ret_bool (by rw [← HE.out]; simp [emptied] <;> first | omega | (rw [Bool.eq_iff_iff]; simp <;> omega)), (by (exact bl))⟩
  have k44 : (k == 44) = false := beq_eq_false_iff_ne.2 h
  have n44 := Lib.hid h
  clear h
  by_cases h : k = 66
  · subst h
    go_enter Tryz.func26, Tryz.ntmps26
    go_wp2
    all_goals go_ret
    all_goals exact ⟨ret_bool (by rw [← HE.out]; simp [emptied] <;> first | omega | (rw [Bool.eq_iff_iff]; simp <;> omega)), (by (exact bl))⟩
  have k66 : (k == 66) = false := beq_eq_false_iff_ne.2 h
  have n66 := Lib.hid h
  clear h
  have hR : R = false := by
    rw [← HE.out]; unfold emptied
    rw [if_neg (by have := n22.out; have := n43.out; have := n40.out; have := n44.out; have := n66.out; omega), if_neg (by have := n27.out; have := n28.out; omega), if_neg (by have := n41.out; have := n45.out; have := n42.out; omega)]
  subst hR
  go_enter Tryz.func26, Tryz.ntmps26
  go_wp2
  all_goals go_ret
  all_goals exact ⟨rfl, (by (exact bl))⟩
set_option maxRecDepth 100000 in
set_option maxHeartbeats 4000000 in
/-- A node without kids, in another's place. -/
theorem rOne_any (z k m p : Int) (x : ByteArray) (K : Option Addr) (n kc : Nat) (w : World) :
    Calls Tryz.prog 27 #[.int .i64 z, .agg #[.int .i64 k, .string x, .int .i64 m, .slice K n kc, .int .i64 p]] w fun r w' => (∃ v l, r = .returned (.agg #[v]) ∧ OwnT w' w.heap.size v l ∧ l.map (·.1) = [⟨z, ⟨#[]⟩, 0, [], p⟩]) ∧ Below w.heap.size w w' := by
  obtain ⟨wa, hwa⟩ : ∃ wa : World, wa = (w.alloc (.cells #[.int .i64 k, .string x, .int .i64 m, .slice K n kc, .int .i64 p] 37)).alloc (.cells #[.slice none 0 0] 24) := ⟨_, rfl⟩
  have bA : Below w.heap.size w wa := by rw [hwa]; exact (by (exact bl))
  have zA : wa.heap.size = w.heap.size + 2 := by rw [hwa]; simp
  have rX : Row wa w.heap.size 37 #[.int .i64 k, .string x, .int .i64 m, .slice K n kc, .int .i64 p] := by rw [hwa]; exact (row_new rfl).alloc _
  have rR : Row wa (w.heap.size + 1) 24 #[.slice none 0 0] := by rw [hwa]; exact row_new (by simp)
  have x4 := rX.cell 4
  simp at x4
  have lX := rX.lt
  have lR := rR.lt
  have fR := rR.free 0
  have cR := rR.cell 0
  simp at cR
  go_enter Tryz.func27, Tryz.ntmps27
  go_upto_region 1 with fail
  rw [← hwa]
  clear hwa
  obtain ⟨ws, hws⟩ : ∃ ws : World, ws = wa.setCell ⟨w.heap.size + 1, 0, none⟩ (.slice (some ⟨w.heap.size + 2, 0, none⟩) 1 1) := ⟨_, rfl⟩
  have zS : ws.heap.size = w.heap.size + 2 := by rw [hws]; simp; omega
  obtain ⟨wb, hwb⟩ : ∃ wb : World, wb = ws.alloc (.cells #[.int .i64 z, .string ⟨#[]⟩, .int .i64 0, .slice none 0 0, .int .i64 p] 37) := ⟨_, rfl⟩
  have oT : OwnT wb w.heap.size (.slice (some ⟨w.heap.size + 2, 0, none⟩) 1 1) [(⟨z, ⟨#[]⟩, 0, [], p⟩, .slice none 0 0)] := by
    rw [hwb]
    refine ⟨?_, Kids.one (World.ownsRow_nil _ _ _ _) ⟨⟨by simp, by simp⟩, fun k hk => by cases hk⟩⟩
    have e := World.ownsRow_lit (base := w.heap.size) (e := 37) (size := 5) ws #[.int .i64 z, .string ⟨#[]⟩, .int .i64 0, .slice none 0 0, .int .i64 p] 1 (by omega) (by decide) rfl
    rw [zS] at e
    simpa [ndsC, ndC] using e
  have HO := Lib.hid oT
  have bB : Below w.heap.size w wb := by rw [hwb, hws]; exact (bA.setCell (by show w.heap.size ≤ w.heap.size + 1; omega) _).alloc (by simp; omega) _
  have rRb : Row ws (w.heap.size + 1) 24 #[.slice (some ⟨w.heap.size + 2, 0, none⟩) 1 1] := by rw [hws]; exact row_put1 rR _
  have r50 := (rRb.alloc (.cells #[.int .i64 z, .string ⟨#[]⟩, .int .i64 0, .slice none 0 0, .int .i64 p] 37)).cell 0
  simp at r50
  rw [hws] at r50
  have HB := Lib.hid bB
  have HWB := Lib.hid (hws ▸ hwb)
  clear hwb oT bB hws rRb zS
  go_wp2
  refine bodyPost_ret (v := .agg #[.slice (some ⟨w.heap.size + 2, 0, none⟩) 1 1]) (by simp [results, Tryz.results27, go_sem, fR, cR, r50, *]) rfl ?_
  rw [← HWB.out]
  exact ⟨⟨_, _, rfl, HO.out, rfl⟩, HB.out⟩
set_option maxRecDepth 100000 in
set_option maxHeartbeats 4000000 in
theorem rkid_any (A : Option Addr) (L : List Nd) (N c : Nat) (hN : L.length = N) (hc : N ≤ c) (hm : c ≤ maxLen) (i q j : Nat) (z : Int) (hz : (q : Int) = z) (w : World) (hT : TreeAt w w.heap.size A L) (hi : i < L.length) (hq : q < (nd L i).ks.length) (hj : (nd L i).ks.getD q 0 = (j : Int)) (hjL : j < L.length) :
    Calls Tryz.prog 63 #[.agg #[.slice A N c], .int .i64 (i : Int), .int .i64 z] w fun e w' => (∃ K kc, e = .returned (nodeV (nd L j) K kc)) ∧ Below w.heap.size w w' := by
  subst hz
  have HT := Lib.hid hT
  obtain ⟨ad, rfl, hn⟩ := hT i hi
  have hb2 := hn.blk
  have hb1 : ad.block < w.heap.size := (by rw [block_add] at hb2; exact hb2)
  obtain ⟨K, kc, c0, c1, c2, c3, c4, hK, hkk, hkm⟩ := node_open hn
  unfold maxLen at hm hkm
  obtain ⟨kd, rfl, hkb, kcell⟩ := hK q hq
  rw [show ksV (nd L i).ks q = .int .i64 (j : Int) from by unfold ksV; rw [hj]] at kcell
  have hd := HT.out.at_ hjL
  have hqM : (q : Int) < ((nd L i).ks.length : Int) := by omega
  obtain ⟨K', kc', d0, d1, d2, d3, d4, hK', hkk', hkm'⟩ := node_open hd
  rw [hN] at hi hjL
  have hji : (j : Int) < (N : Int) := by omega
  generalize hl : (nd L i).ks.length = M at *
  clear hn hd hK hK' hj hl hT c0 c1 c2 c4
  generalize nd L (j : Int) = y at *
  have hbA : (ad.add (i * 5)).block < w.heap.size := by omega
  have hbD : (ad.add (j * 5)).block < w.heap.size := by rw [block_add]; exact hb1
  have hbK : (kd.add q).block < w.heap.size := by rw [block_add]; exact hkb
  go_enter Tryz.func63, Tryz.ntmps63
  go_upto_region 1 with fail
  obtain ⟨wo, hwo⟩ : ∃ wo : World, wo = (w.alloc (.cells #[.slice (some ad) N c] 24)).alloc (.cells #[.int .i64 0, .string ⟨#[]⟩, .int .i64 0, .slice none 0 0, .int .i64 0] 37) := ⟨_, rfl⟩
  rw [← hwo]
  have rT : Row wo w.heap.size 24 #[.slice (some ad) N c] := by rw [hwo]; exact (row_new rfl).alloc _
  have rN : Row wo (w.heap.size + 1) 37 #[.int .i64 0, .string ⟨#[]⟩, .int .i64 0, .slice none 0 0, .int .i64 0] := by rw [hwo]; exact row_new (by simp)
  have hbr : Below w.heap.size w wo := by rw [hwo]; (exact bl)
  clear hwo
  refine wp_region_still_tail 13 (by kernel_rfl) (by kernel_rfl) ?_
  simp only [List.take_succ_cons, List.take_zero, List.drop_succ_cons, List.drop_zero]
  obtain ⟨wd, hwd⟩ : ∃ wd : World, wd = { wo with drawn := wo.drawn + 1 } := ⟨_, rfl⟩
  rw [← hwd]
  replace rT : Row wd w.heap.size 24 #[.slice (some ad) N c] := by rw [hwd]; exact rT
  replace rN : Row wd (w.heap.size + 1) 37 #[.int .i64 0, .string ⟨#[]⟩, .int .i64 0, .slice none 0 0, .int .i64 0] := by rw [hwd]; exact rN
  replace hbr : Below w.heap.size w wd := by rw [hwd]; exact hbr.drew
  clear hwd
  have zd := hbr.size
  replace c3 := (hbr.cell (p := ⟨(ad.add (i * 5)).block, (ad.add (i * 5)).off + 3, none⟩) hbA).trans c3
  replace kcell := (hbr.cell (p := kd.add q) hbK).trans kcell
  replace d0 := (hbr.cell (p := ad.add (j * 5)) hbD).trans d0
  replace d1 := (hbr.cell (p := ⟨(ad.add (j * 5)).block, (ad.add (j * 5)).off + 1, none⟩) hbD).trans d1
  replace d2 := (hbr.cell (p := ⟨(ad.add (j * 5)).block, (ad.add (j * 5)).off + 2, none⟩) hbD).trans d2
  replace d3 := (hbr.cell (p := ⟨(ad.add (j * 5)).block, (ad.add (j * 5)).off + 3, none⟩) hbD).trans d3
  replace d4 := (hbr.cell (p := ⟨(ad.add (j * 5)).block, (ad.add (j * 5)).off + 4, none⟩) hbD).trans d4
  have t0 := rT.cell 0
  have lT := rT.lt
  have lN := rN.lt
  have n0 := rN.cell 0
  have n1 := rN.cell 1
  have n2 := rN.cell 2
  have n3 := rN.cell 3
  have n4 := rN.cell 4
  have f0 := rN.free 0
  have f1 := rN.free 1
  have f2 := rN.free 2
  have f3 := rN.free 3
  have f4 := rN.free 4
  simp at t0 n0 n1 n2 n3 n4
  repeat still_step
  refine wpStill_nil ?_
  go_wp2
  refine bodyPost_ret (v := nodeV y K' kc') (by simp [results, Tryz.results63, go_sem, nodeV, *]) rfl ⟨⟨K', kc', rfl⟩, (by (exact bl))⟩
end
section
set_option linter.unusedVariables false
set_option linter.unusedSimpArgs false
set_option linter.unnecessarySimpa false
open Go.RowKit
attribute [local go_sem] cell_alloc_add cell_set_add lt_more fld0
set_option maxRecDepth 100000 in
set_option maxHeartbeats 4000000 in
theorem rfree_any (A : Option Addr) (L : List Nd) (N c : Nat) (hN : L.length = N) (hc : N ≤ c) (hm : c ≤ maxLen) (i q j : Nat) (z : Int) (hz : (q : Int) = z) (w : World) (hT : TreeAt w w.heap.size A L) (hi : i < L.length) (hq : q < (nd L i).ks.length) (hj : (nd L i).ks.getD q 0 = (j : Int)) (hjL : j < L.length) :
    Calls Tryz.prog 41 #[.agg #[.slice A N c], .int .i64 (i : Int), .int .i64 z] w fun e w' => e = .returned (.bool ((nd L j).k == 1)) ∧ Below w.heap.size w w' := by
  have HK := Lib.hid (fun W (hb : Below w.heap.size w W) => rkid_any A L N c hN hc hm i q j z hz W (hT.later hb) hi hq hj hjL)
  clear hT hz hq hj hi hjL hN
  generalize nd L (j : Int) = y at *
  obtain ⟨k, x, m, ks, p⟩ := y
  obtain ⟨wa, hwa⟩ : ∃ wa : World, wa = w.alloc (.cells #[.slice A N c] 24) := ⟨_, rfl⟩
  have bA : Below w.heap.size w wa := by rw [hwa]; exact (by (exact bl))
  have rT : Row wa w.heap.size 24 #[.slice A N c] := by rw [hwa]; exact row_new rfl
  have t0 := rT.cell 0
  simp at t0
  have lT := rT.lt
  go_enter Tryz.func41, Tryz.ntmps41
  go_upto_region 1 with fail
  rw [← hwa]
  clear hwa
  go_wp2_with (first
    | (go_at_call 63; (with_reducible refine (HK.out _ bA).mono ?_); rintro e w1 ⟨⟨K, kc, rfl⟩, b1⟩; unfold nodeV)
    | fail)
  go_ret
  exact ⟨rfl, bA.trans (b1.mono bA.size)⟩
set_option maxRecDepth 100000 in
set_option maxHeartbeats 4000000 in
theorem rleft_any (A : Option Addr) (L : List Nd) (N c : Nat) (hN : L.length = N) (hc : N ≤ c) (hm : c ≤ maxLen) : ∀ (f i e : Nat) (w : World), Sp L i e → e - i ≤ f → TreeAt w w.heap.size A L →
    Calls Tryz.prog 28 #[.agg #[.slice A N c], .int .i64 (i : Int)] w fun r w' => r = .returned (.bool (leftB L f i)) ∧ Below w.heap.size w w' := by
  have HN := Lib.hid hN
  have hm2 := Lib.hid hm
  unfold maxLen at hm
  intro f
  induction f with
  | zero => intro i e w hS hf; have := hS.lt; omega
  | succ f ih =>
    intro i e w hS hf hT
    have IH := Lib.hid ih
    clear ih
    have hi : i < N := by rw [← hN]; exact hS.1
    have HFR := Lib.hid (fun q j (hq : q < (nd L i).ks.length) hj hjL (z : Int) hz W (hb : Below w.heap.size w W) => rfree_any A L N c hN hc hm2.out i q j z hz W (hT.later hb) hS.1 hq hj hjL)
    obtain ⟨ad, rfl, hn⟩ := hT i hS.1
    have hb2 := hn.blk
    have hb1 : ad.block < w.heap.size := (by rw [block_add] at hb2; exact hb2)
    obtain ⟨K, kc, c0, c1, c2, c3, c4, hK, hkk, hkm⟩ := node_open hn
    have H44 := Lib.hid (fun h => field_kids hS.2.1 (n := (i : Int)) h)
    have H50 := Lib.hid (fun h => (export_kid hS.2.1 (n := (i : Int)) h).1)
    have HKD := Lib.hid (fun q (h : q < (nd L i).ks.length) => kid_sp hS h)
    have HT := Lib.hid hT
    have HL := Lib.hid (show leftB L (f + 1) i = if (nd L i).k = 51 ∨ (nd L i).k = 52 then true else if (nd L i).k = 50 then leftB L f ((nd L i).ks.getD 0 0) else if (nd L i).k = 44 then (nd L ((nd L i).ks.getD 1 0)).k == 1 else false from rfl)
    have HF := Lib.hid (And.intro hf hS.lt)
    clear hn hS hT hN hf
    generalize leftB L (f + 1) i = R at *
    generalize nd L (i : Int) = y at *
    obtain ⟨k, x, m, ks, p⟩ := y
    simp only at c0 c1 c2 c3 c4 hK hkk H44 H50 HKD HL HFR
    unfold maxLen at hkm
    generalize hMM : ks.length = M at *
    have HMM := Lib.hid hMM
    clear hMM
    by_cases h : k = 51
    · subst h
      have hR := HL.out
      simp at hR
      subst hR
      go_enter Tryz.func28, Tryz.ntmps28
      go_wp2
      go_ret
      exact ⟨rfl, (by (exact bl))⟩
    have k51 : (k == 51) = false := beq_eq_false_iff_ne.2 h
    have n51 := Lib.hid h
    clear h
    by_cases h : k = 52
    · subst h
      have hR := HL.out
      simp at hR
      subst hR
      go_enter Tryz.func28, Tryz.ntmps28
      go_wp2
      go_ret
      exact ⟨rfl, (by (exact bl))⟩
    have k52 : (k == 52) = false := beq_eq_false_iff_ne.2 h
    have n52 := Lib.hid h
    clear h
    obtain ⟨wa, hwa⟩ : ∃ wa : World, wa = (w.alloc (.cells #[.slice (some ad) N c] 24)).alloc (.cells #[.int .i64 k, .string x, .int .i64 m, .slice K M kc, .int .i64 p] 37) := ⟨_, rfl⟩
    have bA : Below w.heap.size w wa := by rw [hwa]; exact (by (exact bl))
    have rT : Row wa w.heap.size 24 #[.slice (some ad) N c] := by rw [hwa]; exact (row_new rfl).alloc _
    have rY : Row wa (w.heap.size + 1) 37 #[.int .i64 k, .string x, .int .i64 m, .slice K M kc, .int .i64 p] := by rw [hwa]; exact row_new (by simp)
    have t0 := rT.cell 0
    have y0 := rY.cell 0
    have y3 := rY.cell 3
    simp at t0 y0 y3
    have lT := rT.lt
    have lY := rY.lt
    have hsz := bA.size
    by_cases h : k = 50
    · subst h
      have hM := H50.out rfl
      have hM0 : 0 < M := by omega
      obtain ⟨j, m', e1, hS, e2, e3⟩ := HKD.out 0 hM0
      have hR := HL.out
      rw [if_neg (by omega), if_pos rfl, e1] at hR
      have HR := Lib.hid hR
      obtain ⟨kd, rfl, hkb, kcell⟩ := hK 0 hM0
      rw [show ksV ks 0 = .int .i64 (j : Int) from by unfold ksV; rw [e1]] at kcell
      have kcell0 : wa.cell? kd = some (.int .i64 (j : Int)) := (bA.cell hkb).trans (by rw [← add_zero kd]; exact kcell)
      have hkl : kd.block < wa.heap.size := Nat.lt_of_lt_of_le hkb hsz
      have HC := Lib.hid (fun W (hb : Below w.heap.size w W) => IH.out j m' W hS (by have := HF.out; have := hS.lt; omega) (HT.out.later hb))
      rw [← HR.out] at HC
      have h0M : (0 : Int) < (M : Int) := by omega
      clear hR e1 hS hK hM
      go_enter Tryz.func28, Tryz.ntmps28
      go_upto_region 7 with fail
      rw [← hwa]
      clear hwa
      go_region_law (first
        | (go_simp; go_at_call 28; (with_reducible refine (HC.out _ (by (exact bl))).mono ?_); rintro r w1 ⟨rfl, b1⟩)
        | fail)
      all_goals go_wp2
      all_goals go_ret
      all_goals exact ⟨rfl, Below.trans (b := _) (by exact bl) (Below.mono (B := wa.heap.size) b1 hsz)⟩
    have k50 : (k == 50) = false := beq_eq_false_iff_ne.2 h
    have n50 := Lib.hid h
    clear h
    by_cases h : k = 44
    · subst h
      have hM := H44.out rfl
      have hM1 : 1 < M := by omega
      obtain ⟨j, m', e1, hS, e2, e3⟩ := HKD.out 1 hM1
      have hR := HL.out
      rw [if_neg (by omega), if_neg (by omega), if_pos rfl, e1] at hR
      have HR := Lib.hid hR
      have HFQ := Lib.hid (HFR.out 1 j hM1 e1 hS.1 1 rfl)
      generalize (nd L (j : Int)).k = kj at *
      clear hR e1 hS hK hM
      go_enter Tryz.func28, Tryz.ntmps28
      go_upto_region 9 with fail
      rw [← hwa]
      clear hwa
      go_wp2_with (first
        | (go_at_call 41; (with_reducible refine (HFQ.out _ bA).mono ?_); rintro r w1 ⟨rfl, b1⟩)
        | fail)
      go_ret
      exact ⟨ret_bool HR.out.symm, bA.trans (b1.mono hsz)⟩
    have k44 : (k == 44) = false := beq_eq_false_iff_ne.2 h
    have n44 := Lib.hid h
    clear h
    have hR := HL.out
    rw [if_neg (by have := n51.out; have := n52.out; omega), if_neg n50.out, if_neg n44.out] at hR
    subst hR
    clear hwa rT rY t0 y0 y3 lT lY hsz bA
    go_enter Tryz.func28, Tryz.ntmps28
    go_wp2
    go_ret
    exact ⟨rfl, (by (exact bl))⟩
end
end Go.Proofs.YtpkdhciokiomlaaGreatDoor
