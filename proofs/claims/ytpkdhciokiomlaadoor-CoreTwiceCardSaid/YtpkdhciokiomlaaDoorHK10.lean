/- The walks of the program's fits: the table. -/
import Derived.Test.YtpkdhciokiomlaaDoorHK9
import Derived.Test.YtpkdhciokiomlaaDoorHK6
namespace Go.Proofs.YtpkdhciokiomlaaDoor
set_option linter.unusedVariables false
set_option linter.unusedSimpArgs false
set_option linter.unnecessarySimpa false
open Go.RowKit
theorem min_run {P : Program} {w : World} (ts : Array TypeId) (t : TypeId) (k k' : IntKind) (x y : Int) : (Builtin.min_ ts t #[.int k x, .int k' y]).run P w = .ok (.int k (min x y)) w := by
  rw [run_min_int2]; congr 2; simp only [Int.min_def]; split <;> split <;> omega
attribute [local go_sem high] min_run
attribute [local go_sem] cell_alloc_add cell_set_add lt_more
set_option maxRecDepth 100000 in
theorem ite_some {α : Type} {P : Prop} [Decidable P] {a b : Option α} {Q : α → Prop} (ha : ∀ x, a = some x → Q x) (hb : ∀ x, b = some x → Q x) : ∀ x, (if P then a else b) = some x → Q x := by
  intro x h; split at h
  · exact ha x h
  · exact hb x h
theorem leaf_some {α : Type} {a : α} {Q : α → Prop} (h : Q a) : ∀ x, some a = some x → Q x := by rintro _ ⟨⟩; exact h
theorem leaf_none {α : Type} {Q : α → Prop} : ∀ x : α, none = some x → Q x := by rintro _ ⟨⟩
set_option maxRecDepth 100000 in
theorem tab_many {k : Int} {ps : List Plc} (h : tab k = some (ps, true)) : ps.length = 1 := by
  have H : ∀ x, tab k = some x → (x.2 = true → x.1.length = 1) := by
    unfold tab
    repeat' (refine ite_some (Q := fun x : List Plc × Bool => x.2 = true → x.1.length = 1) ?_ ?_)
    all_goals first | exact leaf_none | (refine leaf_some (Q := fun x : List Plc × Bool => x.2 = true → x.1.length = 1) ?_; first | exact fun _ => rfl | (intro e; cases e))
  exact H _ h rfl
theorem eachK {L : List Nd} {ps : List Plc} {ks : List Int} {j : Nat} (h : j < ks.length) : eachP L ps j (ks.drop j) = ((ps.getD (min j (ps.length - 1)) anyP) L (ks.getD j 0) && eachP L ps (j + 1) (ks.drop (j + 1))) := by
  rw [List.drop_eq_getElem_cons h]
  have e : ks.getD j 0 = ks[j] := by simp [List.getD, h]
  rw [e]; rfl
set_option maxRecDepth 100000 in
set_option maxHeartbeats 8000000 in
theorem fits_none (A : Option Addr) (L : List Nd) (c i : Nat) (w : World) (h : TreeAt w w.heap.size A L) (hc : L.length ≤ c) (hm : c ≤ maxLen) (hL : L.length ≤ 1000000000000) (hi : i < L.length) (hx : (nd L i).x.size ≤ 4000000) (hmx : Mx w) (hw00 : 0 < w.heap.size) (hs : saidB (nd L i) = true) (hin : (nd L i).ks.all (inL L) = true) (h12 : (nd L i).k ≠ 12) (h87 : (nd L i).k ≠ 87) (ht : tab (nd L i).k = none) : Calls Tryd.prog 16 #[.agg #[.slice A L.length c], .int .i64 (i : Int)] w fun e w' => e = .returned (.bool (false)) ∧ Below w.heap.size w w' := by
  unfold saidB at hs
  have hT := Lib.hid h
  have hm2 := Lib.hid hm
  obtain ⟨ad, rfl, hn⟩ := h i hi
  have hb2 := hn.blk
  have hwm := hn.wm
  have hb1 : ad.block < w.heap.size := (by rw [block_add] at hb2; exact hb2)
  obtain ⟨K0, kc0, c0, c1, c2, c3, c4, hK0, hkk, hkm⟩ := node_open hn
  clear h hn
  generalize nd L i = y at *
  obtain ⟨k, x, m, ks, p⟩ := y
  simp only at *
  have HSA := Lib.hid (fun W (hb : Below w.heap.size w W) => said_any k m p x hx hwm K0 ks.length kc0 W (hmx.below hb hw00) (Nat.lt_of_lt_of_le hw00 hb.size))
  have hKK := Lib.hid hK0
  clear hK0 hmx
  have hmN := hm
  have hkmN := hkm
  have HKM := Lib.hid hkm
  unfold maxLen at hm hkm
  generalize hM : ks.length = M at *
  have HM := Lib.hid hM
  clear hM hmN hkmN
  rw [hs] at HSA
  have HIN := Lib.hid (List.all_eq_true.1 hin)
  clear hin
  have HP := Lib.hid (fun W => places_any k W)
  rw [ht] at HP
  clear ht
  go_enter Tryd.func16, Tryd.ntmps16
  go_upto_region 2 with fail
  obtain ⟨wa, hwa⟩ : ∃ wa : World, wa = ((w.alloc (.cells #[.slice (some ad) L.length c] 24)).alloc (.cells #[.int .i64 k, .string x, .int .i64 m, .slice K0 M kc0, .int .i64 p] 35)) := ⟨_, rfl⟩
  have xa : wa.cell? ⟨w.heap.size, 0, none⟩ = some (.slice (some ad) L.length c) := by rw [hwa]; simp [World.cell?_alloc_mark]
  have qa : Below w.heap.size w wa := by rw [hwa]; (exact bl)
  have za := Below.size qa
  have ka : wa.cell? ⟨w.heap.size + 1, 0, none⟩ = some (.int .i64 k) := by rw [hwa]; simp [World.cell?_alloc_mark]
  have ta : wa.cell? ⟨w.heap.size + 1, 1, none⟩ = some (.string x) := by rw [hwa]; simp [World.cell?_alloc_mark]
  have ma : wa.cell? ⟨w.heap.size + 1, 2, none⟩ = some (.int .i64 m) := by rw [hwa]; simp [World.cell?_alloc_mark]
  have ya : wa.cell? ⟨w.heap.size + 1, 3, none⟩ = some (.slice K0 M kc0) := by rw [hwa]; simp [World.cell?_alloc_mark]
  have pa : wa.cell? ⟨w.heap.size + 1, 4, none⟩ = some (.int .i64 p) := by rw [hwa]; simp [World.cell?_alloc_mark]
  rw [← hwa]
  clear hwa c0 c1 c2 c3 c4
  have lx := World.block_lt_of_cell? wa _ xa
  have ly := World.block_lt_of_cell? wa _ ya
  simp only at lx ly
  have HS1 := Lib.hid (HSA.out wa qa)
  go_wp2_with (first | (go_at_call 25; (with_reducible refine HS1.out.mono ?_); rintro e w1 ⟨rfl, b1⟩; have q1 := qa.trans (b1.mono qa.size); have x1 := (b1.cell (p := ⟨w.heap.size, 0, none⟩) lx).trans xa; have y1 := (b1.cell (p := ⟨w.heap.size + 1, 3, none⟩) ly).trans ya; have k1 := (b1.cell (p := ⟨w.heap.size + 1, 0, none⟩) ly).trans ka) | fail)
  have l1 := World.block_lt_of_cell? w1 _ x1
  have l1y := World.block_lt_of_cell? w1 _ y1
  simp only at l1 l1y
  have hKw := Lib.hid (hKK.out.below q1)
  have z1 := Below.size q1
  go_loopw [28] (fun t wr => ∃ q : Nat, q ≤ M ∧ t = .int .i64 (q : Int) ∧ Below w1.heap.size w1 wr) (fun t _ => M - (intOf t).toNat)
  case atStart => exact ⟨0, Nat.zero_le _, rfl, Below.refl _ _⟩
  case round =>
    obtain ⟨q, hq, rfl, hb⟩ := hrel
    have bw := q1.trans (hb.mono q1.size)
    have e0 := (hb.cell (p := ⟨w.heap.size, 0, none⟩) l1).trans x1
    have e3 := (hb.cell (p := ⟨w.heap.size + 1, 3, none⟩) l1y).trans y1
    have ek := (hb.cell (p := ⟨w.heap.size + 1, 0, none⟩) l1y).trans k1
    by_cases hlt : q < M
    · obtain ⟨kd, hKd, hkb, kcell0⟩ := hKw.out q hlt
      subst hKd
      have kcell : wr.cell? (kd.add q) = some (.int .i64 (ks.getD q 0)) := (hb.cell (World.block_lt_of_cell? w1 _ kcell0)).trans kcell0
      have hq2 : q < ks.length := by rw [HM.out]; exact hlt
      have hu : inL L (ks.getD q 0) = true := HIN.out _ (by rw [show ks.getD q 0 = ks[q] by simp [List.getD, hq2]]; exact List.getElem_mem _)
      clear kcell0
      generalize ks.getD q 0 = u at *
      go_wp2_with (first
        | (go_at_call 26; (with_reducible refine (within_is true (some ad) L c _ _ hc hm2.out hu).mono ?_); rintro e w2 ⟨rfl, b2⟩)
        | fail)
      exact ⟨⟨q + 1, by omega, by go_num, hb.trans (b2.mono hb.size)⟩, by simp [intOf]; omega⟩
    · obtain rfl : q = M := by omega
      go_wp2_with (first
        | (go_at_call 32; (with_reducible refine (HP.out wr).mono ?_); rintro e w3 ⟨b3, rfl⟩)
        | fail)
      go_ret
      exact ⟨rfl, bw.trans (b3.mono bw.size)⟩
set_option maxRecDepth 100000 in
set_option maxHeartbeats 8000000 in
theorem fits_short (A : Option Addr) (L : List Nd) (c i : Nat) (w : World) (h : TreeAt w w.heap.size A L) (hc : L.length ≤ c) (hm : c ≤ maxLen) (hL : L.length ≤ 1000000000000) (hi : i < L.length) (hx : (nd L i).x.size ≤ 4000000) (hmx : Mx w) (hw00 : 0 < w.heap.size) (hs : saidB (nd L i) = true) (hin : (nd L i).ks.all (inL L) = true) (h12 : (nd L i).k ≠ 12) (h87 : (nd L i).k ≠ 87) (ps : List Plc) (ht : tab (nd L i).k = some (ps, false)) (hl : ps.length ≠ (nd L i).ks.length) : Calls Tryd.prog 16 #[.agg #[.slice A L.length c], .int .i64 (i : Int)] w fun e w' => e = .returned (.bool (false)) ∧ Below w.heap.size w w' := by
  unfold saidB at hs
  have hT := Lib.hid h
  have hm2 := Lib.hid hm
  obtain ⟨ad, rfl, hn⟩ := h i hi
  have hb2 := hn.blk
  have hwm := hn.wm
  have hb1 : ad.block < w.heap.size := (by rw [block_add] at hb2; exact hb2)
  obtain ⟨K0, kc0, c0, c1, c2, c3, c4, hK0, hkk, hkm⟩ := node_open hn
  clear h hn
  generalize nd L i = y at *
  obtain ⟨k, x, m, ks, p⟩ := y
  simp only at *
  have HSA := Lib.hid (fun W (hb : Below w.heap.size w W) => said_any k m p x hx hwm K0 ks.length kc0 W (hmx.below hb hw00) (Nat.lt_of_lt_of_le hw00 hb.size))
  have hKK := Lib.hid hK0
  clear hK0 hmx
  have hmN := hm
  have hkmN := hkm
  have HKM := Lib.hid hkm
  unfold maxLen at hm hkm
  generalize hM : ks.length = M at *
  have HM := Lib.hid hM
  clear hM hmN hkmN
  rw [hs] at HSA
  have HIN := Lib.hid (List.all_eq_true.1 hin)
  clear hin
  have HP := Lib.hid (fun W => places_any k W)
  rw [ht] at HP
  clear ht
  go_enter Tryd.func16, Tryd.ntmps16
  go_upto_region 2 with fail
  obtain ⟨wa, hwa⟩ : ∃ wa : World, wa = ((w.alloc (.cells #[.slice (some ad) L.length c] 24)).alloc (.cells #[.int .i64 k, .string x, .int .i64 m, .slice K0 M kc0, .int .i64 p] 35)) := ⟨_, rfl⟩
  have xa : wa.cell? ⟨w.heap.size, 0, none⟩ = some (.slice (some ad) L.length c) := by rw [hwa]; simp [World.cell?_alloc_mark]
  have qa : Below w.heap.size w wa := by rw [hwa]; (exact bl)
  have za := Below.size qa
  have ka : wa.cell? ⟨w.heap.size + 1, 0, none⟩ = some (.int .i64 k) := by rw [hwa]; simp [World.cell?_alloc_mark]
  have ta : wa.cell? ⟨w.heap.size + 1, 1, none⟩ = some (.string x) := by rw [hwa]; simp [World.cell?_alloc_mark]
  have ma : wa.cell? ⟨w.heap.size + 1, 2, none⟩ = some (.int .i64 m) := by rw [hwa]; simp [World.cell?_alloc_mark]
  have ya : wa.cell? ⟨w.heap.size + 1, 3, none⟩ = some (.slice K0 M kc0) := by rw [hwa]; simp [World.cell?_alloc_mark]
  have pa : wa.cell? ⟨w.heap.size + 1, 4, none⟩ = some (.int .i64 p) := by rw [hwa]; simp [World.cell?_alloc_mark]
  rw [← hwa]
  clear hwa c0 c1 c2 c3 c4
  have lx := World.block_lt_of_cell? wa _ xa
  have ly := World.block_lt_of_cell? wa _ ya
  simp only at lx ly
  have HS1 := Lib.hid (HSA.out wa qa)
  go_wp2_with (first | (go_at_call 25; (with_reducible refine HS1.out.mono ?_); rintro e w1 ⟨rfl, b1⟩; have q1 := qa.trans (b1.mono qa.size); have x1 := (b1.cell (p := ⟨w.heap.size, 0, none⟩) lx).trans xa; have y1 := (b1.cell (p := ⟨w.heap.size + 1, 3, none⟩) ly).trans ya; have k1 := (b1.cell (p := ⟨w.heap.size + 1, 0, none⟩) ly).trans ka) | fail)
  have l1 := World.block_lt_of_cell? w1 _ x1
  have l1y := World.block_lt_of_cell? w1 _ y1
  simp only at l1 l1y
  have hKw := Lib.hid (hKK.out.below q1)
  have z1 := Below.size q1
  go_loopw [28] (fun t wr => ∃ q : Nat, q ≤ M ∧ t = .int .i64 (q : Int) ∧ Below w1.heap.size w1 wr) (fun t _ => M - (intOf t).toNat)
  case atStart => exact ⟨0, Nat.zero_le _, rfl, Below.refl _ _⟩
  case round =>
    obtain ⟨q, hq, rfl, hb⟩ := hrel
    have bw := q1.trans (hb.mono q1.size)
    have e0 := (hb.cell (p := ⟨w.heap.size, 0, none⟩) l1).trans x1
    have e3 := (hb.cell (p := ⟨w.heap.size + 1, 3, none⟩) l1y).trans y1
    have ek := (hb.cell (p := ⟨w.heap.size + 1, 0, none⟩) l1y).trans k1
    by_cases hlt : q < M
    · obtain ⟨kd, hKd, hkb, kcell0⟩ := hKw.out q hlt
      subst hKd
      have kcell : wr.cell? (kd.add q) = some (.int .i64 (ks.getD q 0)) := (hb.cell (World.block_lt_of_cell? w1 _ kcell0)).trans kcell0
      have hq2 : q < ks.length := by rw [HM.out]; exact hlt
      have hu : inL L (ks.getD q 0) = true := HIN.out _ (by rw [show ks.getD q 0 = ks[q] by simp [List.getD, hq2]]; exact List.getElem_mem _)
      clear kcell0
      generalize ks.getD q 0 = u at *
      go_wp2_with (first
        | (go_at_call 26; (with_reducible refine (within_is true (some ad) L c _ _ hc hm2.out hu).mono ?_); rintro e w2 ⟨rfl, b2⟩)
        | fail)
      exact ⟨⟨q + 1, by omega, by go_num, hb.trans (b2.mono hb.size)⟩, by simp [intOf]; omega⟩
    · obtain rfl : q = M := by omega
      go_wp2_with (first
        | (go_at_call 32; (with_reducible refine (HP.out wr).mono ?_); rintro e w3 ⟨b3, A3, c3, rfl, _⟩; have B3 := bw.trans (b3.mono bw.size); have g0 := (b3.cell (p := ⟨w.heap.size, 0, none⟩) (World.block_lt_of_cell? wr _ e0)).trans e0; have g3 := (b3.cell (p := ⟨w.heap.size + 1, 3, none⟩) (World.block_lt_of_cell? wr _ e3)).trans e3; have gk := (b3.cell (p := ⟨w.heap.size + 1, 0, none⟩) (World.block_lt_of_cell? wr _ ek)).trans ek)
        | fail)
      go_ret
      exact ⟨rfl, B3⟩
set_option maxRecDepth 100000 in
set_option maxHeartbeats 8000000 in
theorem fits_tab (A : Option Addr) (L : List Nd) (c i : Nat) (w : World) (h : TreeAt w w.heap.size A L) (hc : L.length ≤ c) (hm : c ≤ maxLen) (hL : L.length ≤ 1000000000000) (hi : i < L.length) (hx : (nd L i).x.size ≤ 4000000) (hmx : Mx w) (hw00 : 0 < w.heap.size) (hs : saidB (nd L i) = true) (hin : (nd L i).ks.all (inL L) = true) (h12 : (nd L i).k ≠ 12) (h87 : (nd L i).k ≠ 87) (ps : List Plc) (many : Bool) (ht : tab (nd L i).k = some (ps, many)) (hl : many = true ∨ ps.length = (nd L i).ks.length) : Calls Tryd.prog 16 #[.agg #[.slice A L.length c], .int .i64 (i : Int)] w fun e w' => e = .returned (.bool ((eachP L ps 0 (nd L i).ks && (!((nd L i).k == 61) || !((nd L ((nd L i).ks.getD 1 0)).k == 1) || !((nd L ((nd L i).ks.getD 2 0)).k == 1))))) ∧ Below w.heap.size w w' := by
  unfold saidB at hs
  have hT := Lib.hid h
  have hm2 := Lib.hid hm
  obtain ⟨ad, rfl, hn⟩ := h i hi
  have hb2 := hn.blk
  have hwm := hn.wm
  have hb1 : ad.block < w.heap.size := (by rw [block_add] at hb2; exact hb2)
  obtain ⟨K0, kc0, c0, c1, c2, c3, c4, hK0, hkk, hkm⟩ := node_open hn
  clear h hn
  generalize nd L i = y at *
  obtain ⟨k, x, m, ks, p⟩ := y
  simp only at *
  have HSA := Lib.hid (fun W (hb : Below w.heap.size w W) => said_any k m p x hx hwm K0 ks.length kc0 W (hmx.below hb hw00) (Nat.lt_of_lt_of_le hw00 hb.size))
  have hKK := Lib.hid hK0
  clear hK0 hmx
  have hmN := hm
  have hkmN := hkm
  have HKM := Lib.hid hkm
  unfold maxLen at hm hkm
  generalize hM : ks.length = M at *
  have HM := Lib.hid hM
  clear hM hmN hkmN
  rw [hs] at HSA
  have HIN := Lib.hid (List.all_eq_true.1 hin)
  clear hin
  have HP := Lib.hid (fun W => places_any k W)
  rw [ht] at HP
  have hone : many = true → ps.length = 1 := fun e => by subst e; exact tab_many ht
  have h61 : Hid (k = 61 → M = 3) := Lib.hid (fun e => by
    subst e
    have : ps.length = 3 ∧ many = false := by
      have e2 : tab 61 = some ([ofP [63], orP (ofP [62]) (ofP [1]), orP (ofP [63]) (ofP [1])], false) := by rfl
      rw [e2] at ht; injection ht with ht; injection ht with ha hb; subst ha hb; exact ⟨rfl, rfl⟩
    rcases hl with e | e
    · rw [this.2] at e; cases e
    · omega)
  clear ht
  have HT0 := Lib.hid (show eachP L ps 0 ks = eachP L ps 0 (ks.drop 0) from rfl)
  obtain ⟨R, hR⟩ : ∃ R, R = eachP L ps 0 ks := ⟨_, rfl⟩
  rw [← hR] at HT0 ⊢
  clear hR
  go_enter Tryd.func16, Tryd.ntmps16
  go_upto_region 2 with fail
  obtain ⟨wa, hwa⟩ : ∃ wa : World, wa = ((w.alloc (.cells #[.slice (some ad) L.length c] 24)).alloc (.cells #[.int .i64 k, .string x, .int .i64 m, .slice K0 M kc0, .int .i64 p] 35)) := ⟨_, rfl⟩
  have xa : wa.cell? ⟨w.heap.size, 0, none⟩ = some (.slice (some ad) L.length c) := by rw [hwa]; simp [World.cell?_alloc_mark]
  have qa : Below w.heap.size w wa := by rw [hwa]; (exact bl)
  have za := Below.size qa
  have ka : wa.cell? ⟨w.heap.size + 1, 0, none⟩ = some (.int .i64 k) := by rw [hwa]; simp [World.cell?_alloc_mark]
  have ta : wa.cell? ⟨w.heap.size + 1, 1, none⟩ = some (.string x) := by rw [hwa]; simp [World.cell?_alloc_mark]
  have ma : wa.cell? ⟨w.heap.size + 1, 2, none⟩ = some (.int .i64 m) := by rw [hwa]; simp [World.cell?_alloc_mark]
  have ya : wa.cell? ⟨w.heap.size + 1, 3, none⟩ = some (.slice K0 M kc0) := by rw [hwa]; simp [World.cell?_alloc_mark]
  have pa : wa.cell? ⟨w.heap.size + 1, 4, none⟩ = some (.int .i64 p) := by rw [hwa]; simp [World.cell?_alloc_mark]
  rw [← hwa]
  clear hwa c0 c1 c2 c3 c4
  have lx := World.block_lt_of_cell? wa _ xa
  have ly := World.block_lt_of_cell? wa _ ya
  simp only at lx ly
  have HS1 := Lib.hid (HSA.out wa qa)
  go_wp2_with (first | (go_at_call 25; (with_reducible refine HS1.out.mono ?_); rintro e w1 ⟨rfl, b1⟩; have q1 := qa.trans (b1.mono qa.size); have x1 := (b1.cell (p := ⟨w.heap.size, 0, none⟩) lx).trans xa; have y1 := (b1.cell (p := ⟨w.heap.size + 1, 3, none⟩) ly).trans ya; have k1 := (b1.cell (p := ⟨w.heap.size + 1, 0, none⟩) ly).trans ka) | fail)
  have l1 := World.block_lt_of_cell? w1 _ x1
  have l1y := World.block_lt_of_cell? w1 _ y1
  simp only at l1 l1y
  have hKw := Lib.hid (hKK.out.below q1)
  have z1 := Below.size q1
  go_loopw [28] (fun t wr => ∃ q : Nat, q ≤ M ∧ t = .int .i64 (q : Int) ∧ Below w1.heap.size w1 wr) (fun t _ => M - (intOf t).toNat)
  case atStart => exact ⟨0, Nat.zero_le _, rfl, Below.refl _ _⟩
  case round =>
    obtain ⟨q, hq, rfl, hb⟩ := hrel
    have bw := q1.trans (hb.mono q1.size)
    have e0 := (hb.cell (p := ⟨w.heap.size, 0, none⟩) l1).trans x1
    have e3 := (hb.cell (p := ⟨w.heap.size + 1, 3, none⟩) l1y).trans y1
    have ek := (hb.cell (p := ⟨w.heap.size + 1, 0, none⟩) l1y).trans k1
    by_cases hlt : q < M
    · obtain ⟨kd, hKd, hkb, kcell0⟩ := hKw.out q hlt
      subst hKd
      have kcell : wr.cell? (kd.add q) = some (.int .i64 (ks.getD q 0)) := (hb.cell (World.block_lt_of_cell? w1 _ kcell0)).trans kcell0
      have hq2 : q < ks.length := by rw [HM.out]; exact hlt
      have hu : inL L (ks.getD q 0) = true := HIN.out _ (by rw [show ks.getD q 0 = ks[q] by simp [List.getD, hq2]]; exact List.getElem_mem _)
      clear kcell0
      generalize ks.getD q 0 = u at *
      go_wp2_with (first
        | (go_at_call 26; (with_reducible refine (within_is true (some ad) L c _ _ hc hm2.out hu).mono ?_); rintro e w2 ⟨rfl, b2⟩)
        | fail)
      exact ⟨⟨q + 1, by omega, by go_num, hb.trans (b2.mono hb.size)⟩, by simp [intOf]; omega⟩
    · obtain rfl : q = M := by omega
      cases many
      · have hl2 : ps.length = q := by
          rcases hl with e | e
          · cases e
          · exact e
        have hl3 := Lib.hid hl2
        go_wp2_with (first
          | (go_at_call 32; (with_reducible refine (HP.out wr).mono ?_); rintro e w3 ⟨b3, A3, c3, rfl, hA3⟩; have B3 := bw.trans (b3.mono bw.size); have g0 := (b3.cell (p := ⟨w.heap.size, 0, none⟩) (World.block_lt_of_cell? wr _ e0)).trans e0; have g3 := (b3.cell (p := ⟨w.heap.size + 1, 3, none⟩) (World.block_lt_of_cell? wr _ e3)).trans e3; have gk := (b3.cell (p := ⟨w.heap.size + 1, 0, none⟩) (World.block_lt_of_cell? wr _ ek)).trans ek)
          | fail)
        have lw1 := World.block_lt_of_cell? w3 _ g0
        have lw3 := World.block_lt_of_cell? w3 _ g3
        simp only at lw1 lw3
        have hKv := Lib.hid (hKK.out.below B3)
        have zz := Below.size B3
        have gK := Lib.hid gk
        clear gk
        go_loopw [116] (fun t wr => ∃ r : Nat, r ≤ q ∧ t = .int .i64 (r : Int) ∧ Hid (R = eachP L ps r (ks.drop r)) ∧ Below w3.heap.size w3 wr) (fun t _ => q - (intOf t).toNat)
        case atStart => exact ⟨0, Nat.zero_le _, rfl, HT0, Below.refl _ _⟩
        case round =>
          obtain ⟨r, hr, rfl, HTr, hbt⟩ := hrel
          have bt := B3.trans (hbt.mono B3.size)
          have f0 := (hbt.cell (p := ⟨w.heap.size, 0, none⟩) lw1).trans g0
          have f3 := (hbt.cell (p := ⟨w.heap.size + 1, 3, none⟩) lw3).trans g3
          have fk := (hbt.cell (p := ⟨w.heap.size + 1, 0, none⟩) lw3).trans gK.out
          have zt := Below.size bt
          by_cases hlr : r < q
          · obtain ⟨kd, hKd, hkb, kcell0⟩ := hKv.out r hlr
            subst hKd
            have kcell : wr.cell? (kd.add r) = some (.int .i64 (ks.getD r 0)) := (hbt.cell (World.block_lt_of_cell? w3 _ kcell0)).trans kcell0
            have hr2 : r < ks.length := by rw [HM.out]; exact hlr
            have hu : inL L (ks.getD r 0) = true := HIN.out _ (by rw [show ks.getD r 0 = ks[r] by simp [List.getD, hr2]]; exact List.getElem_mem _)
            have HS := Lib.hid (HTr.out.trans (eachK (L := L) (ps := ps) (ks := ks) (j := r) hr2))
            clear kcell0
            generalize ks.getD r 0 = u at *
            obtain ⟨un, rfl, hun⟩ := inL_nat hu
            obtain ⟨a3, v3, hA3e, ha3b, hac0, hpl⟩ := hA3 (r) (by have := hl3.out; omega)
            subst hA3e
            have hac : wr.cell? (a3.add (r)) = some v3 := (hbt.cell (World.block_lt_of_cell? w3 _ hac0)).trans hac0
            clear hac0
            obtain ⟨F3, caps3, rfl, hF3, hPF⟩ := hpl.later hbt
            have emin : min r (ps.length - 1) = r := by have := hl3.out; omega
            rw [emin] at HS
            generalize ps.getD (r) anyP = pl at *
            have HPF := Lib.hid (hPF _ (some ad) L c un (Below.refl _ wr) (hT.out.later bt) hc hm2.out hun)
            clear hPF hpl
            have emin2 : (min (r : Int) ((q : Int) - 1)).toNat = r := by have := hl3.out; omega
            have hac2 : wr.cell? (a3.add (min (r : Int) ((q : Int) - 1)).toNat) = some (.func (.func F3) #[] caps3) := by rw [emin2]; exact hac
            have hz2 : 0 ≤ min (r : Int) ((q : Int) - 1) ∧ min (r : Int) ((q : Int) - 1) < (q : Int) := by have := hl3.out; omega
            cases hpv : pl L (un : Int)
            · rw [hpv] at HPF HS
              go_wp2_with (first
                | ((with_reducible refine HPF.out.mono ?_); rintro e w4 ⟨rfl, b4⟩)
                | fail)
              go_ret
              exact ⟨ret_bool (by rw [HS.out, Bool.false_and, Bool.false_and]), bt.trans (b4.mono bt.size)⟩
            · rw [hpv] at HPF HS
              go_wp2_with (first
                | ((with_reducible refine HPF.out.mono ?_); rintro e w4 ⟨rfl, b4⟩)
                | fail)
              exact ⟨⟨r + 1, by omega, by go_num, Lib.hid (by rw [HS.out, Bool.true_and]), hbt.trans (b4.mono hbt.size)⟩, by simp [intOf]; omega⟩
          · obtain rfl : r = q := by omega
            have hR : R = true := by rw [HTr.out, List.drop_of_length_le (by rw [HM.out]; exact Nat.le_refl _)]; rfl
            subst hR
            by_cases hk61 : k = 61
            · have hr3 := h61.out hk61
              subst hk61
              have hin1 : inL L (ks.getD 1 0) = true := HIN.out _ (by have h1 : 1 < ks.length := by rw [HM.out]; omega
                                                                      rw [show ks.getD 1 0 = ks[1] by simp [List.getD, h1]]; exact List.getElem_mem _)
              have hin2 : inL L (ks.getD 2 0) = true := HIN.out _ (by have h1 : 2 < ks.length := by rw [HM.out]; omega
                                                                      rw [show ks.getD 2 0 = ks[2] by simp [List.getD, h1]]; exact List.getElem_mem _)
              have HQ := Lib.hid (fun W (hb : Below w.heap.size w W) hg hg' j z hz hj hi => kindOf_any (some ad) L c hc hm2.out w.heap.size (w.heap.size + 1) K0 ks r kc0 HM.out hkk HKM.out W (hT.out.later hb) hg hg' ((hKK.out.below hb).more hb.size) j z hz hj hi)
              have HQ1 := Lib.hid (fun W hb hg hg' => HQ.out W hb hg hg' 1 1 rfl (by omega) hin1)
              have HQ2 := Lib.hid (fun W hb hg hg' => HQ.out W hb hg hg' 2 2 rfl (by omega) hin2)
              clear HQ hin1 hin2
              generalize hp1 : (nd L (ks.getD 1 0)).k = p1 at *
              generalize hp2 : (nd L (ks.getD 2 0)).k = p2 at *
              have hp1 := Lib.hid hp1
              have hp2 := Lib.hid hp2
              go_wp2_with (first
                | (go_at_call 27; (with_reducible refine (HQ1.out _ bt f0 f3).mono ?_); rintro e w5 ⟨rfl, b5⟩; have bt5 := bt.trans (b5.mono bt.size); have f05 := (b5.cell (p := ⟨w.heap.size, 0, none⟩) (World.block_lt_of_cell? wr _ f0)).trans f0; have f35 := (b5.cell (p := ⟨w.heap.size + 1, 3, none⟩) (World.block_lt_of_cell? wr _ f3)).trans f3)
                | (go_at_call 27; (with_reducible refine (HQ2.out w5 bt5 f05 f35).mono ?_); rintro e w6 ⟨rfl, b6⟩; have bt6 := bt5.trans (b6.mono bt5.size))
                | fail)
              all_goals (go_ret; first | exact ⟨ret_bool (by rw [hp1.out, hp2.out]; simp [*, bne]), bt6⟩ | exact ⟨ret_bool (by rw [hp1.out, hp2.out]; simp [*, bne]), bt5⟩)
            · have h6 : (k == 61) = false := by simp [hk61]
              go_wp2
              go_ret
              exact ⟨ret_bool (by simp [h6]), bt⟩
      · have hl2 : ps.length = 1 := hone rfl
        have hl3 := Lib.hid hl2
        have hlp : 0 < ps.length := by omega
        have hlb : ps.length ≤ 1000 := by omega
        clear hl2 hone hl
        go_wp2_with (first
          | (go_at_call 32; (with_reducible refine (HP.out wr).mono ?_); rintro e w3 ⟨b3, A3, c3, rfl, hA3⟩; have B3 := bw.trans (b3.mono bw.size); have g0 := (b3.cell (p := ⟨w.heap.size, 0, none⟩) (World.block_lt_of_cell? wr _ e0)).trans e0; have g3 := (b3.cell (p := ⟨w.heap.size + 1, 3, none⟩) (World.block_lt_of_cell? wr _ e3)).trans e3; have gk := (b3.cell (p := ⟨w.heap.size + 1, 0, none⟩) (World.block_lt_of_cell? wr _ ek)).trans ek)
          | fail)
        have lw1 := World.block_lt_of_cell? w3 _ g0
        have lw3 := World.block_lt_of_cell? w3 _ g3
        simp only at lw1 lw3
        have hKv := Lib.hid (hKK.out.below B3)
        have zz := Below.size B3
        have gK := Lib.hid gk
        clear gk
        go_loopw [116] (fun t wr => ∃ r : Nat, r ≤ q ∧ t = .int .i64 (r : Int) ∧ Hid (R = eachP L ps r (ks.drop r)) ∧ Below w3.heap.size w3 wr) (fun t _ => q - (intOf t).toNat)
        case atStart => exact ⟨0, Nat.zero_le _, rfl, HT0, Below.refl _ _⟩
        case round =>
          obtain ⟨r, hr, rfl, HTr, hbt⟩ := hrel
          have bt := B3.trans (hbt.mono B3.size)
          have f0 := (hbt.cell (p := ⟨w.heap.size, 0, none⟩) lw1).trans g0
          have f3 := (hbt.cell (p := ⟨w.heap.size + 1, 3, none⟩) lw3).trans g3
          have fk := (hbt.cell (p := ⟨w.heap.size + 1, 0, none⟩) lw3).trans gK.out
          have zt := Below.size bt
          by_cases hlr : r < q
          · obtain ⟨kd, hKd, hkb, kcell0⟩ := hKv.out r hlr
            subst hKd
            have kcell : wr.cell? (kd.add r) = some (.int .i64 (ks.getD r 0)) := (hbt.cell (World.block_lt_of_cell? w3 _ kcell0)).trans kcell0
            have hr2 : r < ks.length := by rw [HM.out]; exact hlr
            have hu : inL L (ks.getD r 0) = true := HIN.out _ (by rw [show ks.getD r 0 = ks[r] by simp [List.getD, hr2]]; exact List.getElem_mem _)
            have HS := Lib.hid (HTr.out.trans (eachK (L := L) (ps := ps) (ks := ks) (j := r) hr2))
            clear kcell0
            generalize ks.getD r 0 = u at *
            obtain ⟨un, rfl, hun⟩ := inL_nat hu
            obtain ⟨a3, v3, hA3e, ha3b, hac0, hpl⟩ := hA3 (0) (by have := hl3.out; omega)
            subst hA3e
            have hac : wr.cell? (a3.add (0)) = some v3 := (hbt.cell (World.block_lt_of_cell? w3 _ hac0)).trans hac0
            clear hac0
            obtain ⟨F3, caps3, rfl, hF3, hPF⟩ := hpl.later hbt
            have emin : min r (ps.length - 1) = 0 := by have := hl3.out; omega
            rw [emin] at HS
            generalize ps.getD (0) anyP = pl at *
            have HPF := Lib.hid (hPF _ (some ad) L c un (Below.refl _ wr) (hT.out.later bt) hc hm2.out hun)
            clear hPF hpl
            have emin2 : (min (r : Int) ((ps.length : Int) - 1)).toNat = 0 := by have := hl3.out; omega
            have hac2 : wr.cell? (a3.add (min (r : Int) ((ps.length : Int) - 1)).toNat) = some (.func (.func F3) #[] caps3) := by rw [emin2]; exact hac
            have hz2 : 0 ≤ min (r : Int) ((ps.length : Int) - 1) ∧ min (r : Int) ((ps.length : Int) - 1) < (ps.length : Int) := by have := hl3.out; omega
            have hac3 : wr.cell? a3 = some (.func (.func F3) #[] caps3) := by rw [show a3.add 0 = a3 by cases a3; simp [Addr.add]] at hac; exact hac
            cases hpv : pl L (un : Int)
            · rw [hpv] at HPF HS
              go_wp2_with (first
                | ((with_reducible refine HPF.out.mono ?_); rintro e w4 ⟨rfl, b4⟩)
                | fail)
              go_ret
              exact ⟨ret_bool (by rw [HS.out, Bool.false_and, Bool.false_and]), bt.trans (b4.mono bt.size)⟩
            · rw [hpv] at HPF HS
              go_wp2_with (first
                | ((with_reducible refine HPF.out.mono ?_); rintro e w4 ⟨rfl, b4⟩)
                | fail)
              exact ⟨⟨r + 1, by omega, by go_num, Lib.hid (by rw [HS.out, Bool.true_and]), hbt.trans (b4.mono hbt.size)⟩, by simp [intOf]; omega⟩
          · obtain rfl : r = q := by omega
            have hR : R = true := by rw [HTr.out, List.drop_of_length_le (by rw [HM.out]; exact Nat.le_refl _)]; rfl
            subst hR
            by_cases hk61 : k = 61
            · have hr3 := h61.out hk61
              subst hk61
              have hin1 : inL L (ks.getD 1 0) = true := HIN.out _ (by have h1 : 1 < ks.length := by rw [HM.out]; omega
                                                                      rw [show ks.getD 1 0 = ks[1] by simp [List.getD, h1]]; exact List.getElem_mem _)
              have hin2 : inL L (ks.getD 2 0) = true := HIN.out _ (by have h1 : 2 < ks.length := by rw [HM.out]; omega
                                                                      rw [show ks.getD 2 0 = ks[2] by simp [List.getD, h1]]; exact List.getElem_mem _)
              have HQ := Lib.hid (fun W (hb : Below w.heap.size w W) hg hg' j z hz hj hi => kindOf_any (some ad) L c hc hm2.out w.heap.size (w.heap.size + 1) K0 ks r kc0 HM.out hkk HKM.out W (hT.out.later hb) hg hg' ((hKK.out.below hb).more hb.size) j z hz hj hi)
              have HQ1 := Lib.hid (fun W hb hg hg' => HQ.out W hb hg hg' 1 1 rfl (by omega) hin1)
              have HQ2 := Lib.hid (fun W hb hg hg' => HQ.out W hb hg hg' 2 2 rfl (by omega) hin2)
              clear HQ hin1 hin2
              generalize hp1 : (nd L (ks.getD 1 0)).k = p1 at *
              generalize hp2 : (nd L (ks.getD 2 0)).k = p2 at *
              have hp1 := Lib.hid hp1
              have hp2 := Lib.hid hp2
              go_wp2_with (first
                | (go_at_call 27; (with_reducible refine (HQ1.out _ bt f0 f3).mono ?_); rintro e w5 ⟨rfl, b5⟩; have bt5 := bt.trans (b5.mono bt.size); have f05 := (b5.cell (p := ⟨w.heap.size, 0, none⟩) (World.block_lt_of_cell? wr _ f0)).trans f0; have f35 := (b5.cell (p := ⟨w.heap.size + 1, 3, none⟩) (World.block_lt_of_cell? wr _ f3)).trans f3)
                | (go_at_call 27; (with_reducible refine (HQ2.out w5 bt5 f05 f35).mono ?_); rintro e w6 ⟨rfl, b6⟩; have bt6 := bt5.trans (b6.mono bt5.size))
                | fail)
              all_goals (go_ret; first | exact ⟨ret_bool (by rw [hp1.out, hp2.out]; simp [*, bne]), bt6⟩ | exact ⟨ret_bool (by rw [hp1.out, hp2.out]; simp [*, bne]), bt5⟩)
            · have h6 : (k == 61) = false := by simp [hk61]
              go_wp2
              go_ret
              exact ⟨ret_bool (by simp [h6]), bt⟩
end Go.Proofs.YtpkdhciokiomlaaDoor
