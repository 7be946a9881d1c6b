/- The walk of the program's strip. -/
import Derived.Test.YtpkdhciokiomlaaDoorHBZ15
import Derived.Test.YtpkdhciokiomlaaDoorHBZ17
import Derived.Deep.CutRange
import Derived.Deep.DeepCutAuto
import Derived.Deep.CutBlock
import Derived.Deep.RegionLaw
namespace Go.Proofs.YtpkdhciokiomlaaDoor
set_option linter.unusedVariables false
set_option linter.unusedSimpArgs false
set_option linter.unnecessarySimpa false
open Go.RowKit
attribute [local go_sem] cell_alloc_add cell_set_add lt_more
theorem Row.put5 {w : World} {g : Nat} {t : TypeId} {a b c d e a' b' c' d' e' : Value} (h : Row w g t #[a, b, c, d, e]) : Row (((((w.setCell ⟨g, 0, none⟩ a').setCell ⟨g, 1, none⟩ b').setCell ⟨g, 2, none⟩ c').setCell ⟨g, 3, none⟩ d').setCell ⟨g, 4, none⟩ e') g t #[a', b', c', d', e'] := by
  have := ((((h.put 0 a').put 1 b').put 2 c').put 3 d').put 4 e'; simpa using this
theorem Row.far5 {w : World} {g g2 : Nat} {t : TypeId} {cs : Array Value} {a' b' c' d' e' : Value} (h : Row w g t cs) (hg : g ≠ g2) : Row (((((w.setCell ⟨g2, 0, none⟩ a').setCell ⟨g2, 1, none⟩ b').setCell ⟨g2, 2, none⟩ c').setCell ⟨g2, 3, none⟩ d').setCell ⟨g2, 4, none⟩ e') g t cs :=
  ((((h.far (p := ⟨g2, 0, none⟩) hg a').far (p := ⟨g2, 1, none⟩) hg b').far (p := ⟨g2, 2, none⟩) hg c').far (p := ⟨g2, 3, none⟩) hg d').far (p := ⟨g2, 4, none⟩) hg e'
theorem keep_of (A : Option Addr) (L : List Nd) (N c : Nat) (hN : L.length = N) (hc : N ≤ c) (hm : c ≤ maxLen) (b g2 : Nat) : KeepV (.func (.func 17) #[] #[]) A L N c b g2 false ∧ KeepV (.func (.func 18) #[] #[.pointer (some ⟨g2, 0, none⟩)]) A L N c b g2 true := ⟨keep_all A L N c b g2, keep_row A L N c hN hc hm b g2⟩
set_option maxRecDepth 100000 in
set_option maxHeartbeats 16000000 in
theorem strip_any (A : Option Addr) (L : List Nd) (N c : Nat) (hN : L.length = N) (hc : N ≤ c) (hm : c ≤ maxLen) (hNN : N ≤ 1000000) (hkl : ∀ j : Int, (nd L j).ks.length ≤ 1000000) (b base B0 : Nat) (hbb : b < base) (hB0 : B0 ≤ b) : ∀ (f i e : Nat) (tv : Value) (l : List NdV) (w : World), Sp L i e → e - i ≤ f → leftB L L.length i = false → TreeAt w B0 A L → Row w b 37 #[.slice A N c, tv] → OwnT w base tv l → base ≤ w.heap.size → l.length + (e - i) ≤ 1000000 →
    Calls Tryd.prog 10 #[.pointer (some ⟨b, 0, none⟩), .int .i64 (i : Int)] w fun r w' => (∃ (tv' : Value) (m : List NdV), r = .returned (.int .i64 (l.length : Int)) ∧ Row w' b 37 #[.slice A N c, tv'] ∧ OwnT w' base tv' (l ++ m) ∧ m.map (·.1) = (stripL L f i).map (shN (l.length : Int)) ∧ (∀ p ∈ m, ∀ g, p.2.ownBlock = some g → w.heap.size ≤ g) ∧ Fr b tv tv' w w') := by
  have HN := Lib.hid hN
  have HKL := Lib.hid hkl
  clear hkl
  have hm2 := Lib.hid hm
  obtain ⟨j0, hj0, jz0, jz1, jz2⟩ := info_parts infoInt
  unfold maxLen at hm
  intro f
  induction f using Nat.strongRecOn with
  | ind f ih =>
    intro i e tv l w hS hf hl hT hRb hO hbw hbn
    have IH := Lib.hid ih
    have HT := Lib.hid hT
    have HRB := Lib.hid hRb
    have HO := Lib.hid hO
    have HWS := Lib.hid (Nat.lt_of_lt_of_le hbb hbw)
    have hb0 : b < w.heap.size := Nat.lt_of_lt_of_le hbb hbw
    have hi : i < N := by rw [← hN]; exact hS.1
    obtain ⟨ad, rfl, hn⟩ := hT i hS.1
    have hb2 := hn.blk
    have hb1 : ad.block < B0 := (by rw [block_add] at hb2; exact hb2)
    obtain ⟨K, kc, c0, c1, c2, c3, c4, hK, hkk, hkm⟩ := node_open hn
    have HSF := Lib.hid (And.intro hS (And.intro hf hl))
    have HKI := Lib.hid (show Rd w B0 K (nd L i).ks.length (ksV (nd L i).ks) ∧ (nd L i).ks.length ≤ kc ∧ kc ≤ maxLen ∧ wideY (nd L i) from ⟨hK, hkk, hkm, hn.wm, hn.wk⟩)
    have hRc := hRb.cell 0
    simp at hRc
    have hadw : ad.block < w.heap.size := by omega
    have hbn2 : (ad.add (i * 5)).block < w.heap.size := by omega
    clear ih hn hT hRb hO hK hS hf hl hkk hkm
    generalize hy0 : nd L (i : Int) = y0 at *
    have HY0 := Lib.hid hy0
    clear hy0
    obtain ⟨ka, xa, ma, ksa, pa⟩ := y0
    simp only at c0 c1 c2 c3 c4 HKI
    obtain ⟨wa, hwa⟩ : ∃ wa : World, wa = (w.alloc (.cells #[.pointer (some ⟨b, 0, none⟩)] 50)).alloc (.cells #[.int .i64 ka, .string xa, .int .i64 ma, .slice K ksa.length kc, .int .i64 pa] 35) := ⟨_, rfl⟩
    have bA : Below w.heap.size w wa := by rw [hwa]; exact (by (exact bl))
    have rS : Row wa w.heap.size 50 #[.pointer (some ⟨b, 0, none⟩)] := by rw [hwa]; exact (row_new rfl).alloc _
    have rX : Row wa (w.heap.size + 1) 35 #[.int .i64 ka, .string xa, .int .i64 ma, .slice K ksa.length kc, .int .i64 pa] := by rw [hwa]; exact row_new (by simp)
    go_enter Tryd.func10, Tryd.ntmps10
    go_wp2
    rw [← hwa]
    clear hwa
    go_loopw [1] (fun t wr => ∃ (n e' f' : Nat) (K : Option Addr) (kc : Nat) (y : Nd), t = .int .i64 (n : Int) ∧ n < N ∧ Hid (nd L (n : Int) = y) ∧ Hid (Sp L n e' ∧ e' - n ≤ f' ∧ f' ≤ f ∧ leftB L L.length n = false ∧ stripL L f i = stripL L f' n ∧ e' - n ≤ e - i) ∧ Hid (Rd w B0 K y.ks.length (ksV y.ks) ∧ y.ks.length ≤ kc ∧ kc ≤ maxLen ∧ wideY y) ∧ Row wr w.heap.size 50 #[.pointer (some ⟨b, 0, none⟩)] ∧ Row wr (w.heap.size + 1) 35 #[.int .i64 y.k, .string y.x, .int .i64 y.m, .slice K y.ks.length kc, .int .i64 y.p] ∧ Below w.heap.size w wr) (fun t _ => N - (intOf t).toNat)
    case atStart => exact ⟨i, e, f, K, kc, ⟨ka, xa, ma, ksa, pa⟩, rfl, hi, HY0, Lib.hid ⟨HSF.out.1, HSF.out.2.1, Nat.le_refl _, HSF.out.2.2, rfl, Nat.le_refl _⟩, HKI, rS, rX, bA⟩
    case round =>
      clear rS rX bA HSF HKI HY0 c0 c1 c2 c3 c4 hb2 hbn2 hi
      obtain ⟨n, e', f', K, kc, y, rfl, hi, HY, HNI, HKI, rS, rX, hb⟩ := hrel
      generalize hwo : wr = wo at *
      clear hwo
      obtain ⟨k, x, m, ks, p⟩ := y
      simp only at HKI rX
      have hz := Below.size hb
      have lS := rS.lt
      have lX := rX.lt
      have s0 := rS.cell 0
      have x0 := rX.cell 0
      have x3 := rX.cell 3
      simp at s0 x0 x3
      obtain ⟨hK, hkk, hkm, hwy⟩ := HKI.out
      have HK := Lib.hid hK
      have HWY := Lib.hid hwy
      clear hK hwy HKI
      unfold maxLen at hkm
      generalize hM : ks.length = M at *
      have HMM := Lib.hid hM
      clear hM
      by_cases hk : k = 33 ∨ k = 34
      · have hM0 : 0 < M := by
          have := kid0 HNI.out.1.2.1 (by rw [HY.out]; exact hk)
          rw [HY.out] at this
          simp only at this
          rw [HMM.out] at this; exact this
        obtain ⟨j, m', e1, hS, e2, e3⟩ := kid_sp HNI.out.1 (q := 0) (by rw [HY.out]; simp only; rw [HMM.out]; exact hM0)
        rw [HY.out] at e1
        simp only at e1
        have hx := bang_kid HNI.out.1.2.1 (by rw [HY.out]; exact hk)
        rw [HY.out] at hx
        simp only at hx
        rw [e1] at hx
        have hlf := expr_stays (f := L.length) hx
        have HNJ := Lib.hid (show Sp L j m' ∧ m' - j ≤ f' - 1 ∧ f' - 1 ≤ f ∧ leftB L L.length j = false ∧ stripL L f i = stripL L (f' - 1) j ∧ m' - j ≤ e - i from by
          obtain ⟨g1, g2, g3, g4, g5, g6⟩ := HNI.out
          have := g1.lt
          have := hS.lt
          refine ⟨hS, by omega, by omega, hlf, ?_, by omega⟩
          rw [g5]
          obtain ⟨f2, rfl⟩ : ∃ f2, f' = f2 + 1 := ⟨f' - 1, by omega⟩
          show (if (nd L (n : Int)).k = 33 ∨ (nd L (n : Int)).k = 34 then stripL L f2 ((nd L (n : Int)).ks.getD 0 0) else _) = _
          rw [HY.out, if_pos hk]
          simp only
          rw [e1]; rfl)
        obtain ⟨kd, rfl, hkb, kcell⟩ := HK.out 0 hM0
        rw [show ksV ks 0 = .int .i64 (j : Int) from by unfold ksV; rw [e1]] at kcell
        have kcell0 : wo.cell? kd = some (.int .i64 (j : Int)) := by rw [← add_zero kd]; exact (hb.cell (p := kd.add 0) (by rw [block_add]; omega)).trans kcell
        have hkl : kd.block < wo.heap.size := by omega
        have hjN : j < N := by rw [← HN.out]; exact hS.1
        have hnj := HT.out.at_ hS.1
        have hnb := hnj.blk
        obtain ⟨K2, kc2, d0, d1, d2, d3, d4, hK2, hkk2, hkm2⟩ := node_open hnj
        have HKJ := Lib.hid (show Rd w B0 K2 (nd L (j : Int)).ks.length (ksV (nd L (j : Int)).ks) ∧ (nd L (j : Int)).ks.length ≤ kc2 ∧ kc2 ≤ maxLen ∧ wideY (nd L (j : Int)) from ⟨hK2, hkk2, hkm2, hnj.wm, hnj.wk⟩)
        have hbj : (ad.add (j * 5)).block < w.heap.size := by omega
        replace d0 := (hb.cell (p := ad.add (j * 5)) hbj).trans d0
        replace d1 := (hb.cell (p := ⟨(ad.add (j * 5)).block, (ad.add (j * 5)).off + 1, none⟩) hbj).trans d1
        replace d2 := (hb.cell (p := ⟨(ad.add (j * 5)).block, (ad.add (j * 5)).off + 2, none⟩) hbj).trans d2
        replace d3 := (hb.cell (p := ⟨(ad.add (j * 5)).block, (ad.add (j * 5)).off + 3, none⟩) hbj).trans d3
        replace d4 := (hb.cell (p := ⟨(ad.add (j * 5)).block, (ad.add (j * 5)).off + 4, none⟩) hbj).trans d4
        have hbjo : (ad.add (j * 5)).block < wo.heap.size := by omega
        have hado : ad.block < wo.heap.size := by omega
        have hRc2 : wo.cell? ⟨b, 0, none⟩ = some (.slice (some ad) N c) := (hb.cell (p := ⟨b, 0, none⟩) hb0).trans hRc
        have hbo : b < wo.heap.size := by omega
        have hji : (j : Int) < (N : Int) := by omega
        have h0M : (0 : Int) < (M : Int) := by omega
        have xf0 := rX.free 0
        have xf1 := rX.free 1
        have xf2 := rX.free 2
        have xf3 := rX.free 3
        have xf4 := rX.free 4
        have x1 := rX.cell 1
        have x2 := rX.cell 2
        have x4 := rX.cell 4
        simp at x1 x2 x4
        have HX := Lib.hid rX
        have HS := Lib.hid rS
        clear hK2 hkk2 hkm2 hnj hS hx hlf e1 hnb kcell
        generalize hyj : nd L (j : Int) = yj at *
        have HYJ := Lib.hid hyj
        clear hyj
        obtain ⟨jk, jx, jm, jks, jp⟩ := yj
        simp only at d0 d1 d2 d3 d4
        generalize hMJ : jks.length = MJ at d3
        have HMJ := Lib.hid hMJ
        clear hMJ
        rcases hk with rfl | rfl
        all_goals
          go_wp2
          refine ⟨⟨j, m', f' - 1, K2, kc2, ⟨jk, jx, jm, jks, jp⟩, rfl, hjN, HYJ, HNJ, HKJ, HS.out.far5 (by omega), ?_, ((((hb.setCell (by show w.heap.size ≤ w.heap.size + 1; omega) _).setCell (by show w.heap.size ≤ w.heap.size + 1; omega) _).setCell (by show w.heap.size ≤ w.heap.size + 1; omega) _).setCell (by show w.heap.size ≤ w.heap.size + 1; omega) _).setCell (by show w.heap.size ≤ w.heap.size + 1; omega) _⟩, by simp [intOf]; omega⟩
          show Row _ _ _ #[.int .i64 jk, .string jx, .int .i64 jm, .slice K2 jks.length kc2, .int .i64 jp]
          rw [HMJ.out]
          exact HX.out.put5
      · obtain ⟨f2, hf2⟩ : ∃ f2, f' = f2 + 1 := by
          obtain ⟨g1, g2, _⟩ := HNI.out
          have := g1.lt
          exact ⟨f' - 1, by omega⟩
        subst hf2
        obtain ⟨hS, hef, hff, hlf, hR, hee⟩ := HNI.out
        have hR2 : stripL L f i = mkL (normN ⟨k, x, m, ks, p⟩) (partsL (stepS L (stripL L f2) k) 0 ks) := by
          rw [hR]
          show (if (nd L (n : Int)).k = 33 ∨ (nd L (n : Int)).k = 34 then _ else mkL (normN (nd L (n : Int))) (partsL (stepS L (stripL L f2) (nd L (n : Int)).k) 0 (nd L (n : Int)).ks)) = _
          rw [HY.out, if_neg hk]
        have hOK := parts_ok HKL.out hS hef
        have hKD := fun q (h : q < (nd L (n : Int)).ks.length) => kid_sp hS h
        have hKS := fun q (h : q < (nd L (n : Int)).ks.length) (j : Nat) (hj : (nd L (n : Int)).ks.getD q 0 = (j : Int)) => kept_says (g := stripL L f2) hS.2.1 hlf hS.1 q h hj
        have hPU := fun q (h : q < (nd L (n : Int)).ks.length) (j : Nat) (hj : (nd L (n : Int)).ks.getD q 0 = (j : Int)) => parts_upto hS hef h hj
        have hPM := fun h => param_marks hS.2.1 (n := (n : Int)) h
        have hPT := fun q (h : q < ks.length) => parts_take (stepS L (stripL L f2) k) ks 0 q h
        rw [HY.out] at hOK hKD hKS hPM hPU
        simp only at hOK hKD hKS hPM hPU
        rw [HMM.out] at hKD hKS hPT hPU
        have hM6 : M ≤ 1000000 := by
          have := HKL.out (n : Int)
          rw [HY.out] at this
          simp only at this
          rw [HMM.out] at this; exact this
        have HNL := Lib.hid (And.intro hS.lt (And.intro hef (And.intro hff hee)))
        have hIH := fun (j m' : Nat) => IH.out f2 (by omega) j m'
        have hk33 : (k == 33) = false := beq_eq_false_iff_ne.2 (fun h => hk (.inl h))
        have hk34 : (k == 34) = false := beq_eq_false_iff_ne.2 (fun h => hk (.inr h))
        have hNM : (normN ⟨k, x, m, ks, p⟩).k = k ∧ (normN ⟨k, x, m, ks, p⟩).x = x ∧ (normN ⟨k, x, m, ks, p⟩).p = p ∧ (normN ⟨k, x, m, ks, p⟩).m = if k = 44 then 0 else if k = 66 then (if 2 ≤ m then 2 else 0) else m := by
          unfold normN
          split
          · exact ⟨rfl, rfl, rfl, rfl⟩
          · split <;> exact ⟨rfl, rfl, rfl, rfl⟩
        generalize normN ⟨k, x, m, ks, p⟩ = yn at *
        obtain ⟨nk, nx, nm, nks, np⟩ := yn
        simp only at hNM
        obtain ⟨rfl, rfl, rfl, hnm⟩ := hNM
        have HNM := Lib.hid hnm
        have HIH := Lib.hid hIH
        have HPT := Lib.hid hPT
        have HPM := Lib.hid hPM
        have HPU := Lib.hid hPU
        have HKS := Lib.hid hKS
        have HKD := Lib.hid hKD
        have HOK := Lib.hid hOK
        have HR := Lib.hid hR2
        clear hnm hIH hPT hPM hPU hKS hKD hOK hR2 hR hS hef hff hlf hee hk IH HNI
        have HX := Lib.hid rX
        go_upto_block 2 with fail
        go_cut [6] (fun v6 wx => KeepV v6 (some ad) L N c b w.heap.size (rowK nk) ∧ wx = wo)
        case first =>
          by_cases h3 : nk = 3
          · subst h3
            go_wp2
            go_meet
            exact ⟨(keep_of (some ad) L N c HN.out hc hm2.out b w.heap.size).2, rfl⟩
          have k3 : (nk == 3) = false := beq_eq_false_iff_ne.2 h3
          clear h3
          by_cases h63 : nk = 63
          · subst h63
            go_wp2
            go_meet
            exact ⟨(keep_of (some ad) L N c HN.out hc hm2.out b w.heap.size).2, rfl⟩
          have k63 : (nk == 63) = false := beq_eq_false_iff_ne.2 h63
          clear h63
          by_cases h49 : nk = 49
          · subst h49
            go_wp2
            go_meet
            exact ⟨(keep_of (some ad) L N c HN.out hc hm2.out b w.heap.size).2, rfl⟩
          have k49 : (nk == 49) = false := beq_eq_false_iff_ne.2 h49
          clear h49
          by_cases h2 : nk = 2
          · subst h2
            go_wp2
            go_meet
            exact ⟨(keep_of (some ad) L N c HN.out hc hm2.out b w.heap.size).2, rfl⟩
          have k2 : (nk == 2) = false := beq_eq_false_iff_ne.2 h2
          clear h2
          have hrk : rowK nk = false := by unfold rowK; rw [k3, k63, k49, k2]; rfl
          have HRK := Lib.hid hrk
          clear hrk
          go_wp2
          go_meet
          exact ⟨by rw [HRK.out]; exact (keep_of (some ad) L N c HN.out hc hm2.out b w.heap.size).1, rfl⟩
        case rest =>
          obtain ⟨hkv, hwc⟩ := hcut
          subst wc
          have HKV := Lib.hid hkv
          clear hkv
          generalize rowK nk = RK at *
          have x1 := rX.cell 1
          have x2 := rX.cell 2
          have x4 := rX.cell 4
          simp at x1 x2 x4
          go_upto_block 3 with fail
          obtain ⟨wy, hwy⟩ : ∃ wy : World, wy = wo.alloc (.cells #[.int .i64 nk, .string nx, .int .i64 m, .slice K M kc, .int .i64 np] 35) := ⟨_, rfl⟩
          have bY : Below w.heap.size w wy := by rw [hwy]; exact hb.alloc hz _
          have rSy : Row wy w.heap.size 50 #[.pointer (some ⟨b, 0, none⟩)] := by rw [hwy]; exact rS.alloc _
          have rXy : Row wy (w.heap.size + 1) 35 #[.int .i64 nk, .string nx, .int .i64 m, .slice K M kc, .int .i64 np] := by rw [hwy]; exact rX.alloc _
          have rYy : Row wy wo.heap.size 35 #[.int .i64 nk, .string nx, .int .i64 m, .slice K M kc, .int .i64 np] := by rw [hwy]; exact row_new rfl
          rw [← hwy]
          clear hwy x0 x1 x2 x3 x4 s0 lS
          have x0 := rXy.cell 0
          have x2 := rXy.cell 2
          simp at x0 x2
          have lXy := rXy.lt
          have lYy := rYy.lt
          have y2 := rYy.cell 2
          have yf2 := rYy.free 2
          simp at y2
          go_cut [] (fun wx => Row wx w.heap.size 50 #[.pointer (some ⟨b, 0, none⟩)] ∧ Row wx (w.heap.size + 1) 35 #[.int .i64 nk, .string nx, .int .i64 m, .slice K M kc, .int .i64 np] ∧ Row wx wo.heap.size 35 #[.int .i64 nk, .string nx, .int .i64 nm, .slice K M kc, .int .i64 np] ∧ Below w.heap.size w wx)
          case first =>
            have hput : ∀ u, nm = u → Row wy w.heap.size 50 #[.pointer (some ⟨b, 0, none⟩)] → Row wy (w.heap.size + 1) 35 #[.int .i64 nk, .string nx, .int .i64 m, .slice K M kc, .int .i64 np] → Row wy wo.heap.size 35 #[.int .i64 nk, .string nx, .int .i64 m, .slice K M kc, .int .i64 np] → Below w.heap.size w wy →
                Row (wy.setCell ⟨wo.heap.size, 2, none⟩ (.int .i64 u)) w.heap.size 50 #[.pointer (some ⟨b, 0, none⟩)] ∧ Row (wy.setCell ⟨wo.heap.size, 2, none⟩ (.int .i64 u)) (w.heap.size + 1) 35 #[.int .i64 nk, .string nx, .int .i64 m, .slice K M kc, .int .i64 np] ∧ Row (wy.setCell ⟨wo.heap.size, 2, none⟩ (.int .i64 u)) wo.heap.size 35 #[.int .i64 nk, .string nx, .int .i64 nm, .slice K M kc, .int .i64 np] ∧ Below w.heap.size w (wy.setCell ⟨wo.heap.size, 2, none⟩ (.int .i64 u)) := fun u hu h1 h2 h3 h4 => by
              subst hu
              refine ⟨h1.far (by show w.heap.size ≠ wo.heap.size; omega) _, h2.far (by show w.heap.size + 1 ≠ wo.heap.size; omega) _, ?_, h4.setCell (by show w.heap.size ≤ wo.heap.size; omega) _⟩
              have := h3.put 2 (.int .i64 nm); simpa using this
            have HPUT := Lib.hid hput
            clear hput
            by_cases h44 : nk = 44
            · subst h44
              have HE := Lib.hid (show nm = 0 from by rw [HNM.out]; rfl)
              go_wp2
              go_meet
              exact HPUT.out _ HE.out rSy rXy rYy bY
            · have k44 : (nk == 44) = false := beq_eq_false_iff_ne.2 h44
              by_cases h66 : nk = 66
              · subst h66
                have hpm := HPM.out rfl
                have hm8 : m = 0 ∨ m = 1 ∨ m = 2 ∨ m = 3 ∨ m = 4 ∨ m = 5 ∨ m = 6 ∨ m = 7 := by omega
                clear hpm
                have HE := Lib.hid HNM.out
                rcases hm8 with rfl | rfl | rfl | rfl | rfl | rfl | rfl | rfl
                all_goals
                  go_wp2
                  go_meet
                  exact HPUT.out _ (by rw [HE.out]; rfl) rSy rXy rYy bY
              · have k66 : (nk == 66) = false := beq_eq_false_iff_ne.2 h66
                have HE := Lib.hid (show nm = m from by rw [HNM.out, if_neg h44, if_neg h66])
                clear h44 h66
                go_wp2
                go_meet
                exact ⟨rSy, rXy, by rw [HE.out]; exact rYy, bY⟩
          case rest =>
            obtain ⟨rSy, rXy, rYy, bY⟩ := hcut
            clear x0 x2 y2 yf2 lXy lYy rX rS lX HX
            generalize hwk : wc = wk at *
            clear hwk
            have hnw := HNL.out
            have zk := bY.size
            have hbk : b < wk.heap.size := by omega
            have HYR := Lib.hid (show -9223372036854775808 ≤ nm ∧ nm ≤ 9223372036854775807 from by
              rw [HNM.out]
              have := HWY.out.1
              simp only at this
              split
              · omega
              · split
                · split <;> omega
                · exact this)
            have HLY := Lib.hid (lay_any b base ⟨nk, nx, nm, ks, np⟩ K M kc (.slice (some ad) N c) tv l wk (HRB.out.below bY hb0) (HO.out.below bY) hbb (by omega) (by omega) HYR.out)
            simp only at HLY
            have k0 := rSy.cell 0
            have y0 := rYy.cell 0
            have y1 := rYy.cell 1
            have y2 := rYy.cell 2
            have y3 := rYy.cell 3
            have y4 := rYy.cell 4
            have x3 := rXy.cell 3
            have lSy := rSy.lt
            have lXy := rXy.lt
            have lYy := rYy.lt
            simp at k0 y0 y1 y2 y3 y4 x3
            obtain ⟨F, caps, rfl, hFc, hKP⟩ := HKV.out
            have HKP := Lib.hid hKP
            have HTV := Lib.hid (own_lt HO.out.row)
            clear hKP HKV hnw
            go_upto_region 19 with (first
              | (go_at_call 20; (with_reducible refine HLY.out.mono ?_); rintro r w1 ⟨tv1, rfl, rS1, hO1, hF1⟩; have rX1 := hF1.row rXy (by omega) (fun e => by have := HTV.out _ e; omega); have lX1 := rX1.lt; have x31 := rX1.cell 3; simp at x31)
              | fail)
            obtain ⟨P, hP⟩ : ∃ P, P = stepS L (stripL L f2) nk := ⟨_, rfl⟩
            have hR := HR.out
            have hOKo := HOK.out
            have hPTo := HPT.out
            have hPUo := HPU.out
            rw [← hP] at hR hOKo hPTo hPUo
            have HR := Lib.hid hR
            have HOK := Lib.hid hOKo
            have HPT := Lib.hid hPTo
            have HPU := Lib.hid hPUo
            have HP := Lib.hid hP
            have HO1 := Lib.hid hO1
            have HF1 := Lib.hid hF1
            have hz1 := hF1.bw.size
            clear hR hOKo hPTo hPUo hP hO1 hF1 k0 y0 y1 y2 y3 y4 x3
            go_wp2
            go_loopw [9, 74] (fun v9 t wr => ∃ (q : Nat) (tq : Value) (mq : List NdV) (ksq : List Int), t = .int .i64 (q : Int) ∧ q ≤ M ∧ Hid (wr.ownsRow wk.heap.size 3 1 v9 ksq.length (intsC ksq)) ∧ Hid (ksq = offs (l.length + 1) (partsL P 0 (ks.take q)) ∧ mq.map (·.1) = body (l.length + 1) (partsL P 0 (ks.take q))) ∧ Hid (∀ p ∈ l ++ (⟨nk, nx, nm, [], np⟩, .slice none 0 0) :: mq, ∀ g, p.2.ownBlock = some g → v9.ownBlock ≠ some g) ∧ Hid (∀ p ∈ mq, ∀ g, p.2.ownBlock = some g → w.heap.size ≤ g) ∧ Row wr b 37 #[.slice (some ad) N c, tq] ∧ Hid (OwnT wr base tq (l ++ (⟨nk, nx, nm, [], np⟩, .slice none 0 0) :: mq)) ∧ Hid (Fr b tv tq wk wr)) (fun _ t _ => M - (intOf t).toNat)
            case atStart => exact ⟨0, tv1, [], [], rfl, Nat.zero_le _, Lib.hid (World.ownsRow_nil _ _ _ _), Lib.hid ⟨rfl, rfl⟩, Lib.hid (fun p _ g _ e => by simp [Value.ownBlock] at e), Lib.hid (fun p h => by cases h), rS1, HO1, HF1⟩
            case round =>
              obtain ⟨q, tq, mq, ksq, rfl, hq, HV9, HKM, HAP, HNW, rSq, HOQ, HFQ⟩ := hrel
              clear rS1 HO1 HF1 rX1 lX1 x31 hz1
              generalize hwq : wr = wq at *
              clear hwq
              have zq := HFQ.out.bw.size
              have bwq : Below b w wq := (bY.mono (by omega)).trans HFQ.out.bw
              have rG := HFQ.out.row rSy (by omega) (fun e => by have := HTV.out _ e; omega)
              have rX := HFQ.out.row rXy (by omega) (fun e => by have := HTV.out _ e; omega)
              have lG := rG.lt
              have lX := rX.lt
              have lSq := rSq.lt
              obtain ⟨A9, c9, hv9, hc9, hm9⟩ := own_slice HV9.out
              subst hv9
              have g0 := rG.cell 0
              have x0 := rX.cell 0
              have s0 := rSq.cell 0
              simp at g0 x0 s0
              by_cases hlt : q < M
              · obtain ⟨j, m', e1, hSj, e2, e3⟩ := HKD.out q hlt
                have HTK := Lib.hid (HPT.out q hlt)
                have HUP := Lib.hid (HPU.out q hlt j e1)
                have HSY := Lib.hid (HKS.out q hlt j e1)
                rw [Nat.zero_add, e1] at HTK
                rw [← show P = stepS L (stripL L f2) nk from HP.out] at HSY
                have hkq := HK.out q hlt
                obtain ⟨kd, rfl, hkb, kcell⟩ := hkq
                rw [show ksV ks q = .int .i64 (j : Int) from by unfold ksV; rw [e1]] at kcell
                have hkb2 : kd.block < B0 := by first | exact hkb | (rw [block_add] at hkb; exact hkb)
                replace kcell : wq.cell? (kd.add q) = some (.int .i64 (j : Int)) := (bwq.cell (by rw [block_add]; omega)).trans kcell
                have hkbq : kd.block < wq.heap.size := by omega
                have hjN : j < N := by rw [← HN.out]; exact hSj.1
                have hqi : (q : Int) < (M : Int) := by omega
                have hji : (j : Int) < (N : Int) := by omega
                have HTQ := Lib.hid (HT.out.below (bwq.mono hB0))
                have HSJ := Lib.hid hSj
                have HKC := Lib.hid (HKP.out wq j m' (HTQ.out.more (by omega)) s0 lSq g0 lG hSj)
                have HTY := Lib.hid (fun W => typed_any nk q W)
                have HST := Lib.hid (fun tv l W hT hR hO hb hl hn => HIH.out j m' tv l W hSj (by have := HNL.out; have := hSj.lt; omega) hl hT hR hO hb hn)
                clear e1 hSj
                generalize (if RK = true then !leftB L L.length (j : Int) else true) = kj at *
                generalize emptied nk q = ej at *
                generalize hPJ : P q (j : Int) = PJ at *
                clear hPJ
                cases kj with
                | false =>
                  have hs := HSY.out.1 rfl
                  have HPJ := Lib.hid hs
                  clear hs HSY HTY HST
                  go_wp2_with (first
                    | ((with_reducible refine HKC.out.mono ?_); rintro r w2 ⟨rfl, b2⟩)
                    | fail)
                  refine ⟨⟨q + 1, tq, mq, ksq, by go_num, by omega, Lib.hid (own_below HV9.out b2), Lib.hid ?_, HAP, HNW, rSq.below b2 lSq, Lib.hid (HOQ.out.below b2), Lib.hid (HFQ.out.new b2 (by omega))⟩, by simp [intOf]; omega⟩
                  rw [HTK.out, HPJ.out, List.append_nil]
                  exact HKM.out
                | true =>
                  have hql : ksq.length ≤ 1000000 := by
                    rw [HKM.out.1, offs_len, HP.out]
                    have h1 := partsL_len L (stripL L f2) nk (ks.take q) 0
                    have h2 : (ks.take q).length ≤ M := by rw [List.length_take, HMM.out]; omega
                    omega
                  generalize hlq : l ++ ((⟨nk, nx, nm, [], np⟩ : Nd), Value.slice none 0 0) :: mq = lq at HAP HOQ
                  have HLQ := Lib.hid hlq
                  have hln : lq.length = l.length + 1 + sumL (partsL P 0 (ks.take q)) := by
                    have h1 := congrArg List.length HKM.out.2
                    rw [List.length_map, body_len] at h1
                    rw [← hlq, List.length_append, List.length_cons, h1]
                    omega
                  clear hlq
                  have hup := HUP.out
                  have hnl := HNL.out
                  have HLB := Lib.hid (show lq.length + (m' - j) ≤ 1000000 from by have := HSJ.out.lt; omega)
                  have hlb : lq.length ≤ 1000000 := by have := HLB.out; omega
                  have HLN := Lib.hid hln
                  clear hln hup hnl
                  generalize hnq : lq.length = ql at HLB HLN hlb
                  have HNQ := Lib.hid hnq
                  clear hnq
                  cases ej with
                  | false =>
                    obtain ⟨hs, hlj⟩ := HSY.out.2.2 rfl rfl
                    have HPJ := Lib.hid hs
                    have HST := Lib.hid (fun W hT hR hO hb => HST.out tq lq W hT hR hO hb hlj (by rw [HNQ.out]; exact HLB.out))
                    rw [HNQ.out] at HST
                    clear hs HSY hlj
                    generalize stripL L f2 (j : Int) = sj at *
                    go_wp2_with (first
                      | ((with_reducible refine HKC.out.mono ?_); rintro r w2 ⟨rfl, b2⟩; have bX := b2; have rX2 := rX.below b2 lX; have lX2 := rX2.lt; have x02 := rX2.cell 0; simp at x02)
                      | (go_at_call 21; (with_reducible refine (HTY.out _).mono ?_); rintro r w3 ⟨rfl, b3⟩; replace bX := bX.trans (b3.mono bX.size); have zX := bX.size; have rG3 := rG.below bX lG; have g03 := rG3.cell 0; simp at g03; have lG3 := rG3.lt; have hT3 := HTQ.out.below (bX.mono (by omega)); have rS3 := rSq.below bX lSq; have hO3 := HOQ.out.below bX; have HV3 := Lib.hid (own_below HV9.out bX); have HST2 := Lib.hid (HST.out _ hT3 rS3 hO3 (by omega)); have HO3 := Lib.hid hO3; clear hT3 hO3 rS3)
                      | (go_at_call 10; (with_reducible refine HST2.out.mono ?_); rintro r w4 ⟨tq2, m2, rfl, rS4, hO4, hm4, hn4, hF4⟩; have hk4 := kid_mid HV3.out HO3.out HAP.out hbk hF4 hn4; have HV4 := Lib.hid hk4.1; have HA4 := Lib.hid hk4.2; have HO4 := Lib.hid hO4; have HM4 := Lib.hid hm4; have HN4 := Lib.hid hn4; have HF4 := Lib.hid hF4; have z4 := hF4.bw.size; clear hk4 hO4 hm4 hn4 hF4)
                      | (at_builtin; refine wpList_append_rd _ rfl (.tmp 105) (.tmp 109) 33 rfl wk.heap.size 3 j0 _ 8 Tryd.underlying33 hj0 jz0 jz1 jz2 rfl (.slice A9 ksq.length c9) ksq.length (intsC ksq) rfl (HV4.out.alloc _) _ _ 1 1 _ rfl (rd_one w4 3 (.int .i64 (ql : Int))) (fun _ => rfl) (by unfold maxLen; omega) (by omega) (by simp; omega) ?_; intro v5 w5 own5 hg5 hob5)
                      | fail)
                    obtain ⟨R5, O5, A5, F5⟩ := kid_end (wx := _) rS4 HO4.out HV4.out HA4.out ((HFQ.out.new bX (by omega)).trans HF4.out) hbk (Nat.le_refl _) ((Below.refl _ _).alloc (Nat.le_refl _) _) hg5 hob5
                    have hass : l ++ ((⟨nk, nx, nm, [], np⟩ : Nd), Value.slice none 0 0) :: (mq ++ m2) = lq ++ m2 := by rw [← HLQ.out]; simp
                    refine ⟨⟨q + 1, tq2, mq ++ m2, ksq ++ [(ql : Int)], by go_num, by omega, Lib.hid ?_, Lib.hid ⟨?_, ?_⟩, Lib.hid (by rw [hass]; exact A5), Lib.hid (fun p hp g hg => ?_), R5, Lib.hid (by rw [hass]; exact O5), Lib.hid F5⟩, by simp [intOf]; omega⟩
                    · rw [List.length_append, intsC, List.map_append]; exact own5
                    · rw [HTK.out, HPJ.out, ← offs_next, ← HKM.out.1, HLN.out]
                    · rw [HTK.out, HPJ.out, ← body_next, List.map_append, HKM.out.2, HM4.out, HLN.out]
                    · rcases List.mem_append.1 hp with hp | hp
                      · exact HNW.out p hp g hg
                      · have := HN4.out p hp g hg; omega
                  | true =>
                    have hs := HSY.out.2.1 rfl rfl
                    have HNJ := Lib.hid (fun W (hb : Below wq.heap.size wq W) => And.intro ((HTQ.out.below (hb.mono (by omega))).at_ HSJ.out.1).c0 ((HTQ.out.below (hb.mono (by omega))).at_ HSJ.out.1).c4)
                    have hajb : (ad.add (j * 5)).block < B0 := by rw [block_add]; omega
                    clear HSY HST
                    rw [show oneN (nd L (j : Int)) = ⟨if (nd L (j : Int)).k = 2 then 2 else 1, ⟨#[]⟩, 0, [], (nd L (j : Int)).p⟩ from rfl] at hs
                    generalize nd L (j : Int) = z at *
                    obtain ⟨zk, zx, zm, zks, zp⟩ := z
                    simp only at HNJ hs
                    by_cases h2 : zk = 2
                    · subst h2
                      rw [if_pos rfl] at hs
                      obtain ⟨oj, hoj⟩ : ∃ oj : Nd, oj = ⟨2, ⟨#[]⟩, 0, [], zp⟩ := ⟨_, rfl⟩
                      rw [← hoj] at hs
                      have HPJ := Lib.hid hs
                      have HOJ := Lib.hid hoj
                      clear hs hoj
                      go_upto_region 28 with (first
                        | ((with_reducible refine HKC.out.mono ?_); rintro r w2 ⟨rfl, b2⟩; have bX := b2; have rX2 := rX.below b2 lX; have lX2 := rX2.lt; have x02 := rX2.cell 0; simp at x02)
                        | (go_at_call 21; (with_reducible refine (HTY.out _).mono ?_); rintro r w3 ⟨rfl, b3⟩; replace bX := bX.trans (b3.mono bX.size); have zX := bX.size; have rG3 := rG.below bX lG; have g03 := rG3.cell 0; simp at g03; have lG3 := rG3.lt; obtain ⟨d0, d4⟩ := HNJ.out _ bX; have rS3 := rSq.below bX lSq; have lS3 := rS3.lt; have s03 := rS3.cell 0; simp at s03; have hO3 := HOQ.out.below bX; have HV3 := Lib.hid (own_below HV9.out bX); have had3 : ad.block < w3.heap.size := (by omega); have haj3 : (ad.add (j * 5)).block < w3.heap.size := (by omega))
                        | fail)
                      have HO3 := Lib.hid hO3
                      have HLY2 := Lib.hid (fun W (hb : Below w3.heap.size w3 W) => lay_any b base ⟨2, ⟨#[]⟩, 0, [], zp⟩ none 0 0 (.slice (some ad) N c) tq lq W (rS3.below hb lS3) (HO3.out.below hb) hbb (by have := hb.size; omega) (by rw [HNQ.out]; exact hlb) ⟨by simp, by simp⟩)
                      simp only [HNQ.out] at HLY2
                      clear hO3
                      go_region_law (first
                        | (go_simp; go_at_call 20; (with_reducible refine (HLY2.out _ (by (exact bl))).mono ?_); rintro r w4 ⟨tq2, rfl, rS4, hO4, hF4⟩; have hk4 := kid_mid (own_below HV3.out (by exact bl)) (HO3.out.below (by exact bl)) HAP.out hbk hF4 (m := [(bareN ⟨2, ⟨#[]⟩, 0, [], zp⟩, .slice none 0 0)]) (fun p hp g e => by simp at hp; subst hp; simp [Value.ownBlock] at e); have HV4 := Lib.hid hk4.1; have HA4 := Lib.hid hk4.2; have HO4 := Lib.hid hO4; have z4 : w3.heap.size ≤ w4.heap.size := (by exact hF4.bw.size); have HF4 := Lib.hid hF4; clear hk4 hO4 hF4)
                        | ((refine step_append_own (by rfl) (.tmp 122) (.tmp 135) 33 (by rfl) wk.heap.size 3 j0 _ 1 8 Tryd.underlying33 hj0 jz0 jz1 jz2 rfl (by decide) (.slice A9 ksq.length c9) ksq.length (intsC ksq) (by rfl) (HV4.out.alloc _) ⟨w4.heap.size, 0, none⟩ 1 1 [.int .i64 (ql : Int)] (by rfl) rfl (cell_one_new _ _ _) (fun u hu => by simp at hu; subst hu; rfl) (by unfold maxLen; omega) (by omega) (by simp; omega) ?_); intro v5 w5 own5 hg5 hob5)
                        | fail)
                      all_goals go_wp2
                      all_goals
                        have HM4 := Lib.hid (show ([(bareN ⟨2, ⟨#[]⟩, 0, [], zp⟩, Value.slice none 0 0)] : List NdV).map (·.1) = [oj].map (shN (ql : Int)) from by rw [HOJ.out]; rfl)
                        have HN4 := Lib.hid (show ∀ p ∈ ([(bareN ⟨2, ⟨#[]⟩, 0, [], zp⟩, Value.slice none 0 0)] : List NdV), ∀ g, p.2.ownBlock = some g → w3.heap.size ≤ g from fun p hp g e => by simp at hp; subst hp; simp [Value.ownBlock] at e)
                        obtain ⟨R5, O5, A5, F5⟩ := kid_end (wx := _) rS4 HO4.out HV4.out HA4.out ((HFQ.out.new (by exact bl) (by omega)).trans HF4.out) hbk (Nat.le_refl _) (by exact bl) hg5 hob5
                        have hass : l ++ ((⟨nk, nx, nm, [], np⟩ : Nd), Value.slice none 0 0) :: (mq ++ [(bareN ⟨2, ⟨#[]⟩, 0, [], zp⟩, Value.slice none 0 0)]) = lq ++ [(bareN ⟨2, ⟨#[]⟩, 0, [], zp⟩, Value.slice none 0 0)] := by rw [← HLQ.out]; simp
                        refine ⟨⟨q + 1, tq2, mq ++ [(bareN ⟨2, ⟨#[]⟩, 0, [], zp⟩, Value.slice none 0 0)], ksq ++ [(ql : Int)], by go_num, by omega, Lib.hid ?_, Lib.hid ⟨?_, ?_⟩, Lib.hid (by rw [hass]; exact A5), Lib.hid (fun p hp g hg => ?_), R5, Lib.hid (by rw [hass]; exact O5), Lib.hid F5⟩, by simp [intOf]; omega⟩
                        · rw [List.length_append, intsC, List.map_append]; exact own5
                        · rw [HTK.out, HPJ.out, ← offs_next, ← HKM.out.1, HLN.out]
                        · rw [HTK.out, HPJ.out, ← body_next, List.map_append, HKM.out.2, HM4.out, HLN.out]
                        · rcases List.mem_append.1 hp with hp | hp
                          · exact HNW.out p hp g hg
                          · have := HN4.out p hp g hg; omega
                    · have k2 : (zk == 2) = false := beq_eq_false_iff_ne.2 h2
                      rw [if_neg h2] at hs
                      obtain ⟨oj, hoj⟩ : ∃ oj : Nd, oj = ⟨1, ⟨#[]⟩, 0, [], zp⟩ := ⟨_, rfl⟩
                      rw [← hoj] at hs
                      have HPJ := Lib.hid hs
                      have HOJ := Lib.hid hoj
                      clear hs hoj h2
                      go_upto_region 23 with (first
                        | ((with_reducible refine HKC.out.mono ?_); rintro r w2 ⟨rfl, b2⟩; have bX := b2; have rX2 := rX.below b2 lX; have lX2 := rX2.lt; have x02 := rX2.cell 0; simp at x02)
                        | (go_at_call 21; (with_reducible refine (HTY.out _).mono ?_); rintro r w3 ⟨rfl, b3⟩; replace bX := bX.trans (b3.mono bX.size); have zX := bX.size; have rG3 := rG.below bX lG; have g03 := rG3.cell 0; simp at g03; have lG3 := rG3.lt; obtain ⟨d0, d4⟩ := HNJ.out _ bX; have rS3 := rSq.below bX lSq; have lS3 := rS3.lt; have s03 := rS3.cell 0; simp at s03; have hO3 := HOQ.out.below bX; have HV3 := Lib.hid (own_below HV9.out bX); have had3 : ad.block < w3.heap.size := (by omega); have haj3 : (ad.add (j * 5)).block < w3.heap.size := (by omega))
                        | fail)
                      have HO3 := Lib.hid hO3
                      have HLY2 := Lib.hid (fun W (hb : Below w3.heap.size w3 W) => lay_any b base ⟨1, ⟨#[]⟩, 0, [], zp⟩ none 0 0 (.slice (some ad) N c) tq lq W (rS3.below hb lS3) (HO3.out.below hb) hbb (by have := hb.size; omega) (by rw [HNQ.out]; exact hlb) ⟨by simp, by simp⟩)
                      simp only [HNQ.out] at HLY2
                      clear hO3
                      go_region_law (first
                        | (go_simp; go_at_call 20; (with_reducible refine (HLY2.out _ (by (exact bl))).mono ?_); rintro r w4 ⟨tq2, rfl, rS4, hO4, hF4⟩; have hk4 := kid_mid (own_below HV3.out (by exact bl)) (HO3.out.below (by exact bl)) HAP.out hbk hF4 (m := [(bareN ⟨1, ⟨#[]⟩, 0, [], zp⟩, .slice none 0 0)]) (fun p hp g e => by simp at hp; subst hp; simp [Value.ownBlock] at e); have HV4 := Lib.hid hk4.1; have HA4 := Lib.hid hk4.2; have HO4 := Lib.hid hO4; have z4 : w3.heap.size ≤ w4.heap.size := (by exact hF4.bw.size); have HF4 := Lib.hid hF4; clear hk4 hO4 hF4)
                        | ((refine step_append_own (by rfl) (.tmp 79) (.tmp 92) 33 (by rfl) wk.heap.size 3 j0 _ 1 8 Tryd.underlying33 hj0 jz0 jz1 jz2 rfl (by decide) (.slice A9 ksq.length c9) ksq.length (intsC ksq) (by rfl) (HV4.out.alloc _) ⟨w4.heap.size, 0, none⟩ 1 1 [.int .i64 (ql : Int)] (by rfl) rfl (cell_one_new _ _ _) (fun u hu => by simp at hu; subst hu; rfl) (by unfold maxLen; omega) (by omega) (by simp; omega) ?_); intro v5 w5 own5 hg5 hob5)
                        | fail)
                      all_goals go_wp2
                      all_goals
                        have HM4 := Lib.hid (show ([(bareN ⟨1, ⟨#[]⟩, 0, [], zp⟩, Value.slice none 0 0)] : List NdV).map (·.1) = [oj].map (shN (ql : Int)) from by rw [HOJ.out]; rfl)
                        have HN4 := Lib.hid (show ∀ p ∈ ([(bareN ⟨1, ⟨#[]⟩, 0, [], zp⟩, Value.slice none 0 0)] : List NdV), ∀ g, p.2.ownBlock = some g → w3.heap.size ≤ g from fun p hp g e => by simp at hp; subst hp; simp [Value.ownBlock] at e)
                        obtain ⟨R5, O5, A5, F5⟩ := kid_end (wx := _) rS4 HO4.out HV4.out HA4.out ((HFQ.out.new (by exact bl) (by omega)).trans HF4.out) hbk (Nat.le_refl _) (by exact bl) hg5 hob5
                        have hass : l ++ ((⟨nk, nx, nm, [], np⟩ : Nd), Value.slice none 0 0) :: (mq ++ [(bareN ⟨1, ⟨#[]⟩, 0, [], zp⟩, Value.slice none 0 0)]) = lq ++ [(bareN ⟨1, ⟨#[]⟩, 0, [], zp⟩, Value.slice none 0 0)] := by rw [← HLQ.out]; simp
                        refine ⟨⟨q + 1, tq2, mq ++ [(bareN ⟨1, ⟨#[]⟩, 0, [], zp⟩, Value.slice none 0 0)], ksq ++ [(ql : Int)], by go_num, by omega, Lib.hid ?_, Lib.hid ⟨?_, ?_⟩, Lib.hid (by rw [hass]; exact A5), Lib.hid (fun p hp g hg => ?_), R5, Lib.hid (by rw [hass]; exact O5), Lib.hid F5⟩, by simp [intOf]; omega⟩
                        · rw [List.length_append, intsC, List.map_append]; exact own5
                        · rw [HTK.out, HPJ.out, ← offs_next, ← HKM.out.1, HLN.out]
                        · rw [HTK.out, HPJ.out, ← body_next, List.map_append, HKM.out.2, HM4.out, HLN.out]
                        · rcases List.mem_append.1 hp with hp | hp
                          · exact HNW.out p hp g hg
                          · have := HN4.out p hp g hg; omega
              · obtain rfl : q = M := by omega
                have hKM := HKM.out
                rw [List.take_of_length_le (by rw [HMM.out]; exact Nat.le_refl _)] at hKM
                obtain ⟨hk1, hk2⟩ := hKM
                have hln : mq.length = sumL (partsL P 0 ks) := by
                  have h1 := congrArg List.length hk2
                  rw [List.length_map, body_len] at h1
                  exact h1
                have hnl := HNL.out
                have hok := HOK.out
                have HPZ := Lib.hid (fun l hl => (hok.2 l hl).1)
                have hsb : l.length + 1 + sumL (partsL P 0 ks) ≤ 1000000 := by have := hok.1; omega
                have hrow := HOQ.out.row
                obtain ⟨At, ct, htq, hct1, hct2⟩ := own_slice hrow
                subst htq
                obtain ⟨gt, rfl, hg1, hg2⟩ := own_form5 hrow (by rw [List.length_append, List.length_cons]; omega)
                have hat : (l ++ ((⟨nk, nx, nm, [], np⟩ : Nd), Value.slice none 0 0) :: mq)[l.length]? = some (⟨nk, nx, nm, [], np⟩, .slice none 0 0) := by
                  rw [List.getElem?_append_right (Nat.le_refl _), Nat.sub_self]; rfl
                have n3 := (hrow.cellAt (l.length * 5 + 3) (by rw [List.length_append, List.length_cons]; omega)).trans (ndsC_at _ l.length _ hat 3 (by omega))
                replace n3 : wq.cell? ⟨gt, l.length * 5 + 3, none⟩ = some (.slice none 0 0) := n3
                have nf := hrow.frozenAt (l.length * 5 + 3)
                have hV := own_mono HV9.out (B := base) (by omega)
                have hO2 := OwnT.putk HOQ.out rfl hat hV HAP.out (fun k hk => by
                  rw [hk1] at hk
                  have := offs_mem _ _ k hk
                  omega)
                have hset : (l ++ ((⟨nk, nx, nm, [], np⟩ : Nd), Value.slice none 0 0) :: mq).set l.length (⟨nk, nx, nm, ksq, np⟩, .slice A9 ksq.length c9) = l ++ ((⟨nk, nx, nm, ksq, np⟩ : Nd), Value.slice A9 ksq.length c9) :: mq := by
                  rw [List.set_append_right _ _ (Nat.le_refl _), Nat.sub_self]; rfl
                simp only at hO2
                rw [hset] at hO2
                have hF2 : Fr b tv (.slice (some ⟨gt, 0, none⟩) (l ++ ((⟨nk, nx, nm, [], np⟩ : Nd), Value.slice none 0 0) :: mq).length ct) w (wq.setCell ⟨gt, l.length * 5 + 3, none⟩ (.slice A9 ksq.length c9)) := (((Fr.refl b tv w).new bY (by omega)).trans HFQ.out).put (p := ⟨gt, l.length * 5 + 3, none⟩) (.inr ⟨by show b ≤ gt; omega, .inl rfl⟩) _
                have hR2 : Row (wq.setCell ⟨gt, l.length * 5 + 3, none⟩ (.slice A9 ksq.length c9)) b 37 #[.slice (some ad) N c, .slice (some ⟨gt, 0, none⟩) (l ++ ((⟨nk, nx, nm, [], np⟩ : Nd), Value.slice none 0 0) :: mq).length ct] := rSq.far (by show b ≠ gt; omega) _
                have hlt2 : l.length < (l ++ ((⟨nk, nx, nm, [], np⟩ : Nd), Value.slice none 0 0) :: mq).length := by simp
                have hmm : (((⟨nk, nx, nm, ksq, np⟩ : Nd), Value.slice A9 ksq.length c9) :: mq).map (·.1) = (stripL L f i).map (shN (l.length : Int)) := by
                  rw [HR.out, mk_two l.length (fun l hl => HPZ.out l hl) (by omega), List.map_cons, hk2, hk1]
                have hnn : ∀ p ∈ ((⟨nk, nx, nm, ksq, np⟩ : Nd), Value.slice A9 ksq.length c9) :: mq, ∀ g, p.2.ownBlock = some g → w.heap.size ≤ g := fun p hp g hg => by
                  rcases List.mem_cons.1 hp with rfl | hp
                  · have := own_ge HV9.out g hg; omega
                  · exact HNW.out p hp g hg
                generalize hnt : (l ++ ((⟨nk, nx, nm, [], np⟩ : Nd), Value.slice none 0 0) :: mq).length = nt at *
                have hli : (l.length : Int) < (nt : Int) := by omega
                have HO2 := Lib.hid hO2
                have HF2 := Lib.hid hF2
                have HR2 := Lib.hid hR2
                have HMQ := Lib.hid hmm
                have HNN := Lib.hid hnn
                have s1 := rSq.cell 1
                simp at s1
                have hgq : gt < wq.heap.size := by omega
                clear hO2 hF2 hR2 hmm hnn hset hV hat hrow hnt hk1 hk2 hln hok hnl
                go_wp2
                go_ret
                exact ⟨_, _, rfl, HR2.out, HO2.out, HMQ.out, HNN.out, HF2.out⟩
end Go.Proofs.YtpkdhciokiomlaaDoor
