/- The walk of the program's Find. -/
import Derived.Test.YtjaijlkonkgnmaaGreatDoorHFdP
import Derived.Test.YtjaijlkonkgnmaaGreatDoorHBJ
import Derived.Test.YtjaijlkonkgnmaaGreatDoorHVs
import Derived.OwnWalkIn
import Derived.WalkMore
namespace Go.Proofs.YtjaijlkonkgnmaaGreatDoor
set_option linter.unusedVariables false
set_option linter.unusedSimpArgs false
set_option linter.unnecessarySimpa false
open Go.RowKit
attribute [local go_sem] cell_alloc_add cell_set_add lt_more Oper.semAt_some
set_option maxRecDepth 100000 in
set_option maxHeartbeats 8000000 in
theorem Find_in (A : Option Addr) (L : List Nd) (c : Nat) (hc : L.length ≤ c) (hm : c ≤ maxLen) (hL : L.length ≤ 1000000) (hx : ∀ j : Nat, (nd L j).x.size ≤ 4000000) (n kind : Int) (w : World) (h : TreeAt w w.heap.size A L) (hmx : Mx w) (hw00 : 0 < w.heap.size) :
    CallsIn Fence.wide 10 Tryz.prog 15 #[.agg #[.slice A L.length c], .int .i64 n, .int .i64 kind] w fun r w' => (∃ g v l, r = .returned (.func (.func 37) #[] #[.pointer (some ⟨g, 0, none⟩)]) ∧ Row w' g 26 #[v] ∧ w'.ownsRow w.heap.size 3 1 v l.length (intsC l) ∧ FindOf L n kind l) ∧ Below w.heap.size w w' := by
  obtain ⟨wa, hwa⟩ : ∃ wa : World, wa = (((((w.alloc (.cells #[.slice A L.length c] 24)).alloc (.cells #[.int .i64 n] 3)).alloc (.cells #[.int .i64 kind] 3)).alloc (.cells #[.slice none 0 0] 26)).alloc (.cells #[.int .i64 (-1)] 3)).alloc (.cells #[.int .i64 (-1)] 3) := ⟨_, rfl⟩
  have bA : Below w.heap.size w wa := by rw [hwa]; exact (by (repeat (first | (with_reducible exact Below.refl _ _) | (with_reducible assumption) | (with_reducible refine Below.setCell ?_ (by first | omega | (simp <;> omega)) _) | (with_reducible refine Below.alloc ?_ (by first | omega | (simp <;> omega)) _) | (with_reducible refine Below.drew ?_) | (with_reducible refine below_drewN ?_ _) | (with_reducible refine Below.trans ?_ (Below.mono (by with_reducible assumption) (by first | omega | (simp <;> omega)))))))
  have zA : w.heap.size + 6 ≤ wa.heap.size := by rw [hwa]; simp
  have r0 : Row wa w.heap.size 24 #[.slice A L.length c] := by rw [hwa]; exact (((((row_new rfl).alloc _).alloc _).alloc _).alloc _).alloc _
  have r1 : Row wa (w.heap.size + 1) 3 #[.int .i64 n] := by rw [hwa]; exact ((((row_new (by simp)).alloc _).alloc _).alloc _).alloc _
  have r2 : Row wa (w.heap.size + 1 + 1) 3 #[.int .i64 kind] := by rw [hwa]; exact (((row_new (by simp)).alloc _).alloc _).alloc _
  have r3 : Row wa (w.heap.size + 1 + 1 + 1) 26 #[.slice none 0 0] := by rw [hwa]; exact ((row_new (by simp)).alloc _).alloc _
  have r4 : Row wa (w.heap.size + 1 + 1 + 1 + 1) 3 #[.int .i64 (-1)] := by rw [hwa]; exact (row_new (by simp)).alloc _
  have r5 : Row wa (w.heap.size + 1 + 1 + 1 + 1 + 1) 3 #[.int .i64 (-1)] := by rw [hwa]; exact row_new (by simp)
  have HW := Lib.hid (Walk_any A L c hc hm (by omega) hx wa (h.later bA) (hmx.below bA hw00) (by omega))
  have hT := Lib.hid h
  have hdl := depsL_len L
  obtain ⟨R, P, hF, hP⟩ := fdP_of L n kind
  have HF := Lib.hid hF
  have HP := Lib.hid hP
  have t0 := r0.cell 0
  simp at t0
  obtain ⟨j0, hj0, jz0, jz1, jz2⟩ := info_parts infoInt
  clear h hmx hF hP
  generalize depsL L = D at *
  generalize hDn : D.length = N at *
  have HN := Lib.hid hDn
  generalize hLn : L.length = NL at *
  have HL := Lib.hid hLn
  clear hDn hLn
  unfold maxLen at hm
  refine callsIn_of_wp_marks Tryz.func15 rfl trivial ?_ rfl
  simp only [Tryz.ntmps15, List.size_toArray, List.length_cons, List.length_nil, Nat.reduceAdd, Nat.reduceSub, Array.replicate_succ, Array.replicate_zero, List.push_toArray, List.append_toArray, List.nil_append, List.cons_append]
  gi_wp2
  refine wpIn_wide.2 (wp_scope_straight ((wpIn_wide (n := 10)).1 ?_))
  gi_wp2
  refine wpIn_label ?_
  gi_wp2_with (refine ⟨trivial, ?_⟩; rw [← hwa]; clear hwa; gi_at_call 8; (with_reducible refine (callsIn_wide.2 HW.out).mono ?_); rintro e W0 ⟨⟨rfl, v, rD, hown⟩, b0⟩)
  have bW := bA.trans (b0.mono (by omega))
  have hrd : RdD W0 (match v with | .slice A _ _ => A | _ => none) D := by
    obtain ⟨A1, c1, rfl, _, _⟩ := own_slice hown
    have h2 := hown
    rw [← HN.out] at h2
    exact rdD_own h2
  have hge := own_ge hown
  have hlt := own_lt hown
  obtain ⟨A1, c1, rfl, hc1, hm1⟩ := own_slice hown
  simp only at hrd
  have hA1 : ∀ ad, A1 = some ad → wa.heap.size + 2 ≤ ad.block ∧ ad.block < W0.heap.size := fun ad e => by
    subst e
    exact ⟨hge ad.block rfl, hlt ad.block rfl⟩
  have hz0 := Below.size b0
  have cD := rD.cell 0
  simp at cD
  have hI0 : FdI w.heap.size W0.heap.size w (.slice A NL c) n kind P ([] : List (Fin N)) W0 := ⟨-1, -1, _, [], ⟨r3.below b0 (by omega), World.ownsRow_nil _ _ _ _, r4.below b0 (by omega), r5.below b0 (by omega), r0.below b0 (by omega), r1.below b0 (by omega), r2.below b0 (by omega), bW, Nat.le_refl _, by omega, Nat.le_refl _⟩, by simp, pp_start HP.out⟩
  obtain ⟨gD, hgD⟩ : ∃ gD, gD = wa.heap.size + 1 := ⟨_, rfl⟩
  have hA2 : ∀ ad, A1 = some ad → w.heap.size + 6 ≤ ad.block ∧ ad.block < W0.heap.size := fun ad e => ⟨by have := (hA1 ad e).1; omega, (hA1 ad e).2⟩
  rw [← hgD] at cD ⊢
  have HA := Lib.hid hA2
  have z0 : w.heap.size + 6 ≤ W0.heap.size := by omega
  clear bA zA r0 r1 r2 r3 r4 r5 HW t0 b0 hown hge hlt hA1 hA2 hgD rD hx
  apply wpIn_rangeFunc_ownF (F := Fence.wide) (n := 10) rfl (by decide) (gf := 20) (lb := #[.pointer (some ⟨gD, 0, none⟩)]) rfl trivial (enters_of Tryz.func20 (by kernel_rfl) rfl)
    (Walk1_stops (10 - 1) (by decide) gD D N HN.out (by omega) A1 c1 hc1 hm1 W0 cD hrd (fun ad e => (HA.out ad e).2)) keepD_t (keepD_b (w := W0)) (Below.refl _ _) (fun _ => rfl)
    (fun pre W => FdI w.heap.size W0.heap.size w (.slice A NL c) n kind P pre W)
    (fun cc pre W => cc = .exit 0 ∧ FdX w.heap.size W0.heap.size w (.slice A NL c) n kind N R pre W)
    (fun p W W' row hs hg hr => hs.own hg hr)
    (fun cc p W W' row hs hg hr => ⟨hs.1, hs.2.own hg hr⟩)
    hI0 _
  case hassign =>
    intro l x W K hK
    dsimp only [encD]
    gi_wp2
    exact hK
  case hstop =>
    rintro Dd cc pre W hD hpre ⟨rfl, top, over, v, f, ⟨k3, ko, k4, k5, k0, k1, k2, kb, kB, h6, -⟩, kR⟩ hK
    obtain ⟨q, _, hq, e⟩ := hpre
    have hfR : f = R := kR q hq e
    have HFF := Lib.hid (show FindOf L n kind f from by rw [hfR]; exact HF.out)
    clear hfR kR e
    obtain ⟨Af, cf, rfl, hcf, hmf⟩ := own_slice ko
    have HO := Lib.hid ko
    have c3 := k3.cell 0
    have l3 := k3.lt
    simp at c3
    clear ko k4 k5 k0 k1 k2
    gi_wp2_with (refine ⟨trivial, ?_⟩; gi_at_call 29; (with_reducible refine (callsIn_wide.2 (Values_any Af f.length cf _)).mono ?_); rintro e w9 ⟨rfl, rfl⟩)
    (try rw [Exit.noGoto_ret]); have hK' := (Below.heap_alloc W (.cells #[.slice Af f.length cf] 26) Dd (Array.getElem?_eq_some_iff.1 hK).1).trans hK; refine ⟨by simp, .inl ⟨_, _, rfl, run_takeDeferred hK', ?_⟩⟩; have hr' : ∀ r, some Dd = some r → ∃ o : Obj, (W.alloc (.cells #[.slice Af f.length cf] 26)).heap[r]? = some o ∧ o.isCells = false := (fun r e => by cases e; exact ⟨_, hK', rfl⟩); exact ⟨_, results_tmp rfl _ _ _, ⟨W.heap.size, _, f, rfl, row_own (row_new rfl) (grownBy_putObj' _ Dd (.deferred none)) hr', own_non (own_mono (HO.out.alloc _) (by omega)) (grownBy_putObj' _ Dd (.deferred none)) hr', HFF.out⟩, (kb.alloc kb.size _).trans (belowK_b (w := w) (Nat.le_refl _) _ Dd _ _ (by omega) hK' rfl rfl)⟩
  case hdone =>
    rintro Dd xs W hD rfl ⟨top, over, v, f, ⟨k3, ko, k4, k5, k0, k1, k2, kb, kB, h6, -⟩, hfl, hPP⟩ hK
    have hfR : f = R := HP.out.all _ _ _ (hPP N (Nat.le_refl _) rfl)
    have HFF := Lib.hid (show FindOf L n kind f from by rw [hfR]; exact HF.out)
    clear hfR hPP
    obtain ⟨Af, cf, rfl, hcf, hmf⟩ := own_slice ko
    have HO := Lib.hid ko
    have c3 := k3.cell 0
    have l3 := k3.lt
    simp at c3
    clear ko hfl k4 k5 k0 k1 k2
    gi_wp2_with (refine ⟨trivial, ?_⟩; gi_at_call 29; (with_reducible refine (callsIn_wide.2 (Values_any Af f.length cf _)).mono ?_); rintro e w9 ⟨rfl, rfl⟩)
    (try rw [Exit.noGoto_ret]); have hK' := (Below.heap_alloc W (.cells #[.slice Af f.length cf] 26) Dd (Array.getElem?_eq_some_iff.1 hK).1).trans hK; refine ⟨by simp, .inl ⟨_, _, rfl, run_takeDeferred hK', ?_⟩⟩; have hr' : ∀ r, some Dd = some r → ∃ o : Obj, (W.alloc (.cells #[.slice Af f.length cf] 26)).heap[r]? = some o ∧ o.isCells = false := (fun r e => by cases e; exact ⟨_, hK', rfl⟩); exact ⟨_, results_tmp rfl _ _ _, ⟨W.heap.size, _, f, rfl, row_own (row_new rfl) (grownBy_putObj' _ Dd (.deferred none)) hr', own_non (own_mono (HO.out.alloc _) (by omega)) (grownBy_putObj' _ Dd (.deferred none)) hr', HFF.out⟩, (kb.alloc kb.size _).trans (belowK_b (w := w) (Nat.le_refl _) _ Dd _ _ (by omega) hK' rfl rfl)⟩
  case hbody =>
    rintro l pre x W ⟨top, over, v, f, hM, hfl, hPP⟩ hlen
    have hxN := x.2
    have HX1 := Lib.hid (fun hn => pp_self (x := x) HP.out hPP hn)
    have HX2 := Lib.hid (fun hn ht => pp_ahead (x := x) HP.out hPP hn ht)
    have HX3 := Lib.hid (fun hn ht hd => pp_stop (x := x) HP.out hPP hn ht hd)
    have HX4 := Lib.hid (fun hn ht hd h1 h2 => pp_skip (x := x) HP.out hPP hn ht hd h1 h2)
    have HX5 := Lib.hid (fun hn ht hd ho hk => pp_hit (x := x) HP.out hPP hn ht hd ho hk)
    have HX6 := Lib.hid (fun hn ht hd ho hk => pp_miss (x := x) HP.out hPP hn ht hd ho hk)
    have hpl : (pre ++ [x]).length = pre.length + 1 := by simp
    have HPL := Lib.hid hpl
    clear hPP hpl
    have HM := Lib.hid hM
    have k3 := hM.r3.cell 0
    have k4 := hM.r4.cell 0
    have k5 := hM.r5.cell 0
    have k0 := hM.r0.cell 0
    have k1 := hM.r1.cell 0
    have k2 := hM.r2.cell 0
    have e3 := hM.r3.free 0
    have e4 := hM.r4.free 0
    have e5 := hM.r5.free 0
    have l3 := hM.r3.lt
    have l4 := hM.r4.lt
    have l5 := hM.r5.lt
    have l0 := hM.r0.lt
    have l1 := hM.r1.lt
    have l2 := hM.r2.lt
    simp at k3 k4 k5 k0 k1 k2
    clear hM
    simp only [List.getD_eq_getElem?_getD] at HX1 HX3 HX4 HX5 HX6
    generalize D[x.1]?.getD 0 = d at *
    generalize x.1 = i at *
    by_cases hn : (i : Int) = n
    · have hne : ((i : Int) == n) = true := by simpa using hn
      have hP := HX1.out hn
      clear hn
      gi_wp2
      exact ⟨KeepsOthers.setCell _ _ _, keepD_set (fun ad e => by show ad.block ≠ w.heap.size + 1 + 1 + 1 + 1; have := (HA.out ad e).1; omega), d, over, v, f, HM.out.setTop d, by rw [HPL.out]; omega, hP⟩
    · have hne : ((i : Int) == n) = false := by simpa using hn
      by_cases ht : top < 0
      · have hP := HX2.out hn ht
        gi_wp2
        exact ⟨KeepsOthers.refl _, keepD_refl _ _ _, top, over, v, f, HM.out, by rw [HPL.out]; omega, hP⟩
      · have ht2 : (top < 0) = False := eq_false ht
        by_cases hd : d ≤ top
        · have hP := HX3.out hn (by omega) hd
          gi_wp2
          exact ⟨KeepsOthers.refl _, rfl, top, over, v, f, HM.out, hP⟩
        · have hd2 : (d ≤ top) = False := eq_false hd
          by_cases ho : 0 ≤ over ∧ over < d
          · have hP := HX4.out hn (by omega) (by omega) ho.1 ho.2
            obtain ⟨ho1, ho2⟩ := ho
            gi_wp2
            exact ⟨KeepsOthers.refl _, keepD_refl _ _ _, top, over, v, f, HM.out, by rw [HPL.out]; omega, hP⟩
          · have HP5 := Lib.hid (HX5.out hn (by omega) (by omega) ho)
            have HP6 := Lib.hid (HX6.out hn (by omega) (by omega) ho)
            clear HX1 HX2 HX3 HX4 HX5 HX6
            have hiL : i < L.length := by rw [HL.out]; omega
            obtain ⟨ad, rfl, hnn⟩ := hT.out i hiL
            have hab : ad.block < w.heap.size := by have := hnn.blk; rw [block_add] at this; exact this
            have hiN2 : (i : Int) < (NL : Int) := by omega
            have HNN := Lib.hid (And.intro hnn.blk hnn.c0)
            clear hnn
            have HNK := Lib.hid (show ∀ W', Below w.heap.size w W' → W'.cell? (ad.add (i * 5)) = some (.int .i64 (nd L (i : Int)).k) from fun W' hb => (hb.cell HNN.out.1).trans HNN.out.2)
            clear HNN
            generalize (nd L (i : Int)).k = ky at *
            have hM5 := HM.out.setOver (-1)
            obtain ⟨W5, hW5⟩ : ∃ W5, W5 = W.setCell ⟨w.heap.size + 1 + 1 + 1 + 1 + 1, 0, none⟩ (.int .i64 (-1)) := ⟨_, rfl⟩
            have kd5 : KeepD A1 N W W5 := by rw [hW5]; exact keepD_set (fun ad e => by show ad.block ≠ w.heap.size + 1 + 1 + 1 + 1 + 1; have := (HA.out ad e).1; omega)
            have ot5 : KeepsOthers W W5 := by rw [hW5]; exact KeepsOthers.setCell _ _ _
            rw [← hW5] at hM5
            obtain ⟨Af, cf, rfl, hcf, hmf⟩ := own_slice hM5.ro
            rcases (show (over < 0) ∨ (0 ≤ over ∧ d ≤ over) by omega) with ho1 | ⟨ho1, ho2⟩
            · have hf : (0 ≤ over) = False := eq_false (by omega)
              gi_wp2
              rw [← hW5]
              clear hW5 k3 k4 k5 k0 k1 k2 e3 e4 e5 l3 l4 l5 l0 l1 l2
              have q0 := hM5.r0.cell 0
              have q2 := hM5.r2.cell 0
              have q3 := hM5.r3.cell 0
              have e3 := hM5.r3.free 0
              have l0 := hM5.r0.lt
              have l2 := hM5.r2.lt
              have l3 := hM5.r3.lt
              have c5 := HNK.out W5 hM5.b
              have hab5 : ad.block < W5.heap.size := (by have := hM5.b.size; omega)
              simp at q0 q2 q3
              by_cases hk : ky = kind
              · have hP := HP5.out hk
                have hke : (ky == kind) = true := by simpa using hk
                clear HP5 HP6 hk HNK
                have HM5 := Lib.hid hM5
                have hB5 := hM5.hB
                clear hM5
                gi_region
                all_goals gi_wp2_with (gi_at_builtin; refine wpListIn_append_own _ rfl _ _ 26 rfl W0.heap.size 3 j0 _ 1 8 Tryz.underlying26 hj0 jz0 jz1 jz2 rfl (by decide) (.slice Af f.length cf) f.length (intsC f) rfl (HM5.out.ro.alloc _) ⟨W5.heap.size, 0, none⟩ 1 1 [.int .i64 (i : Int)] rfl rfl (cell_one_new _ _ _) (fun u hu => by simp at hu; subst hu; rfl) (by unfold maxLen; omega) (by omega) (by simp; omega) ?_; intro v2 w2 own2 hg2 _; have hgB := own_ge HM5.out.ro; obtain ⟨A2, c2, rfl, hc2, hm2⟩ := own_slice own2; have r32 := row_grown (HM5.out.r3.drew.alloc (.cells #[.int .i64 (i : Int)] 3)) hg2 (fun e => by have := hgB _ e; omega); have r52 := row_grown (HM5.out.r5.drew.alloc (.cells #[.int .i64 (i : Int)] 3)) hg2 (fun e => by have := hgB _ e; omega); have c32 := r32.cell 0; have f32 := r32.free 0; have l32 := r32.lt; have c52 := r52.cell 0; have f52 := r52.free 0; have l52 := r52.lt; simp at c32 c52)
                all_goals
                  have hM7 := ((HM5.out.drew.alloc (.cells #[.int .i64 (i : Int)] 3)).found (f' := f ++ [(i : Int)]) hg2 (by rw [List.length_append, intsC, List.map_append]; exact own2)).setOver d
                  have hz2 := hg2.size
                  simp at hz2
                  exact ⟨(((others_drew ot5).trans (KeepsOthers.alloc _ _)).trans (others_grown (HM5.out.ro.alloc _) hg2)).trans ((KeepsOthers.setCell _ _ _).trans (KeepsOthers.setCell _ _ _)), keepD_t (keepD_drew kd5) (keepD_t (keepD_alloc _ (fun ad e => by show ad.block < W5.heap.size; have := (HA.out ad e).2; omega)) (keepD_t (keepD_grown hg2 (fun ad e => ⟨by simp; have := (HA.out ad e).2; omega, fun e2 => by have := hgB _ e2; have := (HA.out ad e).2; omega⟩)) (keepD_t (keepD_set (fun ad e => by show ad.block ≠ w.heap.size + 1 + 1 + 1; have := (HA.out ad e).1; omega)) (keepD_set (fun ad e => by show ad.block ≠ w.heap.size + 1 + 1 + 1 + 1 + 1; have := (HA.out ad e).1; omega))))), top, d, _, _, hM7, by rw [HPL.out, List.length_append]; simp; omega, hP⟩
              · have hP := HP6.out hk
                have hke : (ky == kind) = false := by simpa using hk
                clear HP5 HP6 hk HNK
                have HM5 := Lib.hid hM5
                clear hM5
                gi_region
                all_goals gi_wp2
                all_goals exact ⟨others_drew ot5, keepD_drew kd5, top, -1, _, f, HM5.out.drew, by rw [HPL.out]; omega, hP⟩
            · have hf : (over < d) = False := eq_false (by omega)
              gi_wp2
              rw [← hW5]
              clear hW5 k3 k4 k5 k0 k1 k2 e3 e4 e5 l3 l4 l5 l0 l1 l2
              have q0 := hM5.r0.cell 0
              have q2 := hM5.r2.cell 0
              have q3 := hM5.r3.cell 0
              have e3 := hM5.r3.free 0
              have l0 := hM5.r0.lt
              have l2 := hM5.r2.lt
              have l3 := hM5.r3.lt
              have c5 := HNK.out W5 hM5.b
              have hab5 : ad.block < W5.heap.size := (by have := hM5.b.size; omega)
              simp at q0 q2 q3
              by_cases hk : ky = kind
              · have hP := HP5.out hk
                have hke : (ky == kind) = true := by simpa using hk
                clear HP5 HP6 hk HNK
                have HM5 := Lib.hid hM5
                have hB5 := hM5.hB
                clear hM5
                gi_region
                all_goals gi_wp2_with (gi_at_builtin; refine wpListIn_append_own _ rfl _ _ 26 rfl W0.heap.size 3 j0 _ 1 8 Tryz.underlying26 hj0 jz0 jz1 jz2 rfl (by decide) (.slice Af f.length cf) f.length (intsC f) rfl (HM5.out.ro.alloc _) ⟨W5.heap.size, 0, none⟩ 1 1 [.int .i64 (i : Int)] rfl rfl (cell_one_new _ _ _) (fun u hu => by simp at hu; subst hu; rfl) (by unfold maxLen; omega) (by omega) (by simp; omega) ?_; intro v2 w2 own2 hg2 _; have hgB := own_ge HM5.out.ro; obtain ⟨A2, c2, rfl, hc2, hm2⟩ := own_slice own2; have r32 := row_grown (HM5.out.r3.drew.alloc (.cells #[.int .i64 (i : Int)] 3)) hg2 (fun e => by have := hgB _ e; omega); have r52 := row_grown (HM5.out.r5.drew.alloc (.cells #[.int .i64 (i : Int)] 3)) hg2 (fun e => by have := hgB _ e; omega); have c32 := r32.cell 0; have f32 := r32.free 0; have l32 := r32.lt; have c52 := r52.cell 0; have f52 := r52.free 0; have l52 := r52.lt; simp at c32 c52)
                all_goals
                  have hM7 := ((HM5.out.drew.alloc (.cells #[.int .i64 (i : Int)] 3)).found (f' := f ++ [(i : Int)]) hg2 (by rw [List.length_append, intsC, List.map_append]; exact own2)).setOver d
                  have hz2 := hg2.size
                  simp at hz2
                  exact ⟨(((others_drew ot5).trans (KeepsOthers.alloc _ _)).trans (others_grown (HM5.out.ro.alloc _) hg2)).trans ((KeepsOthers.setCell _ _ _).trans (KeepsOthers.setCell _ _ _)), keepD_t (keepD_drew kd5) (keepD_t (keepD_alloc _ (fun ad e => by show ad.block < W5.heap.size; have := (HA.out ad e).2; omega)) (keepD_t (keepD_grown hg2 (fun ad e => ⟨by simp; have := (HA.out ad e).2; omega, fun e2 => by have := hgB _ e2; have := (HA.out ad e).2; omega⟩)) (keepD_t (keepD_set (fun ad e => by show ad.block ≠ w.heap.size + 1 + 1 + 1; have := (HA.out ad e).1; omega)) (keepD_set (fun ad e => by show ad.block ≠ w.heap.size + 1 + 1 + 1 + 1 + 1; have := (HA.out ad e).1; omega))))), top, d, _, _, hM7, by rw [HPL.out, List.length_append]; simp; omega, hP⟩
              · have hP := HP6.out hk
                have hke : (ky == kind) = false := by simpa using hk
                clear HP5 HP6 hk HNK
                have HM5 := Lib.hid hM5
                clear hM5
                gi_region
                all_goals gi_wp2
                all_goals exact ⟨others_drew ot5, keepD_drew kd5, top, -1, _, f, HM5.out.drew, by rw [HPL.out]; omega, hP⟩
theorem Find_any (A : Option Addr) (L : List Nd) (c : Nat) (hc : L.length ≤ c) (hm : c ≤ maxLen) (hL : L.length ≤ 1000000) (hx : ∀ j : Nat, (nd L j).x.size ≤ 4000000) (n kind : Int) (w : World) (h : TreeAt w w.heap.size A L) (hmx : Mx w) (hw00 : 0 < w.heap.size) :
    Calls Tryz.prog 15 #[.agg #[.slice A L.length c], .int .i64 n, .int .i64 kind] w fun r w' => (∃ g v l, r = .returned (.func (.func 37) #[] #[.pointer (some ⟨g, 0, none⟩)]) ∧ Row w' g 26 #[v] ∧ w'.ownsRow w.heap.size 3 1 v l.length (intsC l) ∧ FindOf L n kind l) ∧ Below w.heap.size w w' :=
  callsIn_wide.1 (Find_in A L c hc hm hL hx n kind w h hmx hw00)
end Go.Proofs.YtjaijlkonkgnmaaGreatDoor
