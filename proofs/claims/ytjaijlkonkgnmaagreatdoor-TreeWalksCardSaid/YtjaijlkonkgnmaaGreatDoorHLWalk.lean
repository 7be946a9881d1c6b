/- The walk of chapter 3's law TreeWalks. -/
import Derived.Test.YtjaijlkonkgnmaaGreatDoorHDps
import Derived.Test.YtjaijlkonkgnmaaGreatDoorHBJ
import Derived.Test.YtjaijlkonkgnmaaGreatDoorHBL
import Derived.Laws.EntriesVeiled
import Derived.Test.YtjaijlkonkgnmaaGreatDoorHLater
namespace Go.Proofs.YtjaijlkonkgnmaaGreatDoor
set_option linter.unusedVariables false
set_option linter.unusedSimpArgs false
set_option linter.unnecessarySimpa false
open Go.RowKit
theorem min_run2 {P : Program} {w : World} (ts : Array TypeId) (t : TypeId) (k k' : IntKind) (x y : Int) : (Builtin.min_ ts t #[.int k x, .int k' y]).run P w = .ok (.int k (min x y)) w := by
  rw [run_min_int2]; congr 2; simp only [Int.min_def]; split <;> split <;> omega
attribute [local go_sem high] max_run min_run2
attribute [local go_sem] cell_alloc_add cell_set_add lt_more
theorem set_same {W : World} {g : Nat} {t : TypeId} {v : Value} (h : Row W g t #[v]) : W.setCell ⟨g, 0, none⟩ v = W := by
  have e : (W.setCell ⟨g, 0, none⟩ v).heap = W.heap := by
    apply Array.ext_getElem?
    intro i
    have hp := row_put1 h v
    by_cases c : g = i
    · subst c
      unfold Row at h hp
      rw [h, hp]
    · exact heap_setCell_other _ _ _ _ (by simpa using fun e => c e.symm)
  cases W
  simp only [World.setCell] at e ⊢
  rw [e]
theorem seqI (fn : Fn) (f c : Array Value) (w : World) : (binOp .eql 29 (.func fn f c) .nilFunc).run Tryz.prog w = .ok (.bool false) w := by
  kernel_rfl
attribute [local go_sem] seqI
/-- One step of the law's first function: it sees what it should, and counts. -/
theorem tw1_any (D : List Int) (n q : Nat) (hn : D.length = n) (hq : q < n) (hnb : n ≤ 2000000) (c : Nat) (A : Option Addr) (pO pN pW pB : Nat) (best : Int) (W : World)
    (hO : Row W pO 4 #[.bool true]) (hN : Row W pN 3 #[.int .i64 (q : Int)]) (hW : W.cell? ⟨pW, 0, none⟩ = some (.slice A n c)) (hB : Row W pB 3 #[.int .i64 best]) (hr : RdD W A D) (hne : pN ≠ pB) (hne2 : pW ≠ pB) :
    Calls Tryz.prog 9 #[.int .i64 (q : Int), .int .i64 (D.getD q 0), .pointer (some ⟨pO, 0, none⟩), .pointer (some ⟨pN, 0, none⟩), .pointer (some ⟨pW, 0, none⟩), .pointer (some ⟨pB, 0, none⟩)] W fun e W' => e = .returned (.bool true) ∧ W' = (W.setCell ⟨pB, 0, none⟩ (.int .i64 (max best (D.getD q 0)))).setCell ⟨pN, 0, none⟩ (.int .i64 ((q : Int) + 1)) := by
  have HN := Lib.hid hn
  obtain ⟨ad, rfl, hcell⟩ := hr q (by omega)
  clear hr hn
  have hs := set_same hO
  have c1 := hO.cell 0
  have c2 := hN.cell 0
  have c3 := hB.cell 0
  have f1 := hO.free 0
  have f2 := hN.free 0
  have f3 := hB.free 0
  have l1 := hO.lt
  have l2 := hN.lt
  have l3 := hB.lt
  have n1 : pO ≠ pB := fun e => by subst e; rw [c1] at c3; cases c3
  have n2 : pO ≠ pN := fun e => by subst e; rw [c1] at c2; cases c2
  simp at c1 c2 c3
  generalize D.getD q 0 = d at *
  have d2 : (W.setCell ⟨pB, 0, none⟩ (.int .i64 (max best d))).cell? ⟨pN, 0, none⟩ = some (.int .i64 (q : Int)) := by rw [World.cell?_setCell_other _ _ _ _ (by intro e; injection e with e; exact hne e.symm)]; exact c2
  have d1 : ((W.setCell ⟨pB, 0, none⟩ (.int .i64 (max best d))).setCell ⟨pN, 0, none⟩ (.int .i64 ((q : Int) + 1))).cell? ⟨pO, 0, none⟩ = some (.bool true) := by
    rw [World.cell?_setCell_other _ _ _ _ (by intro e; injection e with e; exact n2 e.symm), World.cell?_setCell_other _ _ _ _ (by intro e; injection e with e; exact n1 e.symm)]; exact c1
  have d3 : (W.setCell ⟨pB, 0, none⟩ (.int .i64 (max best d))).frozen? ⟨pN, 0, none⟩ = false := (hN.far (p := ⟨pB, 0, none⟩) hne _).free 0
  have hqn : (q : Int) < (n : Int) := by omega
  go_enter Tryz.func9, Tryz.ntmps9
  go_wp2
  go_ret
  exact ⟨rfl, rfl⟩
theorem tw2_any (q : Nat) (stop : Int) (k d : Int) (hq : q ≤ 2000000) (pN pS : Nat) (W : World) (hN : Row W pN 3 #[.int .i64 (q : Int)]) (hS : W.cell? ⟨pS, 0, none⟩ = some (.int .i64 stop)) (hne : pN ≠ pS) :
    Calls Tryz.prog 10 #[.int .i64 k, .int .i64 d, .pointer (some ⟨pN, 0, none⟩), .pointer (some ⟨pS, 0, none⟩)] W fun e W' => e = .returned (.bool (decide ((q : Int) + 1 < stop))) ∧ W' = W.setCell ⟨pN, 0, none⟩ (.int .i64 ((q : Int) + 1)) := by
  have c2 := hN.cell 0
  have f2 := hN.free 0
  have l2 := hN.lt
  have l1 := World.block_lt_of_cell? W _ hS
  simp at c2 l1
  have d1 : (W.setCell ⟨pN, 0, none⟩ (.int .i64 ((q : Int) + 1))).cell? ⟨pS, 0, none⟩ = some (.int .i64 stop) := by rw [World.cell?_setCell_other _ _ _ _ (by intro e; injection e with e; exact hne e)]; exact hS
  have d2 := (row_put1 hN (.int .i64 ((q : Int) + 1))).cell 0
  simp at d2
  go_enter Tryz.func10, Tryz.ntmps10
  go_wp2
  go_ret
  exact ⟨rfl, rfl⟩
theorem tw1_fn (args : Array Value) (w : World) : (callFunc 9 args).run Tryz.prog w = .ok (.enter 9 args) w := Tryz.call9 args w
theorem tw2_fn (args : Array Value) (w : World) : (callFunc 10 args).run Tryz.prog w = .ok (.enter 10 args) w := Tryz.call10 args w
theorem maxD_step (D : List Int) (q : Nat) (b : Int) : max (max b (maxD D q)) (D.getD q 0) = max b (maxD D (q + 1)) := by
  show _ = max b (max (maxD D q) (D.getD q 0)); omega
theorem maxD_nn (D : List Int) : ∀ q, 0 ≤ maxD D q
  | 0 => Int.le_refl _
  | q + 1 => by have := maxD_nn D q; show 0 ≤ max (maxD D q) (D.getD q 0); omega
theorem own_rdD {W : World} {base n : Nat} {D : List Int} {A : Option Addr} {c : Nat} (hn : D.length = n) (h : W.ownsRow base 3 1 (.slice A n c) n (intsC D)) : RdD W A D ∧ ∀ ad, A = some ad → ad.block < W.heap.size := by
  subst hn
  exact ⟨rdD_own h, fun ad e => own_lt h ad.block (by rw [e]; rfl)⟩
theorem rdD_lower {W W' : World} {A : Option Addr} {D : List Int} {B : Nat} (h : RdD W A D) (hA : ∀ ad, A = some ad → ad.block < B) (hb : Below B W W') : RdD W' A D := fun j hj => by
  obtain ⟨ad, e, hc⟩ := h j hj
  exact ⟨ad, e, (hb.cell (by rw [block_add]; exact hA ad e)).trans hc⟩
/-- Where the first loop stands. -/
def Jw (wr : World) (n0 bB : Nat) (b0 : Int) (D : List Int) (q : Nat) (W : World) : Prop := Row W (wr.heap.size + 1) 4 #[.bool true] ∧ Row W wr.heap.size 3 #[.int .i64 (q : Int)] ∧ Row W bB 3 #[.int .i64 (max b0 (maxD D q))] ∧ Below n0 wr W
/-- Where the second loop stands. -/
def Jv (wr : World) (stop : Int) (q : Nat) (W : World) : Prop := Row W wr.heap.size 3 #[.int .i64 (q : Int)] ∧ (q = 0 ∨ (q : Int) < stop) ∧ Below wr.heap.size wr W
def Jvx (wr : World) (stop : Int) (q : Nat) (W : World) : Prop := Row W wr.heap.size 3 #[.int .i64 (q : Int)] ∧ ¬ (q : Int) < stop ∧ (q = 1 ∨ (q : Int) - 1 < stop) ∧ Below wr.heap.size wr W
set_option maxRecDepth 100000 in
set_option maxHeartbeats 16000000 in
theorem TreeWalks_any (A : Option Addr) (L : List Nd) (c : Nat) (stop : Int) (hc : L.length ≤ c) (hm : c ≤ maxLen) (hx : ∀ j : Nat, (nd L j).ks.length ≤ 1000000000000000 ∧ (nd L j).x.size ≤ 1000000000000000) (w : World) (h : TreeAt w w.heap.size A L) (hmx : Mx w) (hw00 : 0 < w.heap.size) :
    Calls Tryz.prog 3 #[.agg #[.slice A L.length c], .int .i64 stop] w fun e w' => e = .returned (.bool true) ∧ Below w.heap.size w w' := by
  obtain ⟨wa, hwa⟩ : ∃ wa : World, wa = (w.alloc (.cells #[.slice A L.length c] 24)).alloc (.cells #[.int .i64 stop] 3) := ⟨_, rfl⟩
  have bA : Below w.heap.size w wa := by rw [hwa]; exact (by (repeat (first | (with_reducible exact Below.refl _ _) | (with_reducible assumption) | (with_reducible refine Below.setCell ?_ (by first | omega | (simp <;> omega)) _) | (with_reducible refine Below.alloc ?_ (by first | omega | (simp <;> omega)) _) | (with_reducible refine Below.drew ?_) | (with_reducible refine below_drewN ?_ _) | (with_reducible refine Below.trans ?_ (Below.mono (by with_reducible assumption) (by first | omega | (simp <;> omega)))))))
  have zA : w.heap.size + 1 < wa.heap.size := by rw [hwa]; simp
  have rT : Row wa w.heap.size 24 #[.slice A L.length c] := by rw [hwa]; exact (row_new rfl).alloc _
  have rS : Row wa (w.heap.size + 1) 3 #[.int .i64 stop] := by rw [hwa]; exact row_new (by simp)
  have HG := Lib.hid (great_any A L c hc hm hx wa (h.later bA))
  have hX := Lib.hid hmx
  have t0 := rT.cell 0
  simp at t0
  by_cases hgr : 3000 < wt L
  · rw [decide_eq_true hgr] at HG
    clear h hx
    go_enter Tryz.func3, Tryz.ntmps3
    go_upto_region 1 with fail
    rw [← hwa]
    clear hwa
    go_wp2_with (first
      | (go_at_call 6; (with_reducible refine HG.out.mono ?_); rintro e w1 ⟨rfl, b1⟩)
      | fail)
    go_ret
    exact ⟨rfl, bA.trans (b1.mono (by omega))⟩
  · rw [decide_eq_false hgr] at HG
    have hwl := wt_len L
    have hwn := Lib.hid (fun j => wt_nd L j)
    have hxx : ∀ j : Nat, (nd L j).x.size ≤ 4000000 := fun j => by have := wt_nd L j; omega
    have HD := Lib.hid (fun W (hb : Below w.heap.size w W) => rDepths_any A L c hc hm (by omega) hxx W (h.later hb))
    have HW := Lib.hid (fun W (hb : Below w.heap.size w W) => Walk_any A L c hc hm (by omega) hxx W (h.later hb) (hX.out.below hb hw00) (by have := Below.size hb; omega))
    have HP := Lib.hid (fun W (hb : Below w.heap.size w W) => Depth_any A L c hc hm (by omega) hxx W (h.later hb) (hX.out.below hb hw00) (by have := Below.size hb; omega))
    have HDP := Lib.hid (show depthL L = maxD (depsL L) (depsL L).length from rfl)
    have hdl := depsL_len L
    have hge := maxD_nn (depsL L) (depsL L).length
    clear h hx hxx hmx
    generalize depthL L = dp at *
    generalize hLn : L.length = nL at *
    clear hLn
    generalize depsL L = D at *
    generalize hDn : D.length = n at *
    have HN := Lib.hid hDn
    clear hDn
    unfold maxLen at hm
    go_enter Tryz.func3, Tryz.ntmps3
    go_upto_region 1 with fail
    rw [← hwa]
    clear hwa
    go_upto_region 4 with (first
      | (go_at_call 6; (with_reducible refine HG.out.mono ?_); rintro e w1 ⟨rfl, b1⟩; have q1 := bA.trans (b1.mono (by omega)); have z1 := Below.size b1; have rT1 := rT.below b1 (by omega); have rS1 := rS.below b1 (by omega); have t1 := rT1.cell 0; simp at t1)
      | (go_at_call 7; (with_reducible refine (HD.out _ q1).mono ?_); rintro e w2 ⟨⟨vw, rfl, how⟩, b2⟩; obtain ⟨Aw, cw, rfl, hcw, hmw⟩ := own_slice how)
      | fail)
    have q2 := q1.trans (b2.mono q1.size)
    have z2 := Below.size b2
    obtain ⟨w3, hw3⟩ : ∃ w3 : World, w3 = w2.alloc (.cells #[.slice Aw n cw] 26) := ⟨_, rfl⟩
    rw [← hw3]
    have q3 : Below w.heap.size w w3 := by rw [hw3]; exact q2.alloc (by omega) _
    have z3 : w2.heap.size < w3.heap.size := by rw [hw3]; simp
    have rT3 : Row w3 w.heap.size 24 #[.slice A nL c] := by rw [hw3]; exact (rT1.below b2 rT1.lt).alloc _
    have rS3 : Row w3 (w.heap.size + 1) 3 #[.int .i64 stop] := by rw [hw3]; exact (rS1.below b2 rS1.lt).alloc _
    obtain ⟨gW, hgW⟩ : ∃ gW, gW = w2.heap.size := ⟨_, rfl⟩
    have rW3 : Row w3 gW 26 #[.slice Aw n cw] := by rw [hw3]; exact row_new hgW
    have how3 : w3.ownsRow (w1.heap.size + 1) 3 1 (.slice Aw n cw) n (intsC D) := by rw [hw3]; exact how.alloc _
    rw [← hgW]
    have HW3 := HW.out w3 q3
    have t3 := rT3.cell 0
    have lT3 := rT3.lt
    simp at t3
    have HOW := Lib.hid how3
    clear hw3 how how3 rT rS rT1 rS1 t1 b2 t0 zA b1 z1 z2 hgW q1 q2
    go_upto_region 5 with (first
      | (go_at_call 8; (with_reducible refine HW3.mono ?_); rintro e w4 ⟨⟨rfl, vd, rD, hod⟩, b4⟩)
      | fail)
    obtain ⟨AD, cD, rfl, hcD, hmD⟩ := own_slice hod
    have lW3 := rW3.lt
    have rT4 := rT3.below b4 lT3
    have rS4 := rS3.below b4 rS3.lt
    have rW4 := rW3.below b4 lW3
    have hr4 := own_rdD HN.out (own_below HOW.out b4)
    have hd4 := own_rdD HN.out hod
    have q4 := q3.trans (b4.mono q3.size)
    have z4 := Below.size q4
    obtain ⟨gD, hgD⟩ : ∃ gD, gD = w3.heap.size + 1 := ⟨_, rfl⟩
    rw [← hgD] at rD ⊢
    have HRD := Lib.hid (show RdD w4 Aw D ∧ (∀ ad, Aw = some ad → ad.block < w4.heap.size) ∧ RdD w4 AD D ∧ (∀ ad, AD = some ad → ad.block < w4.heap.size) from ⟨hr4.1, hr4.2, hd4.1, hd4.2⟩)
    clear hgD hod HOW b4 rT3 rS3 rW3 lT3 lW3 z3 t3 HW3 q3 hr4 hd4 HW HD HG
    obtain ⟨w5, hw5⟩ : ∃ w5 : World, w5 = w4.alloc (.cells #[.int .i64 0] 3) := ⟨_, rfl⟩
    go_upto_region 8 with fail
    rw [← hw5]
    obtain ⟨gB, hgB⟩ : ∃ gB, gB = w4.heap.size := ⟨_, rfl⟩
    have rB5 : Row w5 gB 3 #[.int .i64 0] := by rw [hw5]; exact row_new hgB
    have b5 : Below gB w4 w5 := by rw [hw5, hgB]; exact (Below.refl _ _).alloc (Nat.le_refl _) _
    have HB := Lib.hid hgB
    have lT : w.heap.size < gB := by rw [hgB]; exact rT4.lt
    have lS : w.heap.size + 1 < gB := by rw [hgB]; exact rS4.lt
    have lW : gW < gB := by rw [hgB]; exact rW4.lt
    have lD : gD < gB := by rw [hgB]; exact rD.lt
    rw [← hgB]
    rw [← hgB] at HRD
    clear hw5 hgB
    go_wp2
    go_loopw [8] (fun t wr => ∃ q : Nat, q ≤ 2 ∧ t = .int .i64 (q : Int) ∧ Row wr gB 3 #[.int .i64 (if q = 0 then 0 else maxD D n)] ∧ Below gB w4 wr) (fun t _ => 2 - (intOf t).toNat)
    case atStart => exact ⟨0, by omega, rfl, rB5, b5⟩
    case round =>
      obtain ⟨q, hq, rfl, rB, hb⟩ := hrel
      clear rB5 b5
      generalize hwo : wr = wo at *
      clear hwo
      have rTo := rT4.below hb lT
      have rSo := rS4.below hb lS
      have rWo := rW4.below hb lW
      have rDo := rD.below hb lD
      have lB := rB.lt
      have hRo : RdD wo Aw D := rdD_lower HRD.out.1 HRD.out.2.1 hb
      have hDo : RdD wo AD D := rdD_lower HRD.out.2.2.1 HRD.out.2.2.2 hb
      by_cases hlt : q < 2
      · have HCALL := Lib.hid (fun (wc : World) (hwc : wc = (wo.alloc (.cells #[.int .i64 0] 3)).alloc (.cells #[.bool true] 4)) =>
          Walk1_call 9 #[.pointer (some ⟨wo.heap.size + 1, 0, none⟩), .pointer (some ⟨wo.heap.size, 0, none⟩), .pointer (some ⟨gW, 0, none⟩), .pointer (some ⟨gB, 0, none⟩)] gD D n HN.out (by omega) AD cD hcD hmD (Jw wo gB gB (if q = 0 then 0 else maxD D n) D) (fun _ _ => False) tw1_fn
            (fun q1 W hJ => rdD_lower HRD.out.2.2.1 HRD.out.2.2.2 (hb.trans hJ.2.2.2))
            (fun q1 W hq1 hJ => (tw1_any D n q1 HN.out hq1 (by omega) cw Aw (wo.heap.size + 1) wo.heap.size gW gB _ W hJ.1 hJ.2.1 ((hJ.2.2.2.cell (p := ⟨gW, 0, none⟩) lW).trans (rWo.cell 0)) hJ.2.2.1 (rdD_lower HRD.out.1 HRD.out.2.1 (hb.trans hJ.2.2.2)) (by omega) (by omega)).mono fun e W' ⟨he, hw'⟩ => .inl ⟨he, by
              subst hw'
              refine ⟨(hJ.1.far (by show wo.heap.size + 1 ≠ gB; omega) _).far (by show wo.heap.size + 1 ≠ wo.heap.size; omega) _, ?_, ?_, ?_⟩
              · have := row_put1 (hJ.2.1.far (p := ⟨gB, 0, none⟩) (by show wo.heap.size ≠ gB; omega) (.int .i64 (max (max (if q = 0 then 0 else maxD D n) (maxD D q1)) (D.getD q1 0)))) (.int .i64 ((q1 : Int) + 1))
                rw [show ((q1 + 1 : Nat) : Int) = (q1 : Int) + 1 by omega]
                exact this
              · have := (row_put1 hJ.2.2.1 (.int .i64 (max (max (if q = 0 then 0 else maxD D n) (maxD D q1)) (D.getD q1 0)))).far (p := ⟨wo.heap.size, 0, none⟩) (by show gB ≠ wo.heap.size; omega) (.int .i64 ((q1 : Int) + 1))
                rw [← maxD_step D q1]
                exact this
              · exact (hJ.2.2.2.setCell (by show gB ≤ gB; omega) _).setCell (by show gB ≤ wo.heap.size; omega) _⟩) wc (by subst hwc; exact (((rDo.alloc _).alloc _).cell 0)) ⟨by subst hwc; exact row_new (by simp), by subst hwc; exact (row_new rfl).alloc _, by
              subst hwc
              have h0 : max (if q = 0 then 0 else maxD D n) (maxD D 0) = (if q = 0 then 0 else maxD D n) := by
                show max (if q = 0 then 0 else maxD D n) 0 = _
                split <;> omega
              rw [h0]
              exact (rB.alloc _).alloc _, by subst hwc; exact ((Below.refl _ _).alloc (by omega) _).alloc (by simp; omega) _⟩)
        have hb0 : max (if q = 0 then 0 else maxD D n) (maxD D n) = maxD D n := by split <;> omega
        have HB0 := Lib.hid hb0
        clear hb0
        go_upto_region 14 with (first
          | (go_at_call 20; (with_reducible refine (HCALL.out _ rfl).mono ?_); rintro e w6 ⟨⟨v6, rfl⟩, hJ⟩)
          | fail)
        obtain ⟨ro, rn, rb, b6⟩ := hJ.resolve_right (by rintro ⟨_, _, _, h⟩; exact h)
        rw [HB0.out] at rb
        have o0 := ro.cell 0
        have n0 := rn.cell 0
        have w0 := (b6.cell (p := ⟨gW, 0, none⟩) lW).trans (rWo.cell 0)
        have hq6 : gB ≤ w6.heap.size := by have := b6.size; omega
        have hnn : ((n : Int) != (n : Int)) = false := by simp
        simp at o0 n0 w0
        clear hJ HCALL rTo rSo rWo rDo hRo hDo
        go_wp2
        refine ⟨⟨q + 1, by omega, by go_num, ?_, hb.trans b6⟩, by simp [intOf]; omega⟩
        rw [if_neg (by omega)]
        exact rb
      · obtain rfl : q = 2 := by omega
        rw [if_neg (by omega)] at rB
        have HCALL := Lib.hid (fun (wc : World) (hwc : wc = wo.alloc (.cells #[.int .i64 0] 3)) =>
          Walk1_call 10 #[.pointer (some ⟨wo.heap.size, 0, none⟩), .pointer (some ⟨w.heap.size + 1, 0, none⟩)] gD D n HN.out (by omega) AD cD hcD hmD (Jv wo stop) (Jvx wo stop) tw2_fn
            (fun q1 W hJ => rdD_lower HRD.out.2.2.1 HRD.out.2.2.2 (hb.trans (hJ.2.2.mono (by omega))))
            (fun q1 W hq1 hJ => (tw2_any q1 stop q1 (D.getD q1 0) (by omega) wo.heap.size (w.heap.size + 1) W hJ.1 ((hJ.2.2.cell (p := ⟨w.heap.size + 1, 0, none⟩) (by show w.heap.size + 1 < wo.heap.size; omega)).trans (rSo.cell 0)) (by omega)).mono fun e W' ⟨he, hw'⟩ => by
              subst hw'
              have hr := row_put1 hJ.1 (.int .i64 ((q1 : Int) + 1))
              rw [show (q1 : Int) + 1 = ((q1 + 1 : Nat) : Int) by omega] at hr he ⊢
              have hbb := hJ.2.2.setCell (p := ⟨wo.heap.size, 0, none⟩) (by show wo.heap.size ≤ wo.heap.size; omega) (.int .i64 ((q1 + 1 : Nat) : Int))
              by_cases hs : ((q1 + 1 : Nat) : Int) < stop
              · rw [decide_eq_true hs] at he
                exact .inl ⟨he, hr, .inr hs, hbb⟩
              · rw [decide_eq_false hs] at he
                exact .inr ⟨he, hr, hs, by rcases hJ.2.1 with h | h <;> omega, hbb⟩) wc (by subst hwc; exact ((rDo.alloc _).cell 0)) ⟨by subst hwc; exact row_new rfl, .inl rfl, by subst hwc; exact (Below.refl _ _).alloc (Nat.le_refl _) _⟩)
        go_upto_region 18 with (first
          | (go_at_call 20; (with_reducible refine (HCALL.out _ rfl).mono ?_); rintro e w7 ⟨⟨v7, rfl⟩, hJ⟩)
          | fail)
        obtain ⟨q7, r7, hm7, b7⟩ : ∃ q7 : Nat, Row w7 wo.heap.size 3 #[.int .i64 (q7 : Int)] ∧ (q7 : Int) = min (n : Int) (max 1 stop) ∧ Below wo.heap.size wo w7 := by
          rcases hJ with ⟨h1, h2, h3⟩ | ⟨q7, h0, h1, h2, h3, h4, h5⟩
          · exact ⟨n, h1, by omega, h3⟩
          · exact ⟨q7, h2, by omega, h5⟩
        have hz := Below.size hb
        have b4 := q4.trans (hb.mono (by omega))
        have b07 := b4.trans (b7.mono (by omega))
        have z7 := Below.size b7
        have r2 := rTo.below b7 (by omega)
        have r3 := rSo.below b7 (by omega)
        have r5 := rWo.below b7 (by omega)
        have r8 := rB.below b7 (by omega)
        have e1 := r7.cell 0
        have e2 := r2.cell 0
        have e3 := r3.cell 0
        have e5 := r5.cell 0
        have e8 := r8.cell 0
        simp at e1 e2 e3 e5 e8
        have hqb : ((q7 : Int) == min (n : Int) (max 1 stop)) = true := by simpa using hm7
        have edp := HDP.out
        subst edp
        have hz7 := Below.size b07
        have KP := Lib.hid (fun x : Later w7 => HP.out x.w (b07.trans (x.h.mono hz7)))
        have KKN := Lib.hid (fun x : Later w7 => known_any x.w (hX.out.below (B := w.heap.size) (b07.trans (x.h.mono hz7)) hw00) (by have := Below.size (b07.trans (x.h.mono hz7)); omega))
        have l1 := r7.lt
        have l2 := r2.lt
        have l3 := r3.lt
        have l5 := r5.lt
        have l8 := r8.lt
        have L1 : ∀ x : Later w7, x.w.cell? ⟨wo.heap.size, 0, none⟩ = some (.int .i64 q7) := fun x => (x.cell l1).trans e1
        have L2 : ∀ x : Later w7, x.w.cell? ⟨w.heap.size, 0, none⟩ = some (.agg #[.slice A nL c]) ∨ True := fun x => .inr trivial
        have L2' : ∀ x : Later w7, x.w.cell? ⟨w.heap.size, 0, none⟩ = some (.slice A nL c) := fun x => (x.cell l2).trans e2
        have L3 : ∀ x : Later w7, x.w.cell? ⟨w.heap.size + 1, 0, none⟩ = some (.int .i64 stop) := fun x => (x.cell l3).trans e3
        have L5 : ∀ x : Later w7, x.w.cell? ⟨gW, 0, none⟩ = some (.slice Aw n cw) := fun x => (x.cell l5).trans e5
        have L8 : ∀ x : Later w7, x.w.cell? ⟨gB, 0, none⟩ = some (.int .i64 (maxD D n)) := fun x => (x.cell l8).trans e8
        have L0 : Below w7.heap.size w7 w7 := Below.refl _ _
        clear HCALL hJ rTo rSo rWo rDo hRo hDo r2 r3 r5 r7 r8 e1 e2 e3 e5 e8 hm7 L2
        refine wp_region_later w7 L0 (by kernel_rfl) (by kernel_rfl) ?_
        repeat (first | go_big_quiet_step (first | with_reducible exact Later.call (KP.out _) | with_reducible exact Later.call (KKN.out _)) | quiet_step (first | with_reducible exact Later.call (KP.out _) | with_reducible exact Later.call (KKN.out _)))
        refine wpQuiet_nil ?_
        intro _ hw'
        obtain ⟨xq, hw''⟩ := hw'
        subst hw''
        go_wp2
        go_ret
        exact ⟨rfl, b07.trans (xq.h.mono hz7)⟩
end Go.Proofs.YtjaijlkonkgnmaaGreatDoor
