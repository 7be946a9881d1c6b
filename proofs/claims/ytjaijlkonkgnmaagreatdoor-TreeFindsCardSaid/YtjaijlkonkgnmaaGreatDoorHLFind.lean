/- The walk of chapter 3's law TreeFinds. -/
import Derived.Test.YtjaijlkonkgnmaaGreatDoorHRFd
import Derived.Test.YtjaijlkonkgnmaaGreatDoorHFnd
import Derived.Test.YtjaijlkonkgnmaaGreatDoorHBL
import Derived.Laws.EntriesVeiled
import Derived.Test.YtjaijlkonkgnmaaGreatDoorHLater
namespace Go.Proofs.YtjaijlkonkgnmaaGreatDoor
set_option linter.unusedVariables false
set_option linter.unusedSimpArgs false
set_option linter.unnecessarySimpa false
open Go.RowKit
theorem min_run2 {P : Program} {w : World} (ts : Array TypeId) (t : TypeId) (k k' : IntKind) (x y : Int) : (Builtin.min_ ts t #[.int k x, .int k' y]).run P w = .ok (.int k (min x y)) w := by
  rw [run_min_int2]; congr 2; simp only [Int.min_def]; split <;> split <;> omega
attribute [local go_sem high] max_run min_run2
attribute [local go_sem] cell_alloc_add cell_set_add lt_more
theorem set_same {W : World} {g : Nat} {t : TypeId} {v : Value} (h : Row W g t #[v]) : W.setCell ⟨g, 0, none⟩ v = W := by
  have e : (W.setCell ⟨g, 0, none⟩ v).heap = W.heap := by
    apply Array.ext_getElem?
    intro i
    have hp := row_put1 h v
    by_cases c : g = i
    · subst c
      unfold Row at h hp
      rw [h, hp]
    · exact heap_setCell_other _ _ _ _ (by simpa using fun e => c e.symm)
  cases W
  simp only [World.setCell] at e ⊢
  rw [e]
theorem seqI1 (fn : Fn) (f c : Array Value) (w : World) : (binOp .eql 37 (.func fn f c) .nilFunc).run Tryz.prog w = .ok (.bool false) w := by
  kernel_rfl
attribute [local go_sem] seqI1
/-- One step of the law's first function: it sees what it should, and counts. -/
theorem tf1_any (D : List Int) (n q : Nat) (hn : D.length = n) (hq : q < n) (hnb : n ≤ 2000000) (c : Nat) (A : Option Addr) (pO pN pW : Nat) (W : World)
    (hO : Row W pO 4 #[.bool true]) (hN : Row W pN 3 #[.int .i64 (q : Int)]) (hW : W.cell? ⟨pW, 0, none⟩ = some (.slice A n c)) (hr : RdD W A D) :
    Calls Tryz.prog 16 #[.int .i64 (D.getD q 0), .pointer (some ⟨pO, 0, none⟩), .pointer (some ⟨pN, 0, none⟩), .pointer (some ⟨pW, 0, none⟩)] W fun e W' => e = .returned (.bool true) ∧ W' = W.setCell ⟨pN, 0, none⟩ (.int .i64 ((q : Int) + 1)) := by
  have HN := Lib.hid hn
  obtain ⟨ad, rfl, hcell⟩ := hr q (by omega)
  clear hr hn
  have hs := set_same hO
  have c1 := hO.cell 0
  have c2 := hN.cell 0
  have f1 := hO.free 0
  have f2 := hN.free 0
  have l1 := hO.lt
  have l2 := hN.lt
  have n2 : pO ≠ pN := fun e => by subst e; rw [c1] at c2; cases c2
  simp at c1 c2
  generalize D.getD q 0 = d at *
  have d1 : (W.setCell ⟨pN, 0, none⟩ (.int .i64 ((q : Int) + 1))).cell? ⟨pO, 0, none⟩ = some (.bool true) := by
    rw [World.cell?_setCell_other _ _ _ _ (by intro e; injection e with e; exact n2 e.symm)]; exact c1
  have hqn : (q : Int) < (n : Int) := by omega
  go_enter Tryz.func16, Tryz.ntmps16
  go_wp2
  go_ret
  exact ⟨rfl, rfl⟩
theorem tf2_any (q : Nat) (stop : Int) (k : Int) (hq : q ≤ 2000000) (pN pS : Nat) (W : World) (hN : Row W pN 3 #[.int .i64 (q : Int)]) (hS : W.cell? ⟨pS, 0, none⟩ = some (.int .i64 stop)) (hne : pN ≠ pS) :
    Calls Tryz.prog 17 #[.int .i64 k, .pointer (some ⟨pN, 0, none⟩), .pointer (some ⟨pS, 0, none⟩)] W fun e W' => e = .returned (.bool (decide ((q : Int) + 1 < stop))) ∧ W' = W.setCell ⟨pN, 0, none⟩ (.int .i64 ((q : Int) + 1)) := by
  have c2 := hN.cell 0
  have f2 := hN.free 0
  have l2 := hN.lt
  have l1 := World.block_lt_of_cell? W _ hS
  simp at c2 l1
  have d1 : (W.setCell ⟨pN, 0, none⟩ (.int .i64 ((q : Int) + 1))).cell? ⟨pS, 0, none⟩ = some (.int .i64 stop) := by rw [World.cell?_setCell_other _ _ _ _ (by intro e; injection e with e; exact hne e)]; exact hS
  have d2 := (row_put1 hN (.int .i64 ((q : Int) + 1))).cell 0
  simp at d2
  go_enter Tryz.func17, Tryz.ntmps17
  go_wp2
  go_ret
  exact ⟨rfl, rfl⟩
theorem tf1_fn (args : Array Value) (w : World) : (callFunc 16 args).run Tryz.prog w = .ok (.enter 16 args) w := Tryz.call16 args w
theorem tf2_fn (args : Array Value) (w : World) : (callFunc 17 args).run Tryz.prog w = .ok (.enter 17 args) w := Tryz.call17 args w
theorem own_rdD {W : World} {base n : Nat} {D : List Int} {A : Option Addr} {c : Nat} (hn : D.length = n) (h : W.ownsRow base 3 1 (.slice A n c) n (intsC D)) : RdD W A D ∧ ∀ ad, A = some ad → ad.block < W.heap.size := by
  subst hn
  exact ⟨rdD_own h, fun ad e => own_lt h ad.block (by rw [e]; rfl)⟩
theorem rdD_lower {W W' : World} {A : Option Addr} {D : List Int} {B : Nat} (h : RdD W A D) (hA : ∀ ad, A = some ad → ad.block < B) (hb : Below B W W') : RdD W' A D := fun j hj => by
  obtain ⟨ad, e, hc⟩ := h j hj
  exact ⟨ad, e, (hb.cell (by rw [block_add]; exact hA ad e)).trans hc⟩
/-- Where the first call of the iterator stands. -/
def Jf (wr : World) (gK : Nat) (q : Nat) (W : World) : Prop := Row W (gK + 1) 4 #[.bool true] ∧ Row W gK 3 #[.int .i64 (q : Int)] ∧ Below gK wr W
/-- Where the second call stands. -/
def Jg (wr : World) (gK : Nat) (stop : Int) (q : Nat) (W : World) : Prop := Row W gK 3 #[.int .i64 (q : Int)] ∧ (q = 0 ∨ (q : Int) < stop) ∧ Below gK wr W
def Jgx (wr : World) (gK : Nat) (stop : Int) (q : Nat) (W : World) : Prop := Row W gK 3 #[.int .i64 (q : Int)] ∧ ¬ (q : Int) < stop ∧ (q = 1 ∨ (q : Int) - 1 < stop) ∧ Below gK wr W
set_option maxRecDepth 100000 in
set_option maxHeartbeats 16000000 in
theorem TreeFinds_any (A : Option Addr) (L : List Nd) (c : Nat) (nn kind stop : Int) (hc : L.length ≤ c) (hm : c ≤ maxLen) (hx : ∀ j : Nat, (nd L j).ks.length ≤ 1000000000000000 ∧ (nd L j).x.size ≤ 1000000000000000) (w : World) (h : TreeAt w w.heap.size A L) (hmx : Mx w) (hw00 : 0 < w.heap.size) :
    Calls Tryz.prog 5 #[.agg #[.slice A L.length c], .int .i64 nn, .int .i64 kind, .int .i64 stop] w fun e w' => e = .returned (.bool true) ∧ Below w.heap.size w w' := by
  obtain ⟨wa, hwa⟩ : ∃ wa : World, wa = (w.alloc (.cells #[.slice A L.length c] 24)).alloc (.cells #[.int .i64 stop] 3) := ⟨_, rfl⟩
  have bA : Below w.heap.size w wa := by rw [hwa]; exact (by (repeat (first | (with_reducible exact Below.refl _ _) | (with_reducible assumption) | (with_reducible refine Below.setCell ?_ (by first | omega | (simp <;> omega)) _) | (with_reducible refine Below.alloc ?_ (by first | omega | (simp <;> omega)) _) | (with_reducible refine Below.drew ?_) | (with_reducible refine below_drewN ?_ _) | (with_reducible refine Below.trans ?_ (Below.mono (by with_reducible assumption) (by first | omega | (simp <;> omega)))))))
  have zA : w.heap.size + 1 < wa.heap.size := by rw [hwa]; simp
  have rT : Row wa w.heap.size 24 #[.slice A L.length c] := by rw [hwa]; exact (row_new rfl).alloc _
  have rS : Row wa (w.heap.size + 1) 3 #[.int .i64 stop] := by rw [hwa]; exact row_new (by simp)
  have HG := Lib.hid (great_any A L c hc hm hx wa (h.later bA))
  have hX := Lib.hid hmx
  have t0 := rT.cell 0
  simp at t0
  by_cases hgr : 3000 < wt L
  · rw [decide_eq_true hgr] at HG
    clear h hx
    go_enter Tryz.func5, Tryz.ntmps5
    go_upto_region 1 with fail
    rw [← hwa]
    clear hwa
    go_wp2_with (first
      | (go_at_call 6; (with_reducible refine HG.out.mono ?_); rintro e w1 ⟨rfl, b1⟩)
      | fail)
    go_ret
    exact ⟨rfl, bA.trans (b1.mono (by omega))⟩
  · rw [decide_eq_false hgr] at HG
    have hwl := wt_len L
    have hxx : ∀ j : Nat, (nd L j).x.size ≤ 4000000 := fun j => by have := wt_nd L j; omega
    have HD := Lib.hid (fun W (hb : Below w.heap.size w W) => rFind_any A L L.length c rfl hc hm (by omega) hxx nn kind W (h.later hb))
    have HW := Lib.hid (fun W (hb : Below w.heap.size w W) => Find_any A L c hc hm (by omega) hxx nn kind W (h.later hb) (hX.out.below hb hw00) (by have := Below.size hb; omega))
    have HDET := Lib.hid (fun l l' (h1 : FindOf L nn kind l) (h2 : FindOf L nn kind l') => findOf_det h1 h2)
    have HLEN := Lib.hid (fun l (h1 : FindOf L nn kind l) => findOf_len h1)
    clear h hx hxx hmx
    generalize hLn : L.length = nL at *
    clear hLn
    unfold maxLen at hm
    go_enter Tryz.func5, Tryz.ntmps5
    go_upto_region 1 with fail
    rw [← hwa]
    clear hwa
    go_upto_region 4 with (first
      | (go_at_call 6; (with_reducible refine HG.out.mono ?_); rintro e w1 ⟨rfl, b1⟩; have q1 := bA.trans (b1.mono (by omega)); have z1 := Below.size b1; have rT1 := rT.below b1 (by omega); have rS1 := rS.below b1 (by omega); have t1 := rT1.cell 0; simp at t1)
      | (go_at_call 14; (with_reducible refine (HD.out _ q1).mono ?_); rintro e w2 ⟨⟨vw, D, rfl, how, hF⟩, b2⟩; obtain ⟨Aw, cw, rfl, hcw, hmw⟩ := own_slice how)
      | fail)
    have hnL := HLEN.out D hF
    generalize hDn : D.length = n at *
    have HN := Lib.hid hDn
    clear hDn
    have q2 := q1.trans (b2.mono q1.size)
    have z2 := Below.size b2
    obtain ⟨w3, hw3⟩ : ∃ w3 : World, w3 = w2.alloc (.cells #[.slice Aw n cw] 26) := ⟨_, rfl⟩
    rw [← hw3]
    have q3 : Below w.heap.size w w3 := by rw [hw3]; exact q2.alloc (by omega) _
    have z3 : w2.heap.size < w3.heap.size := by rw [hw3]; simp
    have rT3 : Row w3 w.heap.size 24 #[.slice A nL c] := by rw [hw3]; exact (rT1.below b2 rT1.lt).alloc _
    have rS3 : Row w3 (w.heap.size + 1) 3 #[.int .i64 stop] := by rw [hw3]; exact (rS1.below b2 rS1.lt).alloc _
    obtain ⟨gW, hgW⟩ : ∃ gW, gW = w2.heap.size := ⟨_, rfl⟩
    have rW3 : Row w3 gW 26 #[.slice Aw n cw] := by rw [hw3]; exact row_new hgW
    have how3 : w3.ownsRow w1.heap.size 3 1 (.slice Aw n cw) n (intsC D) := by rw [hw3]; exact how.alloc _
    rw [← hgW]
    have HW3 := Lib.hid ((HW.out w3 q3).mono (R' := fun r w' => (∃ g v, r = .returned (.func (.func 37) #[] #[.pointer (some ⟨g, 0, none⟩)]) ∧ Row w' g 26 #[v] ∧ w'.ownsRow w3.heap.size 3 1 v n (intsC D)) ∧ Below w3.heap.size w3 w') (fun r w' ⟨⟨g, v, l, h1, h2, h3, h4⟩, h5⟩ => by
      have e := HDET.out _ _ h4 hF
      rw [e] at h3
      rw [HN.out] at h3
      exact ⟨⟨g, v, h1, h2, h3⟩, h5⟩))
    have t3 := rT3.cell 0
    have lT3 := rT3.lt
    simp at t3
    have HOW := Lib.hid how3
    clear hw3 how how3 rT rS rT1 rS1 t1 b2 t0 zA b1 z1 z2 hgW q1 q2 hF HW HD HDET HLEN
    go_upto_region 5 with (first
      | (go_at_call 15; (with_reducible refine HW3.out.mono ?_); rintro e w4 ⟨⟨gD, vd, rfl, rD, hod⟩, b4⟩)
      | fail)
    obtain ⟨AD, cD, rfl, hcD, hmD⟩ := own_slice hod
    have lW3 := rW3.lt
    have rT4 := rT3.below b4 lT3
    have rS4 := rS3.below b4 rS3.lt
    have rW4 := rW3.below b4 lW3
    have hr4 := own_rdD HN.out (own_below HOW.out b4)
    have hd4 := own_rdD HN.out hod
    have q4 := q3.trans (b4.mono q3.size)
    have z4 := Below.size q4
    have HRD := Lib.hid (show RdD w4 Aw D ∧ (∀ ad, Aw = some ad → ad.block < w4.heap.size) ∧ RdD w4 AD D ∧ (∀ ad, AD = some ad → ad.block < w4.heap.size) from ⟨hr4.1, hr4.2, hd4.1, hd4.2⟩)
    clear hod HOW b4 rT3 rS3 rW3 lT3 lW3 z3 t3 HW3 q3 hr4 hd4 HG
    obtain ⟨w5, hw5⟩ : ∃ w5 : World, w5 = (w4.alloc (.cells #[.int .i64 0] 3)).alloc (.cells #[.bool true] 4) := ⟨_, rfl⟩
    go_upto_region 9 with fail
    rw [← hw5]
    obtain ⟨gK, hgK⟩ : ∃ gK, gK = w4.heap.size := ⟨_, rfl⟩
    have rK5 : Row w5 gK 3 #[.int .i64 0] := by rw [hw5]; exact (row_new hgK).alloc _
    have rO5 : Row w5 (gK + 1) 4 #[.bool true] := by rw [hw5]; exact row_new (by rw [hgK]; simp)
    have b5 : Below gK w4 w5 := by rw [hw5, hgK]; exact ((Below.refl _ _).alloc (Nat.le_refl _) _).alloc (by simp) _
    have lT : w.heap.size < gK := by rw [hgK]; exact rT4.lt
    have lS : w.heap.size + 1 < gK := by rw [hgK]; exact rS4.lt
    have lW : gW < gK := by rw [hgK]; exact rW4.lt
    have lD : gD < gK := by rw [hgK]; exact rD.lt
    rw [← hgK]
    rw [← hgK] at HRD
    have hK4 : gK ≤ w4.heap.size := by omega
    clear hw5 hgK
    have HCALL := Lib.hid (Values1_call 16 #[.pointer (some ⟨gK + 1, 0, none⟩), .pointer (some ⟨gK, 0, none⟩), .pointer (some ⟨gW, 0, none⟩)] gD D n HN.out (by omega) AD cD hcD hmD (Jf w5 gK) (fun _ _ => False) tf1_fn
        (fun q1 W hJ => rdD_lower HRD.out.2.2.1 HRD.out.2.2.2 (b5.trans hJ.2.2))
        (fun q1 W hq1 hJ => (tf1_any D n q1 HN.out hq1 (by omega) cw Aw (gK + 1) gK gW W hJ.1 hJ.2.1 (((b5.trans hJ.2.2).cell (p := ⟨gW, 0, none⟩) lW).trans (rW4.cell 0)) (rdD_lower HRD.out.1 HRD.out.2.1 (b5.trans hJ.2.2))).mono fun e W' ⟨he, hw'⟩ => .inl ⟨he, by
          subst hw'
          refine ⟨hJ.1.far (by show gK + 1 ≠ gK; omega) _, ?_, hJ.2.2.setCell (by show gK ≤ gK; omega) _⟩
          rw [show ((q1 + 1 : Nat) : Int) = (q1 : Int) + 1 by omega]
          exact row_put1 hJ.2.1 _⟩) w5 ((b5.cell (p := ⟨gD, 0, none⟩) lD).trans (rD.cell 0)) ⟨rO5, rK5, Below.refl _ _⟩)
    go_upto_region 10 with (first
      | (go_at_call 37; (with_reducible refine HCALL.out.mono ?_); rintro e w6 ⟨⟨v6, rfl⟩, hJ⟩)
      | fail)
    obtain ⟨ro, rn, b6⟩ := hJ.resolve_right (by rintro ⟨_, _, _, h⟩; exact h)
    have b46 := b5.trans b6
    have o0 := ro.cell 0
    have n0 := rn.cell 0
    have nf := rn.free 0
    have nl := rn.lt
    have w0 := (b46.cell (p := ⟨gW, 0, none⟩) lW).trans (rW4.cell 0)
    have hq6 : gK ≤ w6.heap.size := by have := b46.size; omega
    have hnn : ((n : Int) != (n : Int)) = false := by simp
    simp at o0 n0 w0
    clear hJ HCALL
    have q6 := q4.trans (b46.mono (by omega))
    obtain ⟨w7, hw7⟩ : ∃ w7 : World, w7 = w6.setCell ⟨gK, 0, none⟩ (.int .i64 0) := ⟨_, rfl⟩
    have rK7 : Row w7 gK 3 #[.int .i64 0] := by rw [hw7]; exact row_put1 rn _
    have b67 : Below gK w6 w7 := by rw [hw7]; exact (Below.refl _ _).setCell (by show gK ≤ gK; omega) _
    have b47 := b46.trans b67
    have HCALL := Lib.hid (Values1_call 17 #[.pointer (some ⟨gK, 0, none⟩), .pointer (some ⟨w.heap.size + 1, 0, none⟩)] gD D n HN.out (by omega) AD cD hcD hmD (Jg w7 gK stop) (Jgx w7 gK stop) tf2_fn
        (fun q1 W hJ => rdD_lower HRD.out.2.2.1 HRD.out.2.2.2 (b47.trans hJ.2.2))
        (fun q1 W hq1 hJ => (tf2_any q1 stop (D.getD q1 0) (by omega) gK (w.heap.size + 1) W hJ.1 (((b47.trans hJ.2.2).cell (p := ⟨w.heap.size + 1, 0, none⟩) lS).trans (rS4.cell 0)) (by omega)).mono fun e W' ⟨he, hw'⟩ => by
          subst hw'
          have hr := row_put1 hJ.1 (.int .i64 ((q1 : Int) + 1))
          rw [show (q1 : Int) + 1 = ((q1 + 1 : Nat) : Int) by omega] at hr he ⊢
          have hbb := hJ.2.2.setCell (p := ⟨gK, 0, none⟩) (by show gK ≤ gK; omega) (.int .i64 ((q1 + 1 : Nat) : Int))
          by_cases hs : ((q1 + 1 : Nat) : Int) < stop
          · rw [decide_eq_true hs] at he
            exact .inl ⟨he, hr, .inr hs, hbb⟩
          · rw [decide_eq_false hs] at he
            exact .inr ⟨he, hr, hs, by rcases hJ.2.1 with h | h <;> omega, hbb⟩) w7 ((b47.cell (p := ⟨gD, 0, none⟩) lD).trans (rD.cell 0)) ⟨rK7, .inl rfl, Below.refl _ _⟩)
    go_upto_region 13 with fail
    rw [← hw7]
    clear hw7
    go_upto_region 14 with (first
      | (go_at_call 37; (with_reducible refine HCALL.out.mono ?_); rintro e w8 ⟨⟨v8, rfl⟩, hJ⟩)
      | fail)
    obtain ⟨q8, r8, hm8, b8⟩ : ∃ q8 : Nat, Row w8 gK 3 #[.int .i64 (q8 : Int)] ∧ (q8 : Int) = min (n : Int) (max 1 stop) ∧ Below gK w7 w8 := by
      rcases hJ with ⟨h1, h2, h3⟩ | ⟨q7, h0, h1, h2, h3, h4, h5⟩
      · exact ⟨n, h1, by omega, h3⟩
      · exact ⟨q7, h2, by omega, h5⟩
    have b48 := b47.trans b8
    have q8' := q4.trans (b48.mono (by omega))
    have r5 := rW4.below b48 lW
    have r3 := rS4.below b48 lS
    have e1 := r8.cell 0
    have e3 := r3.cell 0
    have e5 := r5.cell 0
    simp at e1 e3 e5
    have hqb : ((q8 : Int) == min (n : Int) (max 1 stop)) = true := by simpa using hm8
    have hz8 := Below.size q8'
    clear hJ HCALL hm8
    go_wp2_with (first
      | (go_at_call 12; (with_reducible refine (known_any _ (hX.out.below (B := w.heap.size) q8' hw00) (by omega)).mono ?_); rintro e wk ⟨rfl, bk⟩)
      | fail)
    go_ret
    exact ⟨rfl, q8'.trans (bk.mono hz8)⟩
end Go.Proofs.YtjaijlkonkgnmaaGreatDoor
