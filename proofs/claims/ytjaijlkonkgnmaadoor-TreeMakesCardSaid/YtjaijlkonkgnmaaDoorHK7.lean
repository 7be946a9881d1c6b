/- The walks of what the program's fits calls: a kid's kind, a union's kids. -/
import Derived.Test.YtjaijlkonkgnmaaDoorHK6
namespace Go.Proofs.YtjaijlkonkgnmaaDoor
set_option linter.unusedVariables false
set_option linter.unusedSimpArgs false
set_option linter.unnecessarySimpa false
open Go.RowKit
attribute [local go_sem] cell_alloc_add cell_set_add lt_more
theorem kindOf_any (A : Option Addr) (L : List Nd) (c : Nat) (hc : L.length ≤ c) (hm : c ≤ maxLen) (g g' : Nat) (K : Option Addr) (ks : List Int) (n kc : Nat) (hn : ks.length = n) (hkc : n ≤ kc) (hkm : kc ≤ maxLen) (w : World) (h : TreeAt w w.heap.size A L)
    (hg : w.cell? ⟨g, 0, none⟩ = some (.slice A L.length c)) (hg' : w.cell? ⟨g', 3, none⟩ = some (.slice K n kc)) (hK : Rd w w.heap.size K n (ksV ks)) (q : Nat) (z : Int) (hz : (q : Int) = z) (hq : q < n) (hin : inL L (ks.getD q 0) = true) :
    Calls Tryd.prog 34 #[.int .i64 z, .pointer (some ⟨g, 0, none⟩), .pointer (some ⟨g', 0, none⟩)] w fun e w' => e = .returned (.int .i64 (nd L (ks.getD q 0)).k) ∧ Below w.heap.size w w' := by
  subst hz
  obtain ⟨kd, hKd, hkb, kcell⟩ := hK q hq
  subst hKd
  replace kcell : w.cell? (kd.add q) = some (.int .i64 (ks.getD q 0)) := kcell
  obtain ⟨xn, hxe, hxn⟩ := inL_nat hin
  rw [hxe] at kcell ⊢
  obtain ⟨ad, hA, hnn⟩ := h xn hxn
  subst hA
  have d0 := hnn.c0
  clear hnn h hxe hin hK
  generalize (nd L xn).k = kk at *
  unfold maxLen at hm hkm
  have hqi : (q : Int) < (n : Int) := by omega
  have hxi : (xn : Int) < (L.length : Int) := by omega
  go_enter Tryd.func34, Tryd.ntmps34
  go_wp2
  go_quiet (fail)
  go_wp2
  go_ret
  exact ⟨rfl, (by (repeat (first | (with_reducible exact Below.refl _ _) | (with_reducible assumption) | (with_reducible refine Below.setCell ?_ (by first | omega | (simp <;> omega)) _) | (with_reducible refine Below.alloc ?_ (by first | omega | (simp <;> omega)) _) | (with_reducible refine Below.drew ?_) | (with_reducible refine below_drewN ?_ _) | (with_reducible refine Below.trans ?_ (Below.mono (by with_reducible assumption) (by first | omega | (simp <;> omega)))))))⟩
theorem notType_any (A : Option Addr) (L : List Nd) (c : Nat) (hc : L.length ≤ c) (hm : c ≤ maxLen) (g : Nat) (w : World) (h : TreeAt w w.heap.size A L) (hg : w.cell? ⟨g, 0, none⟩ = some (.slice A L.length c)) (u : Int) (hin : inL L u = true) :
    Calls Tryd.prog 37 #[.int .i64 u, .pointer (some ⟨g, 0, none⟩)] w fun e w' => e = .returned (.bool (!typeK (nd L u).k)) ∧ Below w.heap.size w w' := by
  obtain ⟨xn, rfl, hxn⟩ := inL_nat hin
  have HT := Lib.hid (isType_any A L c xn w h hc hm hxn)
  have HE := Lib.hid (show typeP L (xn : Int) = typeK (nd L xn).k from rfl)
  clear h
  generalize typeK (nd L xn).k = bt at *
  go_enter Tryd.func37, Tryd.ntmps37
  go_wp2_with (first
    | (go_at_call 38; (with_reducible refine HT.out.mono ?_); rintro e w1 ⟨rfl, b1⟩)
    | fail)
  go_ret
  exact ⟨ret_bool (by rw [HE.out]), b1⟩
set_option maxRecDepth 100000 in
set_option maxHeartbeats 4000000 in
theorem indexNot_any (A : Option Addr) (L : List Nd) (c : Nat) (hc : L.length ≤ c) (hm : c ≤ maxLen) (g : Nat) (K : Option Addr) (ks : List Int) (n kc : Nat) (hn : ks.length = n) (hkc : n ≤ kc) (hkm : kc ≤ maxLen) (w : World) (h : TreeAt w w.heap.size A L)
    (hg : w.cell? ⟨g, 0, none⟩ = some (.slice A L.length c)) (hgl : g < w.heap.size) (hK : Rd w w.heap.size K n (ksV ks)) (hin : ∀ k ∈ ks, inL L k = true) :
    Calls Tryd.prog 46 #[.slice K n kc, .func (.func 37) #[] #[.pointer (some ⟨g, 0, none⟩)]] w fun e w' => (∃ r : Int, e = .returned (.int .i64 r) ∧ decide (0 ≤ r) = !(ks.all fun j => typeK (nd L j).k)) ∧ Below w.heap.size w w' := by
  have HN := Lib.hid hn
  have HT := Lib.hid h
  have HI := Lib.hid hin
  have hm2 := Lib.hid hm
  unfold maxLen at hm hkm
  obtain ⟨R, hR⟩ : ∃ R, R = ks.all (fun j => typeK (nd L j).k) := ⟨_, rfl⟩
  rw [← hR]
  have HR := Lib.hid hR
  clear hR h hin hn
  go_enter Tryd.func46, Tryd.ntmps46
  go_wp2
  go_loopw [8] (fun t wr => ∃ q : Nat, q ≤ n ∧ t = .int .i64 (q : Int) ∧ Hid ((ks.take q).all (fun j => typeK (nd L j).k) = true) ∧ Below w.heap.size w wr) (fun t _ => n - (intOf t).toNat)
  case atStart => exact ⟨0, Nat.zero_le _, rfl, Lib.hid rfl, Below.refl _ _⟩
  case round =>
    obtain ⟨q, hq, rfl, HTk, hb⟩ := hrel
    by_cases hlt : q < n
    · obtain ⟨kd, hKd, hkb, kcell0⟩ := hK q hlt
      subst hKd
      have kcell : wr.cell? (kd.add q) = some (.int .i64 (ks.getD q 0)) := (hb.cell (by rw [block_add]; exact hkb)).trans kcell0
      have hq2 : q < ks.length := by rw [HN.out]; exact hlt
      have eK : ks.getD q 0 = ks[q] := by simp [List.getD, hq2]
      have hu := HI.out (ks.getD q 0) (by rw [eK]; exact List.getElem_mem _)
      have HY := Lib.hid (fun e => all_take (f := fun j => typeK (nd L j).k) hq2 HTk.out e)
      have HB := Lib.hid (fun e => all_bad (f := fun j => typeK (nd L j).k) hq2 e)
      have HC := Lib.hid (notType_any A L c hc hm2.out g wr (HT.out.later hb) ((hb.cell (p := ⟨g, 0, none⟩) hgl).trans hg) (ks.getD q 0) hu)
      clear eK kcell0 hu
      generalize hty : typeK (nd L (ks.getD q 0)).k = bt at *
      have HTY := Lib.hid hty
      clear hty
      generalize ks.getD q 0 = u at *
      cases bt
      · have hRf : R = false := by rw [HR.out]; exact HB.out (by first | rfl | trivial)
        subst hRf
        go_wp2_with (first
          | (go_at_call 37; (with_reducible refine HC.out.mono ?_); rintro e w1 ⟨rfl, b1⟩)
          | fail)
        go_ret
        exact ⟨⟨_, rfl, by simp⟩, hb.trans (b1.mono hb.size)⟩
      · go_wp2_with (first
          | (go_at_call 37; (with_reducible refine HC.out.mono ?_); rintro e w1 ⟨rfl, b1⟩)
          | fail)
        exact ⟨⟨q + 1, by omega, by go_num, Lib.hid (HY.out (by first | rfl | trivial)), hb.trans (b1.mono hb.size)⟩, by simp [intOf]; omega⟩
    · obtain rfl : q = n := by omega
      have hRt : R = true := by
        have := HTk.out
        rw [← HN.out, List.take_length] at this
        rw [HR.out]; exact this
      subst hRt
      go_wp2
      go_ret
      exact ⟨⟨_, rfl, by simp⟩, hb⟩
end Go.Proofs.YtjaijlkonkgnmaaDoor
