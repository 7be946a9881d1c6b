/- Some texts of this claim, put together. -/
import Derived.Test.YtjaijlkonkgnmaaDoorHBJ
import Derived.Deep.QuietTactic
import Derived.Deep.DeepCutAuto
namespace Go.Proofs.YtjaijlkonkgnmaaDoor
section
set_option linter.unusedVariables false
set_option linter.unusedSimpArgs false
set_option linter.unnecessarySimpa false
open Go.RowKit
attribute [local go_sem] cell_alloc_add cell_set_add lt_more
def eqI (a b : List Int) : Bool := decide (a = b)
theorem eqI_len {a b : List Int} (h : a.length ≠ b.length) : eqI a b = false := by
  unfold eqI; rw [decide_eq_false]; intro e; exact h (by rw [e])
theorem eqI_ne {a b : List Int} {j : Nat} (h : a.getD j 0 ≠ b.getD j 0) : eqI a b = false := by
  unfold eqI; rw [decide_eq_false]; intro e; exact h (by rw [e])
theorem eqI_eq {a b : List Int} {n : Nat} (ha : a.length = n) (hb : b.length = n) (h : a.take n = b.take n) : eqI a b = true := by
  unfold eqI
  rw [List.take_of_length_le (by omega), List.take_of_length_le (by omega)] at h
  exact decide_eq_true h
theorem take_eq {a b : List Int} {j n : Nat} (ha : a.length = n) (hb : b.length = n) (hj : j < n) (h : a.take j = b.take j) (he : a.getD j 0 = b.getD j 0) : a.take (j + 1) = b.take (j + 1) := by
  rw [List.take_succ_eq_append_getElem (by omega), List.take_succ_eq_append_getElem (by omega), h]
  have e1 : a.getD j 0 = a[j]'(by omega) := by rw [List.getD_eq_getElem?_getD, List.getElem?_eq_getElem (by omega)]; rfl
  have e2 : b.getD j 0 = b[j]'(by omega) := by rw [List.getD_eq_getElem?_getD, List.getElem?_eq_getElem (by omega)]; rfl
  rw [← e1, ← e2, he]
set_option maxRecDepth 100000 in
set_option maxHeartbeats 4000000 in
theorem EqualI_any (ks ls : List Int) (K K' : Option Addr) (n c m d : Nat) (hn : ks.length = n) (hm : ls.length = m) (hnc : n ≤ c) (hmd : m ≤ d) (hc : c ≤ maxLen) (hd : d ≤ maxLen) (w : World) (h : Rd w w.heap.size K n (ksV ks)) (h' : Rd w w.heap.size K' m (ksV ls)) : Calls Tryd.prog 29 #[.slice K n c, .slice K' m d] w fun e w' => e = .returned (.bool (eqI ks ls)) ∧ Below w.heap.size w w' := by
  have HK := Lib.hid h
  have HL := Lib.hid h'
  have HN := Lib.hid hn
  have HM := Lib.hid hm
  have hne := Lib.hid (fun e => eqI_len (a := ks) (b := ls) e)
  have hnj := Lib.hid (fun j e => eqI_ne (a := ks) (b := ls) (j := j) e)
  have hEE := Lib.hid (fun n e1 e2 e3 => eqI_eq (a := ks) (b := ls) (n := n) e1 e2 e3)
  clear h h' hn hm
  unfold maxLen at hc hd
  generalize eqI ks ls = R at *
  by_cases hnm : n = m
  · subst hnm
    go_enter Tryd.func29, Tryd.ntmps29
    go_wp2
    go_loopw [13] (fun t wr => ∃ q : Nat, q ≤ n ∧ t = .int .i64 (q : Int) ∧ Hid (ks.take q = ls.take q) ∧ ∃ e, wr = w.drewN e) (fun t _ => n - (intOf t).toNat)
    case atStart => exact ⟨0, Nat.zero_le _, rfl, Lib.hid rfl, 0, rfl⟩
    case round =>
      obtain ⟨q, hq, rfl, HT, e, rfl⟩ := hrel
      by_cases hlt : q < n
      · obtain ⟨k1, e1, hb1, kc1⟩ := HK.out q hlt
        obtain ⟨k2, e2, hb2, kc2⟩ := HL.out q hlt
        subst e1 e2
        replace kc1 : w.cell? (k1.add q) = some (.int .i64 (ks.getD q 0)) := kc1
        replace kc2 : w.cell? (k2.add q) = some (.int .i64 (ls.getD q 0)) := kc2
        have hnq := Lib.hid (fun e => hnj.out q e)
        have hTK := Lib.hid (fun e => take_eq (a := ks) (b := ls) (j := q) HN.out HM.out hlt HT.out e)
        generalize ks.getD q 0 = u at *
        generalize ls.getD q 0 = v at *
        by_cases huv : u = v
        · have huv' : (u != v) = false := by simpa using huv
          have hT2 := Lib.hid (hTK.out huv)
          clear huv
          go_wp2
          go_quiet (fail)
          go_wp2
          exact ⟨⟨q + 1, by omega, by go_num, hT2, _, rfl⟩, by simp [intOf]; omega⟩
        · have huv' : (u != v) = true := by simpa using huv
          have hR := hnq.out huv
          subst hR
          go_wp2
          go_quiet (fail)
          go_wp2
          go_ret
          exact ⟨rfl, (by (repeat (first | (with_reducible exact Below.refl _ _) | (with_reducible assumption) | (with_reducible refine Below.setCell ?_ (by first | omega | (simp <;> omega)) _) | (with_reducible refine Below.alloc ?_ (by first | omega | (simp <;> omega)) _) | (with_reducible refine Below.drew ?_) | (with_reducible refine below_drewN ?_ _) | (with_reducible refine Below.trans ?_ (Below.mono (by with_reducible assumption) (by first | omega | (simp <;> omega)))))))⟩
      · obtain rfl : q = n := by omega
        have hR := hEE.out q HN.out HM.out HT.out
        subst hR
        go_wp2
        go_ret
        exact ⟨rfl, (by (repeat (first | (with_reducible exact Below.refl _ _) | (with_reducible assumption) | (with_reducible refine Below.setCell ?_ (by first | omega | (simp <;> omega)) _) | (with_reducible refine Below.alloc ?_ (by first | omega | (simp <;> omega)) _) | (with_reducible refine Below.drew ?_) | (with_reducible refine below_drewN ?_ _) | (with_reducible refine Below.trans ?_ (Below.mono (by with_reducible assumption) (by first | omega | (simp <;> omega)))))))⟩
  · have hR := hne.out (by rw [HN.out, HM.out]; exact hnm)
    subst hR
    have hnm' : ((n : Int) != (m : Int)) = true := by simp; omega
    go_enter Tryd.func29, Tryd.ntmps29
    go_wp2
    go_ret
    exact ⟨rfl, (by (repeat (first | (with_reducible exact Below.refl _ _) | (with_reducible assumption) | (with_reducible refine Below.setCell ?_ (by first | omega | (simp <;> omega)) _) | (with_reducible refine Below.alloc ?_ (by first | omega | (simp <;> omega)) _) | (with_reducible refine Below.drew ?_) | (with_reducible refine below_drewN ?_ _) | (with_reducible refine Below.trans ?_ (Below.mono (by with_reducible assumption) (by first | omega | (simp <;> omega)))))))⟩
set_option maxRecDepth 100000 in
set_option maxHeartbeats 4000000 in
theorem ints_any (ks ls : List Int) (K K' : Option Addr) (n c m d : Nat) (hn : ks.length = n) (hm : ls.length = m) (hnc : n ≤ c) (hmd : m ≤ d) (hc : c ≤ maxLen) (hd : d ≤ maxLen) (w : World) (h : Rd w w.heap.size K n (ksV ks)) (h' : Rd w w.heap.size K' m (ksV ls)) : Calls Tryd.prog 23 #[.slice K n c, .slice K' m d] w fun e w' => e = .returned (.bool (eqI ks ls)) ∧ Below w.heap.size w w' := by
  have HK := Lib.hid h
  have HL := Lib.hid h'
  have HN := Lib.hid hn
  have HM := Lib.hid hm
  have hne := Lib.hid (fun e => eqI_len (a := ks) (b := ls) e)
  have hnj := Lib.hid (fun j e => eqI_ne (a := ks) (b := ls) (j := j) e)
  have hEE := Lib.hid (fun n e1 e2 e3 => eqI_eq (a := ks) (b := ls) (n := n) e1 e2 e3)
  clear h h' hn hm
  unfold maxLen at hc hd
  generalize eqI ks ls = R at *
  by_cases hnm : n = m
  · subst hnm
    go_enter Tryd.func23, Tryd.ntmps23
    go_wp2
    go_loopw [5] (fun t wr => ∃ q : Nat, q ≤ n ∧ t = .int .i64 (q : Int) ∧ Hid (ks.take q = ls.take q) ∧ ∃ e, wr = w.drewN e) (fun t _ => n - (intOf t).toNat)
    case atStart => exact ⟨0, Nat.zero_le _, rfl, Lib.hid rfl, 0, rfl⟩
    case round =>
      obtain ⟨q, hq, rfl, HT, e, rfl⟩ := hrel
      by_cases hlt : q < n
      · obtain ⟨k1, e1, hb1, kc1⟩ := HK.out q hlt
        obtain ⟨k2, e2, hb2, kc2⟩ := HL.out q hlt
        subst e1 e2
        replace kc1 : w.cell? (k1.add q) = some (.int .i64 (ks.getD q 0)) := kc1
        replace kc2 : w.cell? (k2.add q) = some (.int .i64 (ls.getD q 0)) := kc2
        have hnq := Lib.hid (fun e => hnj.out q e)
        have hTK := Lib.hid (fun e => take_eq (a := ks) (b := ls) (j := q) HN.out HM.out hlt HT.out e)
        generalize ks.getD q 0 = u at *
        generalize ls.getD q 0 = v at *
        by_cases huv : u = v
        · have huv' : (u != v) = false := by simpa using huv
          have hT2 := Lib.hid (hTK.out huv)
          clear huv
          go_wp2
          go_quiet (fail)
          go_wp2
          exact ⟨⟨q + 1, by omega, by go_num, hT2, _, rfl⟩, by simp [intOf]; omega⟩
        · have huv' : (u != v) = true := by simpa using huv
          have hR := hnq.out huv
          subst hR
          go_wp2
          go_quiet (fail)
          go_wp2
          go_ret
          exact ⟨rfl, (by (repeat (first | (with_reducible exact Below.refl _ _) | (with_reducible assumption) | (with_reducible refine Below.setCell ?_ (by first | omega | (simp <;> omega)) _) | (with_reducible refine Below.alloc ?_ (by first | omega | (simp <;> omega)) _) | (with_reducible refine Below.drew ?_) | (with_reducible refine below_drewN ?_ _) | (with_reducible refine Below.trans ?_ (Below.mono (by with_reducible assumption) (by first | omega | (simp <;> omega)))))))⟩
      · obtain rfl : q = n := by omega
        have hR := hEE.out q HN.out HM.out HT.out
        subst hR
        go_wp2
        go_ret
        exact ⟨rfl, (by (repeat (first | (with_reducible exact Below.refl _ _) | (with_reducible assumption) | (with_reducible refine Below.setCell ?_ (by first | omega | (simp <;> omega)) _) | (with_reducible refine Below.alloc ?_ (by first | omega | (simp <;> omega)) _) | (with_reducible refine Below.drew ?_) | (with_reducible refine below_drewN ?_ _) | (with_reducible refine Below.trans ?_ (Below.mono (by with_reducible assumption) (by first | omega | (simp <;> omega)))))))⟩
  · have hR := hne.out (by rw [HN.out, HM.out]; exact hnm)
    subst hR
    have hnm' : ((n : Int) != (m : Int)) = true := by simp; omega
    go_enter Tryd.func23, Tryd.ntmps23
    go_wp2
    go_ret
    exact ⟨rfl, (by (repeat (first | (with_reducible exact Below.refl _ _) | (with_reducible assumption) | (with_reducible refine Below.setCell ?_ (by first | omega | (simp <;> omega)) _) | (with_reducible refine Below.alloc ?_ (by first | omega | (simp <;> omega)) _) | (with_reducible refine Below.drew ?_) | (with_reducible refine below_drewN ?_ _) | (with_reducible refine Below.trans ?_ (Below.mono (by with_reducible assumption) (by first | omega | (simp <;> omega)))))))⟩
end
section
set_option linter.unusedVariables false
set_option linter.unusedSimpArgs false
set_option linter.unnecessarySimpa false
open Go.RowKit
attribute [local go_sem] cell_alloc_add cell_set_add lt_more
/-- Two nodes are the same but for At. -/
def sameN (x y : Nd) : Bool := decide (x.k = y.k) && decide (x.x = y.x) && decide (x.m = y.m) && eqI x.ks y.ks
def sameFrom (L M : List Nd) : Nat → Nat → Bool
  | _, 0 => true
  | j, n + 1 => sameN (nd L j) (nd M j) && sameFrom L M (j + 1) n
def sameB (L M : List Nd) : Bool := decide (L.length = M.length) && sameFrom L M 0 L.length
theorem sameN_iff (x y : Nd) : sameN x y = true ↔ x.k = y.k ∧ x.x = y.x ∧ x.m = y.m ∧ x.ks = y.ks := by
  simp [sameN, eqI, and_assoc]
theorem sameFrom_iff (L M : List Nd) : ∀ n j, sameFrom L M j n = true ↔ ∀ i, j ≤ i → i < j + n → sameN (nd L i) (nd M i) = true
  | 0, j => by simp [sameFrom]; intro i h1 h2; omega
  | n + 1, j => by
    show (sameN (nd L j) (nd M j) && sameFrom L M (j + 1) n) = true ↔ _
    rw [Bool.and_eq_true, sameFrom_iff L M n (j + 1)]
    constructor
    · rintro ⟨h1, h2⟩ i hi hi2
      rcases Nat.eq_or_lt_of_le hi with rfl | h3
      · exact h1
      · exact h2 i h3 (by omega)
    · intro h
      exact ⟨h j (Nat.le_refl _) (by omega), fun i h1 h2 => h i (by omega) (by omega)⟩
theorem sameB_iff (L M : List Nd) : sameB L M = true ↔ L.length = M.length ∧ ∀ i : Nat, i < L.length → sameN (nd L i) (nd M i) = true := by
  unfold sameB
  rw [Bool.and_eq_true, decide_eq_true_iff, sameFrom_iff]
  constructor
  · rintro ⟨h1, h2⟩; exact ⟨h1, fun i hi => h2 i (Nat.zero_le _) (by omega)⟩
  · rintro ⟨h1, h2⟩; exact ⟨h1, fun i _ hi => h2 i (by omega)⟩
theorem sameB_bad {L M : List Nd} {i : Nat} (hi : i < L.length) (h : sameN (nd L i) (nd M i) = false) : sameB L M = false := by
  rcases Bool.eq_false_or_eq_true (sameB L M) with h1 | h1
  · have := ((sameB_iff L M).1 h1).2 i hi; rw [h] at this; cases this
  · exact h1
theorem sameB_len {L M : List Nd} (h : L.length ≠ M.length) : sameB L M = false := by
  unfold sameB; rw [decide_eq_false h]; rfl
theorem toL_inj {s t : ByteArray} (h : s.toList = t.toList) : s = t := by
  rw [ByteArray.toList_eq, ByteArray.toList_eq] at h
  exact ByteArray.ext (Array.toList_inj.1 h)
set_option maxRecDepth 100000 in
set_option maxHeartbeats 4000000 in
theorem Same1_any (x y : Nd) (K K' : Option Addr) (kc kd : Nat) (h1 : x.ks.length ≤ kc) (h2 : kc ≤ maxLen) (h3 : y.ks.length ≤ kd) (h4 : kd ≤ maxLen) (w : World) (h : Rd w w.heap.size K x.ks.length (ksV x.ks)) (h' : Rd w w.heap.size K' y.ks.length (ksV y.ks)) : Calls Tryd.prog 28 #[.agg #[.int .i64 x.k, .string x.x, .int .i64 x.m, .slice K x.ks.length kc, .int .i64 x.p], .agg #[.int .i64 y.k, .string y.x, .int .i64 y.m, .slice K' y.ks.length kd, .int .i64 y.p]] w fun e w' => e = .returned (.bool (sameN x y)) ∧ Below w.heap.size w w' := by
  have HE := Lib.hid (fun W (hb : Below w.heap.size w W) => EqualI_any x.ks y.ks K K' x.ks.length kc y.ks.length kd rfl rfl h1 h3 h2 h4 W ((h.below hb).more hb.size) ((h'.below hb).more hb.size))
  have HS := Lib.hid (show sameN x y = (decide (x.k = y.k) && decide (x.x = y.x) && decide (x.m = y.m) && eqI x.ks y.ks) from rfl)
  clear h h'
  generalize eqI x.ks y.ks = r4 at *
  generalize sameN x y = R at *
  obtain ⟨xk, xx, xm, xks, xp⟩ := x
  obtain ⟨yk, yx, ym, yks, yp⟩ := y
  simp only at *
  by_cases e1 : xk = yk
  · by_cases e2 : xx = yx
    · by_cases e3 : xm = ym
      · have hR := HS.out
        rw [decide_eq_true e1, decide_eq_true e2, decide_eq_true e3, Bool.true_and, Bool.true_and, Bool.true_and] at hR
        subst hR e1 e2 e3
        clear HS
        go_enter Tryd.func28, Tryd.ntmps28
        go_wp2_with (first
          | (go_at_call 29; (with_reducible refine (HE.out _ (by (repeat (first | (with_reducible exact Below.refl _ _) | (with_reducible assumption) | (with_reducible refine Below.setCell ?_ (by first | omega | (simp <;> omega)) _) | (with_reducible refine Below.alloc ?_ (by first | omega | (simp <;> omega)) _) | (with_reducible refine Below.drew ?_) | (with_reducible refine below_drewN ?_ _) | (with_reducible refine Below.trans ?_ (Below.mono (by with_reducible assumption) (by first | omega | (simp <;> omega)))))))).mono ?_); rintro e w1 ⟨rfl, b1⟩)
          | fail)
        go_ret
        exact ⟨rfl, Below.trans (b := _) (by (repeat (first | (with_reducible exact Below.refl _ _) | (with_reducible assumption) | (with_reducible refine Below.setCell ?_ (by first | omega | (simp <;> omega)) _) | (with_reducible refine Below.alloc ?_ (by first | omega | (simp <;> omega)) _) | (with_reducible refine Below.drew ?_) | (with_reducible refine below_drewN ?_ _) | (with_reducible refine Below.trans ?_ (Below.mono (by with_reducible assumption) (by first | omega | (simp <;> omega))))))) (b1.mono (by simp; omega))⟩
      · have hR := HS.out
        rw [decide_eq_true e1, decide_eq_true e2, decide_eq_false e3, Bool.true_and, Bool.true_and, Bool.false_and] at hR
        have e3' : (xm == ym) = false := by simpa using e3
        subst hR e1 e2
        clear HS
        go_enter Tryd.func28, Tryd.ntmps28
        go_wp2
        go_ret
        exact ⟨rfl, (by (repeat (first | (with_reducible exact Below.refl _ _) | (with_reducible assumption) | (with_reducible refine Below.setCell ?_ (by first | omega | (simp <;> omega)) _) | (with_reducible refine Below.alloc ?_ (by first | omega | (simp <;> omega)) _) | (with_reducible refine Below.drew ?_) | (with_reducible refine below_drewN ?_ _) | (with_reducible refine Below.trans ?_ (Below.mono (by with_reducible assumption) (by first | omega | (simp <;> omega)))))))⟩
    · have hR := HS.out
      rw [decide_eq_true e1, decide_eq_false e2, Bool.true_and, Bool.false_and, Bool.false_and] at hR
      have e2'' : ¬ xx.toList = yx.toList := fun h => e2 (toL_inj h)
      have e2' : (xx.toList == yx.toList) = false := by simpa using e2''
      subst hR e1
      clear HS
      go_enter Tryd.func28, Tryd.ntmps28
      go_wp2
      go_ret
      exact ⟨rfl, (by (repeat (first | (with_reducible exact Below.refl _ _) | (with_reducible assumption) | (with_reducible refine Below.setCell ?_ (by first | omega | (simp <;> omega)) _) | (with_reducible refine Below.alloc ?_ (by first | omega | (simp <;> omega)) _) | (with_reducible refine Below.drew ?_) | (with_reducible refine below_drewN ?_ _) | (with_reducible refine Below.trans ?_ (Below.mono (by with_reducible assumption) (by first | omega | (simp <;> omega)))))))⟩
  · have hR := HS.out
    rw [decide_eq_false e1, Bool.false_and, Bool.false_and, Bool.false_and] at hR
    have e1' : (xk == yk) = false := by simpa using e1
    subst hR
    clear HS
    go_enter Tryd.func28, Tryd.ntmps28
    go_wp2
    go_ret
    exact ⟨rfl, (by (repeat (first | (with_reducible exact Below.refl _ _) | (with_reducible assumption) | (with_reducible refine Below.setCell ?_ (by first | omega | (simp <;> omega)) _) | (with_reducible refine Below.alloc ?_ (by first | omega | (simp <;> omega)) _) | (with_reducible refine Below.drew ?_) | (with_reducible refine below_drewN ?_ _) | (with_reducible refine Below.trans ?_ (Below.mono (by with_reducible assumption) (by first | omega | (simp <;> omega)))))))⟩
set_option maxRecDepth 100000 in
set_option maxHeartbeats 4000000 in
theorem EqualF_any (A A' : Option Addr) (L M : List Nd) (n c m d : Nat) (hn : L.length = n) (hm : M.length = m) (hnc : n ≤ c) (hmd : m ≤ d) (hcm : c ≤ maxLen) (hdm : d ≤ maxLen) (w : World) (h : TreeAt w w.heap.size A L) (h' : TreeAt w w.heap.size A' M) : Calls Tryd.prog 27 #[.slice A n c, .slice A' m d, .func (.func 28) #[] #[]] w fun e w' => e = .returned (.bool (sameB L M)) ∧ Below w.heap.size w w' := by
  have HL := Lib.hid h
  have HM := Lib.hid h'
  have HN := Lib.hid hn
  have HN' := Lib.hid hm
  have HBL := Lib.hid (fun e => sameB_len (L := L) (M := M) e)
  have HBB := Lib.hid (fun i hi e => sameB_bad (L := L) (M := M) (i := i) hi e)
  have HBI := Lib.hid (sameB_iff L M)
  clear h h' hn hm
  unfold maxLen at hcm hdm
  generalize sameB L M = R at *
  by_cases hnm : n = m
  · subst hnm
    go_enter Tryd.func27, Tryd.ntmps27
    go_wp2
    go_loopw [17] (fun t wr => ∃ q : Nat, q ≤ n ∧ t = .int .i64 (q : Int) ∧ Hid (∀ i : Nat, i < q → sameN (nd L i) (nd M i) = true) ∧ Below w.heap.size w wr) (fun t _ => n - (intOf t).toNat)
    case atStart => exact ⟨0, Nat.zero_le _, rfl, Lib.hid (fun i hi => by omega), Below.refl _ _⟩
    case round =>
      obtain ⟨q, hq, rfl, HT, hb⟩ := hrel
      generalize hwo : wr = wo at *
      clear hwo
      have hz := Below.size hb
      by_cases hlt : q < n
      · have hqL : q < L.length := by rw [HN.out]; exact hlt
        have hqM : q < M.length := by rw [HN'.out]; exact hlt
        obtain ⟨ad, rfl, hn⟩ := HL.out q hqL
        obtain ⟨ad', rfl, hn'⟩ := HM.out q hqM
        have g1 := hn.keep (W' := wo) (fun p hp => hb.cell hp)
        have g2 := hn'.keep (W' := wo) (fun p hp => hb.cell hp)
        have hb1 : (ad.add (q * 5)).block < wo.heap.size := Nat.lt_of_lt_of_le g1.blk hz
        have hb2 : (ad'.add (q * 5)).block < wo.heap.size := Nat.lt_of_lt_of_le g2.blk hz
        have hb3 : ad.block < wo.heap.size := by rw [block_add] at hb1; exact hb1
        have hb4 : ad'.block < wo.heap.size := by rw [block_add] at hb2; exact hb2
        obtain ⟨K0, kc0, c0, c1, c2, c3, c4, hK0, hkk, hkm⟩ := node_open g1
        obtain ⟨K1, kc1, d0, d1, d2, d3, d4, hK1, hkk1, hkm1⟩ := node_open g2
        have HS := Lib.hid (fun W (hb : Below wo.heap.size wo W) => Same1_any (nd L q) (nd M q) K0 K1 kc0 kc1 hkk hkm hkk1 hkm1 W (((hK0.more hz).below hb).more hb.size) (((hK1.more hz).below hb).more hb.size))
        have HB := Lib.hid (HBB.out q hqL)
        have HX := Lib.hid (show sameN (nd L q) (nd M q) = sameN (nd L q) (nd M q) from rfl)
        clear hn hn' g1 g2 hK0 hK1
        generalize hr : sameN (nd L q) (nd M q) = r at *
        have HRR := Lib.hid (show ∀ i : Nat, i = q → sameN (nd L i) (nd M i) = r from fun i hi => by subst hi; exact hr)
        clear hr HX
        generalize nd L q = x at *
        generalize nd M q = y at *
        obtain ⟨xk, xx, xm, xks, xp⟩ := x
        obtain ⟨yk, yx, ym, yks, yp⟩ := y
        simp only at c0 c1 c2 c3 c4 d0 d1 d2 d3 d4 hkk hkk1 HS
        cases r
        · have hR := HB.out rfl
          subst hR
          go_wp2_with (first
            | (go_at_call 28; (with_reducible refine (HS.out _ (by (repeat (first | (with_reducible exact Below.refl _ _) | (with_reducible assumption) | (with_reducible refine Below.setCell ?_ (by first | omega | (simp <;> omega)) _) | (with_reducible refine Below.alloc ?_ (by first | omega | (simp <;> omega)) _) | (with_reducible refine Below.drew ?_) | (with_reducible refine below_drewN ?_ _) | (with_reducible refine Below.trans ?_ (Below.mono (by with_reducible assumption) (by first | omega | (simp <;> omega)))))))).mono ?_); rintro e w1 ⟨rfl, b1⟩)
            | fail)
          go_ret
          exact ⟨rfl, (Below.trans (a := w) (b := _) (by (repeat (first | (with_reducible exact Below.refl _ _) | (with_reducible assumption) | (with_reducible refine Below.setCell ?_ (by first | omega | (simp <;> omega)) _) | (with_reducible refine Below.alloc ?_ (by first | omega | (simp <;> omega)) _) | (with_reducible refine Below.drew ?_) | (with_reducible refine below_drewN ?_ _) | (with_reducible refine Below.trans ?_ (Below.mono (by with_reducible assumption) (by first | omega | (simp <;> omega))))))) (b1.mono (by simp; omega)))⟩
        · go_wp2_with (first
            | (go_at_call 28; (with_reducible refine (HS.out _ (by (repeat (first | (with_reducible exact Below.refl _ _) | (with_reducible assumption) | (with_reducible refine Below.setCell ?_ (by first | omega | (simp <;> omega)) _) | (with_reducible refine Below.alloc ?_ (by first | omega | (simp <;> omega)) _) | (with_reducible refine Below.drew ?_) | (with_reducible refine below_drewN ?_ _) | (with_reducible refine Below.trans ?_ (Below.mono (by with_reducible assumption) (by first | omega | (simp <;> omega)))))))).mono ?_); rintro e w1 ⟨rfl, b1⟩)
            | fail)
          refine ⟨⟨q + 1, by omega, by go_num, Lib.hid (fun i hi => ?_), (Below.trans (a := w) (b := _) (by (repeat (first | (with_reducible exact Below.refl _ _) | (with_reducible assumption) | (with_reducible refine Below.setCell ?_ (by first | omega | (simp <;> omega)) _) | (with_reducible refine Below.alloc ?_ (by first | omega | (simp <;> omega)) _) | (with_reducible refine Below.drew ?_) | (with_reducible refine below_drewN ?_ _) | (with_reducible refine Below.trans ?_ (Below.mono (by with_reducible assumption) (by first | omega | (simp <;> omega))))))) (b1.mono (by simp; omega)))⟩, by simp [intOf]; omega⟩
          rcases Nat.lt_or_ge i q with h1 | h1
          · exact HT.out i h1
          · obtain rfl : i = q := by omega
            exact HRR.out i rfl
      · obtain rfl : q = n := by omega
        have hR : R = true := HBI.out.2 ⟨by rw [HN.out, HN'.out], fun i hi => HT.out i (by rw [HN.out] at hi; exact hi)⟩
        subst hR
        go_wp2
        go_ret
        exact ⟨rfl, hb⟩
  · have hR := HBL.out (by rw [HN.out, HN'.out]; exact hnm)
    subst hR
    have hnm' : ((n : Int) != (m : Int)) = true := by simp; omega
    go_enter Tryd.func27, Tryd.ntmps27
    go_wp2
    go_ret
    exact ⟨rfl, Below.refl _ _⟩
set_option maxRecDepth 100000 in
set_option maxHeartbeats 4000000 in
theorem Same_any (A A' : Option Addr) (L M : List Nd) (n c m d : Nat) (hn : L.length = n) (hm : M.length = m) (hnc : n ≤ c) (hmd : m ≤ d) (hcm : c ≤ maxLen) (hdm : d ≤ maxLen) (w : World) (h : TreeAt w w.heap.size A L) (h' : TreeAt w w.heap.size A' M) : Calls Tryd.prog 19 #[.agg #[.slice A n c], .agg #[.slice A' m d]] w fun e w' => e = .returned (.bool (sameB L M)) ∧ Below w.heap.size w w' := by
  have HE := Lib.hid (fun W (hb : Below w.heap.size w W) => EqualF_any A A' L M n c m d hn hm hnc hmd hcm hdm W ((h.below hb).more hb.size) ((h'.below hb).more hb.size))
  clear h h'
  generalize sameB L M = R at *
  go_enter Tryd.func19, Tryd.ntmps19
  go_wp2_with (first
    | (go_at_call 27; (with_reducible refine (HE.out _ (by (repeat (first | (with_reducible exact Below.refl _ _) | (with_reducible assumption) | (with_reducible refine Below.setCell ?_ (by first | omega | (simp <;> omega)) _) | (with_reducible refine Below.alloc ?_ (by first | omega | (simp <;> omega)) _) | (with_reducible refine Below.drew ?_) | (with_reducible refine below_drewN ?_ _) | (with_reducible refine Below.trans ?_ (Below.mono (by with_reducible assumption) (by first | omega | (simp <;> omega)))))))).mono ?_); rintro e w1 ⟨rfl, b1⟩)
    | fail)
  go_ret
  exact ⟨rfl, Below.trans (a := w) (b := _) (by (repeat (first | (with_reducible exact Below.refl _ _) | (with_reducible assumption) | (with_reducible refine Below.setCell ?_ (by first | omega | (simp <;> omega)) _) | (with_reducible refine Below.alloc ?_ (by first | omega | (simp <;> omega)) _) | (with_reducible refine Below.drew ?_) | (with_reducible refine below_drewN ?_ _) | (with_reducible refine Below.trans ?_ (Below.mono (by with_reducible assumption) (by first | omega | (simp <;> omega))))))) (b1.mono (by simp; omega))⟩
end
end Go.Proofs.YtjaijlkonkgnmaaDoor
