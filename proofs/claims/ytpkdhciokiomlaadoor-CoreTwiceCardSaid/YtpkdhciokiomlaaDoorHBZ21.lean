/- Some texts of this claim, put together. -/
import Derived.Test.YtpkdhciokiomlaaDoorHBZ7
import Derived.Test.YtpkdhciokiomlaaDoorHBZ22
import Derived.Lib.SliceRun
import Derived.RegionTactic
import Derived.Deep.DeepCutAuto
import Derived.Deep.CutBlock
import Derived.Deep.RegionLaw
import Derived.Deep.CutRange
import Derived.Test.YtpkdhciokiomlaaDoorHBZ3
import Derived.Deep.QuietTactic
namespace Go.Proofs.YtpkdhciokiomlaaDoor
section
set_option linter.unusedVariables false
set_option linter.unusedSimpArgs false
set_option linter.unnecessarySimpa false
open Go.RowKit
attribute [local go_sem] cell_alloc_add cell_set_add lt_more
theorem infoInt : (Tryd.prog.info? 3).map (fun i => (i.zero, i.size, i.bytes)) = some (some (.int .i64 0), 1, 8) := by kernel_rfl
theorem infoNode : (Tryd.prog.info? 35).map (fun i => (i.zero, i.size, i.bytes)) = some (some (.agg #[.int .i64 0, .string ⟨#[]⟩, .int .i64 0, .slice none 0 0, .int .i64 0]), 5, 64) := by kernel_rfl
theorem firsts_ks (ks : List Int) : firsts (ksV ks) ks.length = intsC ks := by
  apply List.ext_getElem?
  intro j
  by_cases hj : j < ks.length
  · rw [firsts_at hj, ksV_get hj]
  · rw [List.getElem?_eq_none (by rw [firsts_len]; omega), List.getElem?_eq_none (by simp [intsC]; omega)]
theorem row5_lies {w : World} {g : Nat} {t : TypeId} {a b c d e : Value} (h : Row w g t #[a, b, c, d, e]) : ∀ j u, [a, b, c, d, e][j]? = some u → w.cell? ((⟨g, 0, none⟩ : Addr).add j) = some u := fun j u hj => by
  rw [add_row, h.cell, Nat.zero_add, ← hj]; simp
theorem ndC_one (p : NdV) (h : p.2.oneCell' = true) : ∀ u ∈ ndC p, u.oneCell' = true := by
  intro u hu; simp [ndC] at hu; rcases hu with rfl | rfl | rfl | rfl | rfl <;> first | rfl | exact h
theorem own_one {W : World} {base n : Nat} {e : TypeId} {size : Nat} {v : Value} {xs : List Value} (h : W.ownsRow base e size v n xs) : v.oneCell' = true := by
  obtain ⟨A, c, rfl, _⟩ := own_slice h; rfl
end
section
set_option linter.unusedVariables false
set_option linter.unusedSimpArgs false
set_option linter.unnecessarySimpa false
open Go.RowKit
attribute [local go_sem] cell_alloc_add cell_set_add lt_more
theorem step_append_own {P : Program} {ops : Array Oper} {o : Oper} {a : Act} {w : World} {K : Act → World → Prop} {Q : Exit → Act → World → Prop} {E : Prop} (hgd : o.guard = none) (s x : Operand) (t : TypeId)
    (ho : o.op = .call { callee := .builtin .append, args := #[s, x], argTypes := #[t, t] })
    (base : Nat) (e : TypeId) (i : TypeInfo) (z : Value) (size bytes : Nat) (ht : P.underlying t = some (.slice e)) (hi : P.info? e = some i) (hz : i.zero = some z)
    (hsize : i.size = size) (hby : i.bytes = bytes) (hzs : z.cells.size = size) (hsz : 0 < size)
    (v : Value) (n : Nat) (xs : List Value) (hs : a.eval s = v) (hown : w.ownsRow base e size v n xs)
    (ad : Addr) (m c : Nat) (news : List Value) (hx : a.eval x = .slice (some ad) m c) (hl : news.length = m * size) (hnews : ∀ j u, news[j]? = some u → w.cell? (ad.add j) = some u) (h1 : ∀ u ∈ news, u.oneCell' = true)
    (h63 : n + m ≤ maxLen) (hbytes : (n + m) * bytes ≤ 140737488355328) (hbase : base ≤ w.heap.size)
    (h : ∀ v' w', w'.ownsRow base e size v' (n + m) (xs ++ news) → w.grownBy w' v.ownBlock → (v'.ownBlock = v.ownBlock ∨ v'.ownBlock = some w.heap.size) → K (a.put o.dst v') w') : if Region.wanted o (yielded ops a.tmps) = true then Oper.wp P o a w K Q else E := by
  rw [if_pos (by simp [Region.wanted, hgd])]
  obtain ⟨v', w', hr, h2, h3, _, h5⟩ := run_append_own_at (P := P) w base t o.type e i z size bytes ht hi hz hsize hby hzs hsz v n xs hown ad m c news hl hnews h1 h63 hbytes hbase
  unfold Oper.wp execOp
  simp only [ho, resolve, invoke, builtin, Sem.run_bind, Sem.run_pure, Result.andThen_ok, List.map_toArray, List.map_cons, List.map_nil, hs, hx, hr]
  exact h v' w' h2 h3 h5
end
section
set_option linter.unusedVariables false
set_option linter.unusedSimpArgs false
set_option linter.unnecessarySimpa false
open Go.RowKit
def eqI (a b : List Int) : Bool := decide (a = b)
theorem eqI_len {a b : List Int} (h : a.length ≠ b.length) : eqI a b = false := by
  unfold eqI; rw [decide_eq_false]; intro e; exact h (by rw [e])
theorem eqI_ne {a b : List Int} {j : Nat} (h : a.getD j 0 ≠ b.getD j 0) : eqI a b = false := by
  unfold eqI; rw [decide_eq_false]; intro e; exact h (by rw [e])
theorem eqI_eq {a b : List Int} {n : Nat} (ha : a.length = n) (hb : b.length = n) (h : a.take n = b.take n) : eqI a b = true := by
  unfold eqI
  rw [List.take_of_length_le (by omega), List.take_of_length_le (by omega)] at h
  exact decide_eq_true h
theorem take_eq {a b : List Int} {j n : Nat} (ha : a.length = n) (hb : b.length = n) (hj : j < n) (h : a.take j = b.take j) (he : a.getD j 0 = b.getD j 0) : a.take (j + 1) = b.take (j + 1) := by
  rw [List.take_succ_eq_append_getElem (by omega), List.take_succ_eq_append_getElem (by omega), h]
  have e1 : a.getD j 0 = a[j]'(by omega) := by rw [List.getD_eq_getElem?_getD, List.getElem?_eq_getElem (by omega)]; rfl
  have e2 : b.getD j 0 = b[j]'(by omega) := by rw [List.getD_eq_getElem?_getD, List.getElem?_eq_getElem (by omega)]; rfl
  rw [← e1, ← e2, he]
/-- Two nodes are the same but for At. -/
def sameN (x y : Nd) : Bool := decide (x.k = y.k) && decide (x.x = y.x) && decide (x.m = y.m) && eqI x.ks y.ks
def sameFrom (L M : List Nd) : Nat → Nat → Bool
  | _, 0 => true
  | j, n + 1 => sameN (nd L j) (nd M j) && sameFrom L M (j + 1) n
def sameB (L M : List Nd) : Bool := decide (L.length = M.length) && sameFrom L M 0 L.length
theorem sameN_iff (x y : Nd) : sameN x y = true ↔ x.k = y.k ∧ x.x = y.x ∧ x.m = y.m ∧ x.ks = y.ks := by
  simp [sameN, eqI, and_assoc]
theorem sameFrom_iff (L M : List Nd) : ∀ n j, sameFrom L M j n = true ↔ ∀ i, j ≤ i → i < j + n → sameN (nd L i) (nd M i) = true
  | 0, j => by simp [sameFrom]; intro i h1 h2; omega
  | n + 1, j => by
    show (sameN (nd L j) (nd M j) && sameFrom L M (j + 1) n) = true ↔ _
    rw [Bool.and_eq_true, sameFrom_iff L M n (j + 1)]
    constructor
    · rintro ⟨h1, h2⟩ i hi hi2
      rcases Nat.eq_or_lt_of_le hi with rfl | h3
      · exact h1
      · exact h2 i h3 (by omega)
    · intro h
      exact ⟨h j (Nat.le_refl _) (by omega), fun i h1 h2 => h i (by omega) (by omega)⟩
theorem sameB_iff (L M : List Nd) : sameB L M = true ↔ L.length = M.length ∧ ∀ i : Nat, i < L.length → sameN (nd L i) (nd M i) = true := by
  unfold sameB
  rw [Bool.and_eq_true, decide_eq_true_iff, sameFrom_iff]
  constructor
  · rintro ⟨h1, h2⟩; exact ⟨h1, fun i hi => h2 i (Nat.zero_le _) (by omega)⟩
  · rintro ⟨h1, h2⟩; exact ⟨h1, fun i _ hi => h2 i (by omega)⟩
theorem sameB_bad {L M : List Nd} {i : Nat} (hi : i < L.length) (h : sameN (nd L i) (nd M i) = false) : sameB L M = false := by
  rcases Bool.eq_false_or_eq_true (sameB L M) with h1 | h1
  · have := ((sameB_iff L M).1 h1).2 i hi; rw [h] at this; cases this
  · exact h1
theorem sameB_len {L M : List Nd} (h : L.length ≠ M.length) : sameB L M = false := by
  unfold sameB; rw [decide_eq_false h]; rfl
theorem toL_inj {s t : ByteArray} (h : s.toList = t.toList) : s = t := by
  rw [ByteArray.toList_eq, ByteArray.toList_eq] at h
  exact ByteArray.ext (Array.toList_inj.1 h)
end
section
set_option linter.unusedVariables false
set_option linter.unusedSimpArgs false
set_option linter.unnecessarySimpa false
open Go.RowKit
attribute [local go_sem] cell_alloc_add cell_set_add lt_more
set_option maxRecDepth 100000 in
set_option maxHeartbeats 4000000 in
theorem EqualI_any (ks ls : List Int) (K K' : Option Addr) (n c m d : Nat) (hn : ks.length = n) (hm : ls.length = m) (hnc : n ≤ c) (hmd : m ≤ d) (hc : c ≤ maxLen) (hd : d ≤ maxLen) (w : World) (h : Rd w w.heap.size K n (ksV ks)) (h' : Rd w w.heap.size K' m (ksV ls)) : Calls Tryd.prog 13 #[.slice K n c, .slice K' m d] w fun e w' => e = .returned (.bool (eqI ks ls)) ∧ Below w.heap.size w w' := by
  have HK := Lib.hid h
  have HL := Lib.hid h'
  have HN := Lib.hid hn
  have HM := Lib.hid hm
  have hne := Lib.hid (fun e => eqI_len (a := ks) (b := ls) e)
  have hnj := Lib.hid (fun j e => eqI_ne (a := ks) (b := ls) (j := j) e)
  have hEE := Lib.hid (fun n e1 e2 e3 => eqI_eq (a := ks) (b := ls) (n := n) e1 e2 e3)
  clear h h' hn hm
  unfold maxLen at hc hd
  generalize eqI ks ls = R at *
  by_cases hnm : n = m
  · subst hnm
    go_enter Tryd.func13, Tryd.ntmps13
    go_wp2
    go_loopw [13] (fun t wr => ∃ q : Nat, q ≤ n ∧ t = .int .i64 (q : Int) ∧ Hid (ks.take q = ls.take q) ∧ ∃ e, wr = w.drewN e) (fun t _ => n - (intOf t).toNat)
    case atStart => exact ⟨0, Nat.zero_le _, rfl, Lib.hid rfl, 0, rfl⟩
    case round =>
      obtain ⟨q, hq, rfl, HT, e, rfl⟩ := hrel
      by_cases hlt : q < n
      · obtain ⟨k1, e1, hb1, kc1⟩ := HK.out q hlt
        obtain ⟨k2, e2, hb2, kc2⟩ := HL.out q hlt
        subst e1 e2
        replace kc1 : w.cell? (k1.add q) = some (.int .i64 (ks.getD q 0)) := kc1
        replace kc2 : w.cell? (k2.add q) = some (.int .i64 (ls.getD q 0)) := kc2
        have hnq := Lib.hid (fun e => hnj.out q e)
        have hTK := Lib.hid (fun e => take_eq (a := ks) (b := ls) (j := q) HN.out HM.out hlt HT.out e)
        generalize ks.getD q 0 = u at *
        generalize ls.getD q 0 = v at *
        by_cases huv : u = v
        · have huv' : (u != v) = false := by simpa using huv
          have hT2 := Lib.hid (hTK.out huv)
          clear huv
          go_wp2
          go_quiet (fail)
          go_wp2
          exact ⟨⟨q + 1, by omega, by go_num, hT2, _, rfl⟩, by simp [intOf]; omega⟩
        · have huv' : (u != v) = true := by simpa using huv
          have hR := hnq.out huv
          subst hR
          go_wp2
          go_quiet (fail)
          go_wp2
          go_ret
          exact ⟨rfl, (by (exact bl))⟩
      · obtain rfl : q = n := by omega
        have hR := hEE.out q HN.out HM.out HT.out
        subst hR
        go_wp2
        go_ret
        exact ⟨rfl, (by (exact bl))⟩
  · have hR := hne.out (by rw [HN.out, HM.out]; exact hnm)
    subst hR
    have hnm' : ((n : Int) != (m : Int)) = true := by simp; omega
    go_enter Tryd.func13, Tryd.ntmps13
    go_wp2
    go_ret
    exact ⟨rfl, (by (exact bl))⟩
end
section
set_option linter.unusedVariables false
set_option linter.unusedSimpArgs false
set_option linter.unnecessarySimpa false
open Go.RowKit
attribute [local go_sem] cell_alloc_add cell_set_add lt_more
set_option maxRecDepth 100000 in
set_option maxHeartbeats 4000000 in
theorem Same1_any (x y : Nd) (K K' : Option Addr) (kc kd : Nat) (h1 : x.ks.length ≤ kc) (h2 : kc ≤ maxLen) (h3 : y.ks.length ≤ kd) (h4 : kd ≤ maxLen) (w : World) (h : Rd w w.heap.size K x.ks.length (ksV x.ks)) (h' : Rd w w.heap.size K' y.ks.length (ksV y.ks)) : Calls Tryd.prog 12 #[.agg #[.int .i64 x.k, .string x.x, .int .i64 x.m, .slice K x.ks.length kc, .int .i64 x.p], .agg #[.int .i64 y.k, .string y.x, .int .i64 y.m, .slice K' y.ks.length kd, .int .i64 y.p]] w fun e w' => e = .returned (.bool (sameN x y)) ∧ Below w.heap.size w w' := by
  have HE := Lib.hid (fun W (hb : Below w.heap.size w W) => EqualI_any x.ks y.ks K K' x.ks.length kc y.ks.length kd rfl rfl h1 h3 h2 h4 W ((h.below hb).more hb.size) ((h'.below hb).more hb.size))
  have HS := Lib.hid (show sameN x y = (decide (x.k = y.k) && decide (x.x = y.x) && decide (x.m = y.m) && eqI x.ks y.ks) from rfl)
  clear h h'
  generalize eqI x.ks y.ks = r4 at *
  generalize sameN x y = R at *
  obtain ⟨xk, xx, xm, xks, xp⟩ := x
  obtain ⟨yk, yx, ym, yks, yp⟩ := y
  simp only at *
  by_cases e1 : xk = yk
  · by_cases e2 : xx = yx
    · by_cases e3 : xm = ym
      · have hR := HS.out
        rw [decide_eq_true e1, decide_eq_true e2, decide_eq_true e3, Bool.true_and, Bool.true_and, Bool.true_and] at hR
        subst hR e1 e2 e3
        clear HS
        go_enter Tryd.func12, Tryd.ntmps12
        go_wp2_with (first
          | (go_at_call 13; (with_reducible refine (HE.out _ (by (exact bl))).mono ?_); rintro e w1 ⟨rfl, b1⟩)
          | fail)
        go_ret
        exact ⟨rfl, Below.trans (b := _) (by (exact bl)) (b1.mono (by simp; omega))⟩
      · have hR := HS.out
        rw [decide_eq_true e1, decide_eq_true e2, decide_eq_false e3, Bool.true_and, Bool.true_and, Bool.false_and] at hR
        have e3' : (xm == ym) = false := by simpa using e3
        subst hR e1 e2
        clear HS
        go_enter Tryd.func12, Tryd.ntmps12
        go_wp2
        go_ret
        exact ⟨rfl, (by (exact bl))⟩
    · have hR := HS.out
      rw [decide_eq_true e1, decide_eq_false e2, Bool.true_and, Bool.false_and, Bool.false_and] at hR
      have e2'' : ¬ xx.toList = yx.toList := fun h => e2 (toL_inj h)
      have e2' : (xx.toList == yx.toList) = false := by simpa using e2''
      subst hR e1
      clear HS
      go_enter Tryd.func12, Tryd.ntmps12
      go_wp2
      go_ret
      exact ⟨rfl, (by (exact bl))⟩
  · have hR := HS.out
    rw [decide_eq_false e1, Bool.false_and, Bool.false_and, Bool.false_and] at hR
    have e1' : (xk == yk) = false := by simpa using e1
    subst hR
    clear HS
    go_enter Tryd.func12, Tryd.ntmps12
    go_wp2
    go_ret
    exact ⟨rfl, (by (exact bl))⟩
set_option maxRecDepth 100000 in
set_option maxHeartbeats 4000000 in
theorem EqualF_any (A A' : Option Addr) (L M : List Nd) (n c m d : Nat) (hn : L.length = n) (hm : M.length = m) (hnc : n ≤ c) (hmd : m ≤ d) (hcm : c ≤ maxLen) (hdm : d ≤ maxLen) (w : World) (h : TreeAt w w.heap.size A L) (h' : TreeAt w w.heap.size A' M) : Calls Tryd.prog 11 #[.slice A n c, .slice A' m d, .func (.func 12) #[] #[]] w fun e w' => e = .returned (.bool (sameB L M)) ∧ Below w.heap.size w w' := by
  have HL := Lib.hid h
  have HM := Lib.hid h'
  have HN := Lib.hid hn
  have HN' := Lib.hid hm
  have HBL := Lib.hid (fun e => sameB_len (L := L) (M := M) e)
  have HBB := Lib.hid (fun i hi e => sameB_bad (L := L) (M := M) (i := i) hi e)
  have HBI := Lib.hid (sameB_iff L M)
  clear h h' hn hm
  unfold maxLen at hcm hdm
  generalize sameB L M = R at *
  by_cases hnm : n = m
  · subst hnm
    go_enter Tryd.func11, Tryd.ntmps11
    go_wp2
    go_loopw [17] (fun t wr => ∃ q : Nat, q ≤ n ∧ t = .int .i64 (q : Int) ∧ Hid (∀ i : Nat, i < q → sameN (nd L i) (nd M i) = true) ∧ Below w.heap.size w wr) (fun t _ => n - (intOf t).toNat)
    case atStart => exact ⟨0, Nat.zero_le _, rfl, Lib.hid (fun i hi => by omega), Below.refl _ _⟩
    case round =>
      obtain ⟨q, hq, rfl, HT, hb⟩ := hrel
      generalize hwo : wr = wo at *
      clear hwo
      have hz := Below.size hb
      by_cases hlt : q < n
      · have hqL : q < L.length := by rw [HN.out]; exact hlt
        have hqM : q < M.length := by rw [HN'.out]; exact hlt
        obtain ⟨ad, rfl, hn⟩ := HL.out q hqL
        obtain ⟨ad', rfl, hn'⟩ := HM.out q hqM
        have g1 := hn.keep (W' := wo) (fun p hp => hb.cell hp)
        have g2 := hn'.keep (W' := wo) (fun p hp => hb.cell hp)
        have hb1 : (ad.add (q * 5)).block < wo.heap.size := Nat.lt_of_lt_of_le g1.blk hz
        have hb2 : (ad'.add (q * 5)).block < wo.heap.size := Nat.lt_of_lt_of_le g2.blk hz
        have hb3 : ad.block < wo.heap.size := by rw [block_add] at hb1; exact hb1
        have hb4 : ad'.block < wo.heap.size := by rw [block_add] at hb2; exact hb2
        obtain ⟨K0, kc0, c0, c1, c2, c3, c4, hK0, hkk, hkm⟩ := node_open g1
        obtain ⟨K1, kc1, d0, d1, d2, d3, d4, hK1, hkk1, hkm1⟩ := node_open g2
        have HS := Lib.hid (fun W (hb : Below wo.heap.size wo W) => Same1_any (nd L q) (nd M q) K0 K1 kc0 kc1 hkk hkm hkk1 hkm1 W (((hK0.more hz).below hb).more hb.size) (((hK1.more hz).below hb).more hb.size))
        have HB := Lib.hid (HBB.out q hqL)
        have HX := Lib.hid (show sameN (nd L q) (nd M q) = sameN (nd L q) (nd M q) from rfl)
        clear hn hn' g1 g2 hK0 hK1
        generalize hr : sameN (nd L q) (nd M q) = r at *
        have HRR := Lib.hid (show ∀ i : Nat, i = q → sameN (nd L i) (nd M i) = r from fun i hi => by subst hi; exact hr)
        clear hr HX
        generalize nd L q = x at *
        generalize nd M q = y at *
        obtain ⟨xk, xx, xm, xks, xp⟩ := x
        obtain ⟨yk, yx, ym, yks, yp⟩ := y
        simp only at c0 c1 c2 c3 c4 d0 d1 d2 d3 d4 hkk hkk1 HS
        cases r
        · have hR := HB.out rfl
          subst hR
          go_wp2_with (first
            | (go_at_call 12; (with_reducible refine (HS.out _ (by (exact bl))).mono ?_); rintro e w1 ⟨rfl, b1⟩)
            | fail)
          go_ret
          exact ⟨rfl, (Below.trans (a := w) (b := _) (by (exact bl)) (b1.mono (by simp; omega)))⟩
        · go_wp2_with (first
            | (go_at_call 12; (with_reducible refine (HS.out _ (by (exact bl))).mono ?_); rintro e w1 ⟨rfl, b1⟩)
            | fail)
          refine ⟨⟨q + 1, by omega, by go_num, Lib.hid (fun i hi => ?_), (Below.trans (a := w) (b := _) (by (exact bl)) (b1.mono (by simp; omega)))⟩, by simp [intOf]; omega⟩
          rcases Nat.lt_or_ge i q with h1 | h1
          · exact HT.out i h1
          · obtain rfl : i = q := by omega
            exact HRR.out i rfl
      · obtain rfl : q = n := by omega
        have hR : R = true := HBI.out.2 ⟨by rw [HN.out, HN'.out], fun i hi => HT.out i (by rw [HN.out] at hi; exact hi)⟩
        subst hR
        go_wp2
        go_ret
        exact ⟨rfl, hb⟩
  · have hR := HBL.out (by rw [HN.out, HN'.out]; exact hnm)
    subst hR
    have hnm' : ((n : Int) != (m : Int)) = true := by simp; omega
    go_enter Tryd.func11, Tryd.ntmps11
    go_wp2
    go_ret
    exact ⟨rfl, Below.refl _ _⟩
set_option maxRecDepth 100000 in
set_option maxHeartbeats 4000000 in
theorem Same_any (A A' : Option Addr) (L M : List Nd) (n c m d : Nat) (hn : L.length = n) (hm : M.length = m) (hnc : n ≤ c) (hmd : m ≤ d) (hcm : c ≤ maxLen) (hdm : d ≤ maxLen) (w : World) (h : TreeAt w w.heap.size A L) (h' : TreeAt w w.heap.size A' M) : Calls Tryd.prog 7 #[.agg #[.slice A n c], .agg #[.slice A' m d]] w fun e w' => e = .returned (.bool (sameB L M)) ∧ Below w.heap.size w w' := by
  have HE := Lib.hid (fun W (hb : Below w.heap.size w W) => EqualF_any A A' L M n c m d hn hm hnc hmd hcm hdm W ((h.below hb).more hb.size) ((h'.below hb).more hb.size))
  clear h h'
  generalize sameB L M = R at *
  go_enter Tryd.func7, Tryd.ntmps7
  go_wp2_with (first
    | (go_at_call 11; (with_reducible refine (HE.out _ (by (exact bl))).mono ?_); rintro e w1 ⟨rfl, b1⟩)
    | fail)
  go_ret
  exact ⟨rfl, Below.trans (a := w) (b := _) (by (exact bl)) (b1.mono (by simp; omega))⟩
end
end Go.Proofs.YtpkdhciokiomlaaDoor
