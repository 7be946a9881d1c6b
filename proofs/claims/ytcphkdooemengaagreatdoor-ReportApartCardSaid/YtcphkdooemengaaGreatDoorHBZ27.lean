/- Some texts of this claim, put together. -/
import Derived.Test.YtcphkdooemengaaGreatDoorHBZ25
import Derived.Test.YtcphkdooemengaaGreatDoorHBZ26
import Derived.Lib.SliceRun
import Derived.RegionTactic
import Derived.Deep.DeepCutAuto
import Derived.Deep.CutBlock
import Derived.Test.YtcphkdooemengaaGreatDoorHBZ5
import Derived.Deep.QuietTactic
import Derived.Test.YtcphkdooemengaaGreatDoorHLt0
import Derived.Test.YtcphkdooemengaaGreatDoorHBZ28
import Derived.Deep.RegionLaw
import Derived.Deep.CutRange
namespace Go.Proofs.YtcphkdooemengaaGreatDoor
section
set_option linter.unusedVariables false
set_option linter.unusedSimpArgs false
set_option linter.unnecessarySimpa false
open Go.RowKit
attribute [local go_sem] cell_alloc_add cell_set_add lt_more
theorem infoInt : (Tryz.prog.info? 3).map (fun i => (i.zero, i.size, i.bytes)) = some (some (.int .i64 0), 1, 8) := by kernel_rfl
theorem infoNode : (Tryz.prog.info? 36).map (fun i => (i.zero, i.size, i.bytes)) = some (some (.agg #[.int .i64 0, .string ⟨#[]⟩, .int .i64 0, .slice none 0 0, .int .i64 0]), 5, 64) := by kernel_rfl
theorem firsts_ks (ks : List Int) : firsts (ksV ks) ks.length = intsC ks := by
  apply List.ext_getElem?
  intro j
  by_cases hj : j < ks.length
  · rw [firsts_at hj, ksV_get hj]
  · rw [List.getElem?_eq_none (by rw [firsts_len]; omega), List.getElem?_eq_none (by simp [intsC]; omega)]
theorem row5_lies {w : World} {g : Nat} {t : TypeId} {a b c d e : Value} (h : Row w g t #[a, b, c, d, e]) : ∀ j u, [a, b, c, d, e][j]? = some u → w.cell? ((⟨g, 0, none⟩ : Addr).add j) = some u := fun j u hj => by
  rw [add_row, h.cell, Nat.zero_add, ← hj]; simp
theorem ndC_one (p : NdV) (h : p.2.oneCell' = true) : ∀ u ∈ ndC p, u.oneCell' = true := by
  intro u hu; simp [ndC] at hu; rcases hu with rfl | rfl | rfl | rfl | rfl <;> first | rfl | exact h
theorem own_one {W : World} {base n : Nat} {e : TypeId} {size : Nat} {v : Value} {xs : List Value} (h : W.ownsRow base e size v n xs) : v.oneCell' = true := by
  obtain ⟨A, c, rfl, _⟩ := own_slice h; rfl
end
section
set_option linter.unusedVariables false
set_option linter.unusedSimpArgs false
set_option linter.unnecessarySimpa false
open Go.RowKit
def eqI (a b : List Int) : Bool := decide (a = b)
theorem eqI_len {a b : List Int} (h : a.length ≠ b.length) : eqI a b = false := by
  unfold eqI; rw [decide_eq_false]; intro e; exact h (by rw [e])
theorem eqI_ne {a b : List Int} {j : Nat} (h : a.getD j 0 ≠ b.getD j 0) : eqI a b = false := by
  unfold eqI; rw [decide_eq_false]; intro e; exact h (by rw [e])
theorem eqI_eq {a b : List Int} {n : Nat} (ha : a.length = n) (hb : b.length = n) (h : a.take n = b.take n) : eqI a b = true := by
  unfold eqI
  rw [List.take_of_length_le (by omega), List.take_of_length_le (by omega)] at h
  exact decide_eq_true h
theorem take_eq {a b : List Int} {j n : Nat} (ha : a.length = n) (hb : b.length = n) (hj : j < n) (h : a.take j = b.take j) (he : a.getD j 0 = b.getD j 0) : a.take (j + 1) = b.take (j + 1) := by
  rw [List.take_succ_eq_append_getElem (by omega), List.take_succ_eq_append_getElem (by omega), h]
  have e1 : a.getD j 0 = a[j]'(by omega) := by rw [List.getD_eq_getElem?_getD, List.getElem?_eq_getElem (by omega)]; rfl
  have e2 : b.getD j 0 = b[j]'(by omega) := by rw [List.getD_eq_getElem?_getD, List.getElem?_eq_getElem (by omega)]; rfl
  rw [← e1, ← e2, he]
/-- Two nodes are the same but for At. -/
def sameN (x y : Nd) : Bool := decide (x.k = y.k) && decide (x.x = y.x) && decide (x.m = y.m) && eqI x.ks y.ks
def sameFrom (L M : List Nd) : Nat → Nat → Bool
  | _, 0 => true
  | j, n + 1 => sameN (nd L j) (nd M j) && sameFrom L M (j + 1) n
def sameB (L M : List Nd) : Bool := decide (L.length = M.length) && sameFrom L M 0 L.length
theorem sameN_iff (x y : Nd) : sameN x y = true ↔ x.k = y.k ∧ x.x = y.x ∧ x.m = y.m ∧ x.ks = y.ks := by
  simp [sameN, eqI, and_assoc]
theorem sameFrom_iff (L M : List Nd) : ∀ n j, sameFrom L M j n = true ↔ ∀ i, j ≤ i → i < j + n → sameN (nd L i) (nd M i) = true
  | 0, j => by simp [sameFrom]; intro i h1 h2; omega
  | n + 1, j => by
    show (sameN (nd L j) (nd M j) && sameFrom L M (j + 1) n) = true ↔ _
    rw [Bool.and_eq_true, sameFrom_iff L M n (j + 1)]
    constructor
    · rintro ⟨h1, h2⟩ i hi hi2
      rcases Nat.eq_or_lt_of_le hi with rfl | h3
      · exact h1
      · exact h2 i h3 (by omega)
    · intro h
      exact ⟨h j (Nat.le_refl _) (by omega), fun i h1 h2 => h i (by omega) (by omega)⟩
theorem sameB_iff (L M : List Nd) : sameB L M = true ↔ L.length = M.length ∧ ∀ i : Nat, i < L.length → sameN (nd L i) (nd M i) = true := by
  unfold sameB
  rw [Bool.and_eq_true, decide_eq_true_iff, sameFrom_iff]
  constructor
  · rintro ⟨h1, h2⟩; exact ⟨h1, fun i hi => h2 i (Nat.zero_le _) (by omega)⟩
  · rintro ⟨h1, h2⟩; exact ⟨h1, fun i _ hi => h2 i (by omega)⟩
theorem sameB_bad {L M : List Nd} {i : Nat} (hi : i < L.length) (h : sameN (nd L i) (nd M i) = false) : sameB L M = false := by
  rcases Bool.eq_false_or_eq_true (sameB L M) with h1 | h1
  · have := ((sameB_iff L M).1 h1).2 i hi; rw [h] at this; cases this
  · exact h1
theorem sameB_len {L M : List Nd} (h : L.length ≠ M.length) : sameB L M = false := by
  unfold sameB; rw [decide_eq_false h]; rfl
theorem toL_inj {s t : ByteArray} (h : s.toList = t.toList) : s = t := by
  rw [ByteArray.toList_eq, ByteArray.toList_eq] at h
  exact ByteArray.ext (Array.toList_inj.1 h)
end
section
set_option linter.unusedVariables false
set_option linter.unusedSimpArgs false
set_option linter.unnecessarySimpa false
open Go.RowKit
attribute [local go_sem] cell_alloc_add cell_set_add lt_more
set_option maxRecDepth 100000 in
set_option maxHeartbeats 4000000 in
theorem ints_any (ks ls : List Int) (K K' : Option Addr) (n c m d : Nat) (hn : ks.length = n) (hm : ls.length = m) (hnc : n ≤ c) (hmd : m ≤ d) (hc : c ≤ maxLen) (hd : d ≤ maxLen) (w : World) (h : Rd w w.heap.size K n (ksV ks)) (h' : Rd w w.heap.size K' m (ksV ls)) : Calls Tryz.prog 24 #[.slice K n c, .slice K' m d] w fun e w' => e = .returned (.bool (eqI ks ls)) ∧ Below w.heap.size w w' := by
  have HK := Lib.hid h
  have HL := Lib.hid h'
  have HN := Lib.hid hn
  have HM := Lib.hid hm
  have hne := Lib.hid (fun e => eqI_len (a := ks) (b := ls) e)
  have hnj := Lib.hid (fun j e => eqI_ne (a := ks) (b := ls) (j := j) e)
  have hEE := Lib.hid (fun n e1 e2 e3 => eqI_eq (a := ks) (b := ls) (n := n) e1 e2 e3)
  clear h h' hn hm
  unfold maxLen at hc hd
  generalize eqI ks ls = R at *
  by_cases hnm : n = m
  · subst hnm
    go_enter Tryz.func24, Tryz.ntmps24
    go_wp2
    go_loopw [5] (fun t wr => ∃ q : Nat, q ≤ n ∧ t = .int .i64 (q : Int) ∧ Hid (ks.take q = ls.take q) ∧ ∃ e, wr = w.drewN e) (fun t _ => n - (intOf t).toNat)
    case atStart => exact ⟨0, Nat.zero_le _, rfl, Lib.hid rfl, 0, rfl⟩
    case round =>
      obtain ⟨q, hq, rfl, HT, e, rfl⟩ := hrel
      by_cases hlt : q < n
      · obtain ⟨k1, e1, hb1, kc1⟩ := HK.out q hlt
        obtain ⟨k2, e2, hb2, kc2⟩ := HL.out q hlt
        subst e1 e2
        replace kc1 : w.cell? (k1.add q) = some (.int .i64 (ks.getD q 0)) := kc1
        replace kc2 : w.cell? (k2.add q) = some (.int .i64 (ls.getD q 0)) := kc2
        have hnq := Lib.hid (fun e => hnj.out q e)
        have hTK := Lib.hid (fun e => take_eq (a := ks) (b := ls) (j := q) HN.out HM.out hlt HT.out e)
        generalize ks.getD q 0 = u at *
        generalize ls.getD q 0 = v at *
        by_cases huv : u = v
        · have huv' : (u != v) = false := by simpa using huv
          have hT2 := Lib.hid (hTK.out huv)
          clear huv
          go_wp2
          go_quiet (fail)
          go_wp2
          exact ⟨⟨q + 1, by omega, by go_num, hT2, _, rfl⟩, by simp [intOf]; omega⟩
        · have huv' : (u != v) = true := by simpa using huv
          have hR := hnq.out huv
          subst hR
          go_wp2
          go_quiet (fail)
          go_wp2
          go_ret
          exact ⟨rfl, (by (exact bl))⟩
      · obtain rfl : q = n := by omega
        have hR := hEE.out q HN.out HM.out HT.out
        subst hR
        go_wp2
        go_ret
        exact ⟨rfl, (by (exact bl))⟩
  · have hR := hne.out (by rw [HN.out, HM.out]; exact hnm)
    subst hR
    have hnm' : ((n : Int) != (m : Int)) = true := by simp; omega
    go_enter Tryz.func24, Tryz.ntmps24
    go_wp2
    go_ret
    exact ⟨rfl, (by (exact bl))⟩
end
section
set_option linter.unusedVariables false
set_option linter.unusedSimpArgs false
set_option linter.unnecessarySimpa false
open Go.RowKit
attribute [local go_sem] cell_alloc_add cell_set_add lt_more
set_option maxRecDepth 100000 in
set_option maxHeartbeats 16000000 in
theorem back_any (l : List NdV) (L : List Nd) (hlL : l.map (·.1) = L) (g n c base : Nat) (hn : l.length = n) (hnb : n ≤ 1000000) (hks : ∀ p ∈ l, p.1.ks.length ≤ 1000000000000) (A2 : Option Addr) (c2 : Nat) (hc2 : n ≤ c2) (hm2 : c2 ≤ maxLen) (w : World) (h : LentT w base (.slice (some ⟨g, 0, none⟩) n c) l) (h2 : TreeAt w w.heap.size A2 L) :
    Calls Tryz.prog 9 #[.agg #[.slice (some ⟨g, 0, none⟩) n c], .agg #[.slice A2 n c2]] w fun e w' => e = .returned (.bool true) ∧ Below w.heap.size w w' := by
  obtain ⟨wa, hwa⟩ : ∃ wa : World, wa = (w.alloc (.cells #[.slice (some ⟨g, 0, none⟩) n c] 24)).alloc (.cells #[.slice A2 n c2] 24) := ⟨_, rfl⟩
  have bA : Below w.heap.size w wa := by rw [hwa]; exact (by (exact bl))
  have zA : w.heap.size + 1 < wa.heap.size := by rw [hwa]; simp
  have rA : Row wa w.heap.size 24 #[.slice (some ⟨g, 0, none⟩) n c] := by rw [hwa]; exact (row_new rfl).alloc _
  have rB : Row wa (w.heap.size + 1) 24 #[.slice A2 n c2] := by rw [hwa]; exact row_new (by simp)
  obtain ⟨A', c', e, hc1, hm1, hT, g', e2, hmk⟩ := h.tree
  injection e with e1 ex e3
  clear ex
  subst e3
  rw [e2] at e1; injection e1 with e1; injection e1 with e1
  subst e1
  rw [hn] at hc1 hmk
  have hgl : g < w.heap.size := World.block_lt_of_cell? w _ hmk
  have hmk2 : wa.cell? ⟨g, n * 5, none⟩ = some (.int .i64 171) := (bA.cell (p := ⟨g, n * 5, none⟩) hgl).trans hmk
  have hl : Hid (LentT w base (.slice (some ⟨g, 0, none⟩) n c) l) := Lib.hid h
  have HN := Lib.hid hn
  have HLL := Lib.hid hlL
  have HKS := Lib.hid hks
  have HT2 := Lib.hid h2
  have a0 := rA.cell 0
  have b0 := rB.cell 0
  simp at a0 b0
  unfold maxLen at hm1 hm2
  have hwr : IntKind.i64.wrap ((n : Int) + 1) = ((n + 1 : Nat) : Int) := by rw [IntKind.wrap_i64]; omega
  have hcc : ((n + 1 : Nat) : Int) ≤ (c : Int) := by omega
  have hnn : ((n : Int) != (n : Int)) = false := by simp
  have hni : (n : Int) < ((n + 1 : Nat) : Int) := by omega
  clear h h2 hlL hks hn hT hmk e2
  go_enter Tryz.func9, Tryz.ntmps9
  go_upto_region 1 with fail
  rw [← hwa]
  clear hwa
  go_quiet (fail)
  go_wp2
  go_loopw [5] (fun t wr => ∃ q : Nat, t = .int .i64 (q : Int) ∧ q ≤ n ∧ Row wr w.heap.size 24 #[.slice (some ⟨g, 0, none⟩) n c] ∧ Row wr (w.heap.size + 1) 24 #[.slice A2 n c2] ∧ Below w.heap.size w wr) (fun t _ => n - (intOf t).toNat)
  case atStart => exact ⟨0, rfl, Nat.zero_le _, rA, rB, below_drewN bA _⟩
  case round =>
    obtain ⟨q, rfl, hq, rA, rB, hb⟩ := hrel
    clear hmk2 a0 b0 bA zA
    generalize hwo : wr = wo at *
    clear hwo
    have hz := Below.size hb
    have lA := rA.lt
    have lB := rB.lt
    have a0 := rA.cell 0
    have b0 := rB.cell 0
    simp at a0 b0
    by_cases hlt : q < n
    · have hql : q < l.length := by rw [HN.out]; exact hlt
      rcases hp0 : l[q] with ⟨y, S⟩
      have hat : l[q]? = some (y, S) := by rw [List.getElem?_eq_getElem hql, hp0]
      have hpl : (y, S) ∈ l := List.mem_of_getElem? hat
      obtain ⟨A', c', e, ho⟩ := hl.out.row
      injection e with e1 ex e3
      clear ex
      subst e1 e3
      have hnd : nd L q = y := by
        have h1 : L[q]? = some y := by rw [← HLL.out, List.getElem?_map, hat]; rfl
        have hqL : q < L.length := (List.getElem?_eq_some_iff.1 h1).1
        rw [nd_get hqL] at h1
        exact Option.some.inj h1
      have hqL : q < L.length := by rw [← HLL.out, List.length_map]; exact hql
      obtain ⟨K, kc, eS, hrK, hk1, hk2, gK, eK, hmK⟩ := lentK_rd (hl.out.kids (y, S) hpl)
      simp only at eS hrK hk1 hmK
      subst eS eK
      have hks0 := HKS.out _ hpl
      simp only at hks0
      have nc : ∀ i, i < 5 → wo.cell? ⟨g, q * 5 + i, none⟩ = (ndC (y, Value.slice (some ⟨gK, 0, none⟩) y.ks.length kc))[i]? := fun i hi =>
        (hb.cell (p := ⟨g, q * 5 + i, none⟩) hgl).trans ((ho.cellAt (q * 5 + i) (by rw [HN.out]; omega)).trans (ndsC_take hat i hi [markN]))
      have n0 := nc 0 (by omega)
      have n1 := nc 1 (by omega)
      have n2 := nc 2 (by omega)
      have n3 := nc 3 (by omega)
      have n4 := nc 4 (by omega)
      simp only [ndC, Nat.add_zero] at n0 n1 n2 n3 n4
      have hgK : gK < w.heap.size := World.block_lt_of_cell? w _ hmK
      have mK : wo.cell? ⟨gK, y.ks.length, none⟩ = some (.int .i64 171) := (hb.cell (p := ⟨gK, y.ks.length, none⟩) hgK).trans hmK
      obtain ⟨ad, rfl, hn⟩ := HT2.out q hqL
      rw [hnd] at hn
      have hn' := hn.keep (W' := wo) (fun p hp => hb.cell hp)
      have hbq : (ad.add (q * 5)).block < wo.heap.size := Nat.lt_of_lt_of_le hn.blk hz
      have hba : ad.block < wo.heap.size := by rw [block_add] at hbq; exact hbq
      obtain ⟨K2, kc2, c0, c1, c2', c3, c4, hK2, hkk2, hkm2⟩ := node_open hn'
      have hgo : g < wo.heap.size := by omega
      have hgKo : gK < wo.heap.size := by omega
      have HRK := Lib.hid ((hrK.below hb).more hz)
      have HRK2 := Lib.hid (hK2.more hz)
      clear hat hpl hp0 ho hnd hn hn' hrK hK2 hmK nc
      obtain ⟨yk, yx, ym, yks, yp⟩ := y
      simp only at n0 n1 n2 n3 n4 mK c0 c1 c2' c3 c4 hks0 hk1 hk2 hkk2 HRK HRK2
      have HI := Lib.hid (fun W (hb2 : Below wo.heap.size wo W) => ints_any yks yks (some ⟨gK, 0, none⟩) K2 yks.length kc yks.length kc2 rfl rfl (by omega) hkk2 hk2 hkm2 W ((HRK.out.below hb2).more hb2.size) ((HRK2.out.below hb2).more hb2.size))
      rw [show eqI yks yks = true from by simp [eqI]] at HI
      generalize yks.length = m at *
      unfold maxLen at hk2 hkm2
      have hqi : (q : Int) < (n : Int) := by omega
      have hwm : IntKind.i64.wrap ((m : Int) + 1) = ((m + 1 : Nat) : Int) := by rw [IntKind.wrap_i64]; omega
      have hmc : ((m + 1 : Nat) : Int) ≤ (kc : Int) := by omega
      have hmi : (m : Int) < ((m + 1 : Nat) : Int) := by omega
      clear hwr hcc hnn hni
      obtain ⟨wb, hwb⟩ : ∃ wb : World, wb = wo.alloc (.cells #[.int .i64 yk, .string yx, .int .i64 ym, .slice K2 m kc2, .int .i64 yp] 36) := ⟨_, rfl⟩
      go_upto_region 8 with fail
      rw [← hwb]
      obtain ⟨gY, hgY⟩ : ∃ gY, gY = wo.heap.size := ⟨_, rfl⟩
      have bB : Below wo.heap.size wo wb := by rw [hwb]; exact (Below.refl _ _).alloc (Nat.le_refl _) _
      have rY : Row wb gY 36 #[.int .i64 yk, .string yx, .int .i64 ym, .slice K2 m kc2, .int .i64 yp] := by rw [hwb]; exact row_new hgY
      rw [← hgY]
      have lY := rY.lt
      have rA' := rA.below bB lA
      have rB' := rB.below bB lB
      have lA' := rA'.lt
      have lB' := rB'.lt
      have gl : g < wb.heap.size := by have := bB.size; omega
      have gKl : gK < wb.heap.size := by have := bB.size; omega
      have hbb := hb.trans (bB.mono hz)
      have hzb := Below.size hbb
      have KI := Lib.hid (fun x : Later wb => HI.out x.w (bB.trans (x.h.mono bB.size)))
      have La : ∀ x : Later wb, x.w.cell? ⟨w.heap.size, 0, none⟩ = some (.slice (some ⟨g, 0, none⟩) n c) := fun x => (x.cell lA').trans (rA'.cell 0)
      have Lb : ∀ x : Later wb, x.w.cell? ⟨w.heap.size + 1, 0, none⟩ = some (.slice (some ad) n c2) := fun x => (x.cell lB').trans (rB'.cell 0)
      have L0 : ∀ x : Later wb, x.w.cell? ⟨g, q * 5, none⟩ = some (.int .i64 yk) := fun x => (x.cell gl).trans ((bB.cell (p := ⟨g, q * 5, none⟩) hgo).trans n0)
      have L1 : ∀ x : Later wb, x.w.cell? ⟨g, q * 5 + 1, none⟩ = some (.string yx) := fun x => (x.cell gl).trans ((bB.cell (p := ⟨g, q * 5 + 1, none⟩) hgo).trans n1)
      have L2 : ∀ x : Later wb, x.w.cell? ⟨g, q * 5 + 2, none⟩ = some (.int .i64 ym) := fun x => (x.cell gl).trans ((bB.cell (p := ⟨g, q * 5 + 2, none⟩) hgo).trans n2)
      have L4 : ∀ x : Later wb, x.w.cell? ⟨g, q * 5 + 4, none⟩ = some (.int .i64 yp) := fun x => (x.cell gl).trans ((bB.cell (p := ⟨g, q * 5 + 4, none⟩) hgo).trans n4)
      have LK : ∀ x : Later wb, x.w.cell? ⟨gK, m, none⟩ = some (.int .i64 171) := fun x => (x.cell gKl).trans ((bB.cell (p := ⟨gK, m, none⟩) hgKo).trans mK)
      have Y0 : ∀ x : Later wb, x.w.cell? ⟨gY, 0, none⟩ = some (.int .i64 yk) := fun x => (x.cell lY).trans (rY.cell 0)
      have Y1 : ∀ x : Later wb, x.w.cell? ⟨gY, 1, none⟩ = some (.string yx) := fun x => (x.cell lY).trans (rY.cell 1)
      have Y2 : ∀ x : Later wb, x.w.cell? ⟨gY, 2, none⟩ = some (.int .i64 ym) := fun x => (x.cell lY).trans (rY.cell 2)
      have Y3 : ∀ x : Later wb, x.w.cell? ⟨gY, 3, none⟩ = some (.slice K2 m kc2) := fun x => (x.cell lY).trans (rY.cell 3)
      have Y4 : ∀ x : Later wb, x.w.cell? ⟨gY, 4, none⟩ = some (.int .i64 yp) := fun x => (x.cell lY).trans (rY.cell 4)
      have LW : Below wb.heap.size wb wb := Below.refl _ _
      clear hwb hgY n0 n1 n2 n3 n4 mK c0 c1 c2' c3 c4 a0 b0
      refine wp_region_later wb LW (by kernel_rfl) (by kernel_rfl) ?_
      repeat (first | go_big_quiet_step (with_reducible exact Later.call (KI.out _)) | quiet_step (with_reducible exact Later.call (KI.out _)))
      refine wpQuiet_nil ?_
      intro _ hw'
      obtain ⟨xq, hw''⟩ := hw'
      subst hw''
      go_wp2
      exact ⟨⟨q + 1, by go_num, by omega, rA'.below xq.h lA', rB'.below xq.h lB', hbb.trans (xq.h.mono hzb)⟩, by simp [intOf]; omega⟩
    · obtain rfl : q = n := by omega
      go_wp2
      go_ret
      exact ⟨rfl, hb⟩
end
section
set_option linter.unusedVariables false
set_option linter.unusedSimpArgs false
set_option linter.unnecessarySimpa false
open Go.RowKit
attribute [local go_sem] cell_alloc_add cell_set_add lt_more
theorem step_append_own {P : Program} {ops : Array Oper} {o : Oper} {a : Act} {w : World} {K : Act → World → Prop} {Q : Exit → Act → World → Prop} {E : Prop} (hgd : o.guard = none) (s x : Operand) (t : TypeId)
    (ho : o.op = .call { callee := .builtin .append, args := #[s, x], argTypes := #[t, t] })
    (base : Nat) (e : TypeId) (i : TypeInfo) (z : Value) (size bytes : Nat) (ht : P.underlying t = some (.slice e)) (hi : P.info? e = some i) (hz : i.zero = some z)
    (hsize : i.size = size) (hby : i.bytes = bytes) (hzs : z.cells.size = size) (hsz : 0 < size)
    (v : Value) (n : Nat) (xs : List Value) (hs : a.eval s = v) (hown : w.ownsRow base e size v n xs)
    (ad : Addr) (m c : Nat) (news : List Value) (hx : a.eval x = .slice (some ad) m c) (hl : news.length = m * size) (hnews : ∀ j u, news[j]? = some u → w.cell? (ad.add j) = some u) (h1 : ∀ u ∈ news, u.oneCell' = true)
    (h63 : n + m ≤ maxLen) (hbytes : (n + m) * bytes ≤ 140737488355328) (hbase : base ≤ w.heap.size)
    (h : ∀ v' w', w'.ownsRow base e size v' (n + m) (xs ++ news) → w.grownBy w' v.ownBlock → (v'.ownBlock = v.ownBlock ∨ v'.ownBlock = some w.heap.size) → K (a.put o.dst v') w') : if Region.wanted o (yielded ops a.tmps) = true then Oper.wp P o a w K Q else E := by
  rw [if_pos (by simp [Region.wanted, hgd])]
  obtain ⟨v', w', hr, h2, h3, _, h5⟩ := run_append_own_at (P := P) w base t o.type e i z size bytes ht hi hz hsize hby hzs hsz v n xs hown ad m c news hl hnews h1 h63 hbytes hbase
  unfold Oper.wp execOp
  simp only [ho, resolve, invoke, builtin, Sem.run_bind, Sem.run_pure, Result.andThen_ok, List.map_toArray, List.map_cons, List.map_nil, hs, hx, hr]
  exact h v' w' h2 h3 h5
end
section
set_option linter.unusedVariables false
set_option linter.unusedSimpArgs false
set_option linter.unnecessarySimpa false
open Go.RowKit
attribute [local go_sem] cell_alloc_add cell_set_add lt_more
set_option maxRecDepth 100000 in
set_option maxHeartbeats 8000000 in
theorem rSame_any (A A' : Option Addr) (L M : List Nd) (n c m d : Nat) (hn : L.length = n) (hm : M.length = m) (hnc : n ≤ c) (hmd : m ≤ d) (hcm : c ≤ maxLen) (hdm : d ≤ maxLen) (w : World) (h : TreeAt w w.heap.size A L) (h' : TreeAt w w.heap.size A' M) : Calls Tryz.prog 12 #[.agg #[.slice A n c], .agg #[.slice A' m d]] w fun e w' => e = .returned (.bool (sameB L M)) ∧ Below w.heap.size w w' := by
  have HL := Lib.hid h
  have HM := Lib.hid h'
  have HN := Lib.hid hn
  have HN' := Lib.hid hm
  have HBL := Lib.hid (fun e => sameB_len (L := L) (M := M) e)
  have HBB := Lib.hid (fun i hi e => sameB_bad (L := L) (M := M) (i := i) hi e)
  have HBI := Lib.hid (sameB_iff L M)
  clear h h' hn hm
  unfold maxLen at hcm hdm
  generalize sameB L M = R at *
  obtain ⟨wa, hwa⟩ : ∃ wa : World, wa = (w.alloc (.cells #[.slice A n c] 24)).alloc (.cells #[.slice A' m d] 24) := ⟨_, rfl⟩
  have bA : Below w.heap.size w wa := by rw [hwa]; exact (by (exact bl))
  have zA : w.heap.size + 1 < wa.heap.size := by rw [hwa]; simp
  have rA : Row wa w.heap.size 24 #[.slice A n c] := by rw [hwa]; exact (row_new rfl).alloc _
  have rB : Row wa (w.heap.size + 1) 24 #[.slice A' m d] := by rw [hwa]; exact row_new (by simp)
  have a0 := rA.cell 0
  have b0 := rB.cell 0
  simp at a0 b0
  by_cases hnm : n = m
  · subst hnm
    go_enter Tryz.func12, Tryz.ntmps12
    go_upto_region 1 with fail
    rw [← hwa]
    clear hwa
    go_wp2
    go_loopw [5] (fun t wr => ∃ q : Nat, q ≤ n ∧ t = .int .i64 (q : Int) ∧ Hid (∀ i : Nat, i < q → sameN (nd L i) (nd M i) = true) ∧ Row wr w.heap.size 24 #[.slice A n c] ∧ Row wr (w.heap.size + 1) 24 #[.slice A' n d] ∧ Below w.heap.size w wr) (fun t _ => n - (intOf t).toNat)
    case atStart => exact ⟨0, Nat.zero_le _, rfl, Lib.hid (fun i hi => by omega), rA, rB, bA⟩
    case round =>
      obtain ⟨q, hq, rfl, HT, rAo, rBo, hb⟩ := hrel
      clear rA rB bA a0 b0 zA
      generalize hwo : wr = wo at *
      clear hwo
      have hz := Below.size hb
      have lA := rAo.lt
      have lB := rBo.lt
      have a0 := rAo.cell 0
      have b0 := rBo.cell 0
      simp at a0 b0
      by_cases hlt : q < n
      · have hqL : q < L.length := by rw [HN.out]; exact hlt
        have hqM : q < M.length := by rw [HN'.out]; exact hlt
        obtain ⟨ad, rfl, hn⟩ := HL.out q hqL
        obtain ⟨ad', rfl, hn'⟩ := HM.out q hqM
        have g1 := hn.keep (W' := wo) (fun p hp => hb.cell hp)
        have g2 := hn'.keep (W' := wo) (fun p hp => hb.cell hp)
        have hb1 : (ad.add (q * 5)).block < wo.heap.size := Nat.lt_of_lt_of_le g1.blk hz
        have hb2 : (ad'.add (q * 5)).block < wo.heap.size := Nat.lt_of_lt_of_le g2.blk hz
        have hb3 : ad.block < wo.heap.size := by rw [block_add] at hb1; exact hb1
        have hb4 : ad'.block < wo.heap.size := by rw [block_add] at hb2; exact hb2
        obtain ⟨K0, kc0, c0, c1, c2, c3, c4, hK0, hkk, hkm⟩ := node_open g1
        obtain ⟨K1, kc1, d0, d1, d2, d3, d4, hK1, hkk1, hkm1⟩ := node_open g2
        have HB := Lib.hid (HBB.out q hqL)
        have HS := Lib.hid (show sameN (nd L q) (nd M q) = (decide ((nd L q).k = (nd M q).k) && decide ((nd L q).x = (nd M q).x) && decide ((nd L q).m = (nd M q).m) && eqI (nd L q).ks (nd M q).ks) from rfl)
        have HRR := Lib.hid (show sameN (nd L q) (nd M q) = true → ∀ i : Nat, i = q → sameN (nd L i) (nd M i) = true from fun h i hi => by subst hi; exact h)
        have hK0' := hK0.more hz
        have hK1' := hK1.more hz
        clear hn hn' g1 g2 hK0 hK1
        generalize sameN (nd L q) (nd M q) = r at *
        generalize nd L q = x at *
        generalize nd M q = y at *
        obtain ⟨xk, xx, xm, xks, xp⟩ := x
        obtain ⟨yk, yx, ym, yks, yp⟩ := y
        simp only at c0 c1 c2 c3 c4 d0 d1 d2 d3 d4 hkk hkk1 HS hK0' hK1'
        unfold maxLen at hkm hkm1
        by_cases e1 : xk = yk
        · by_cases e2 : xx = yx
          · by_cases e3 : xm = ym
            · subst e1 e2 e3
              have hne := Lib.hid (fun e => eqI_len (a := xks) (b := yks) e)
              have hnj := Lib.hid (fun j e => eqI_ne (a := xks) (b := yks) (j := j) e)
              have hEE := Lib.hid (fun n e1 e2 e3 => eqI_eq (a := xks) (b := yks) (n := n) e1 e2 e3)
              have hR := HS.out
              rw [decide_eq_true rfl, decide_eq_true rfl, decide_eq_true rfl, Bool.true_and, Bool.true_and, Bool.true_and] at hR
              subst hR
              clear HS
              generalize eqI xks yks = r at *
              generalize hM1 : xks.length = M1 at *
              generalize hM2 : yks.length = M2 at *
              have HM1 := Lib.hid hM1
              have HM2 := Lib.hid hM2
              clear hM1 hM2
              by_cases e4 : M1 = M2
              · subst e4
                have e4' : ((M1 : Int) != (M1 : Int)) = false := by simp
                obtain ⟨wb, hwb⟩ : ∃ wb : World, wb = (wo.alloc (.cells #[.int .i64 xk, .string xx, .int .i64 xm, .slice K0 M1 kc0, .int .i64 xp] 36)).alloc (.cells #[.int .i64 xk, .string xx, .int .i64 xm, .slice K1 M1 kc1, .int .i64 yp] 36) := ⟨_, rfl⟩
                have bB : Below wo.heap.size wo wb := by rw [hwb]; exact (((Below.refl _ wo).alloc (Nat.le_refl _) _).alloc (by simp) _)
                have r6 : Row wb wo.heap.size 36 #[.int .i64 xk, .string xx, .int .i64 xm, .slice K0 M1 kc0, .int .i64 xp] := by rw [hwb]; exact (row_new rfl).alloc _
                have r7 : Row wb (wo.heap.size + 1) 36 #[.int .i64 xk, .string xx, .int .i64 xm, .slice K1 M1 kc1, .int .i64 yp] := by rw [hwb]; exact row_new (by simp)
                have s60 := r6.cell 0
                have s61 := r6.cell 1
                have s62 := r6.cell 2
                have s63 := r6.cell 3
                have s70 := r7.cell 0
                have s71 := r7.cell 1
                have s72 := r7.cell 2
                have s73 := r7.cell 3
                simp at s60 s61 s62 s63 s70 s71 s72 s73
                have HK := Lib.hid ((hK0'.below bB).more bB.size)
                have HK' := Lib.hid ((hK1'.below bB).more bB.size)
                have z6 : wo.heap.size + 1 < wb.heap.size := by rw [hwb]; simp
                have bb := hb.trans (bB.mono hz)
                have rAb := rAo.below bB lA
                have rBb := rBo.below bB lB
                clear hK0' hK1' hne
                go_upto_region 8 with fail
                rw [← hwb]
                clear hwb a0 b0 c0 c1 c2 c3 c4 d0 d1 d2 d3 d4
                go_wp2
                go_loopw [8] (fun t wr => ∃ j : Nat, j ≤ M1 ∧ t = .int .i64 (j : Int) ∧ Hid (xks.take j = yks.take j) ∧ ∃ e, wr = wb.drewN e) (fun t _ => M1 - (intOf t).toNat)
                case atStart => exact ⟨0, Nat.zero_le _, rfl, Lib.hid rfl, 0, rfl⟩
                case round =>
                  obtain ⟨j, hj, rfl, HTJ, e, rfl⟩ := hrel
                  by_cases hjl : j < M1
                  · obtain ⟨k1, e1, hb1, kc1⟩ := HK.out j hjl
                    obtain ⟨k2, e2, hb2, kc2⟩ := HK'.out j hjl
                    subst e1 e2
                    replace kc1 : wb.cell? (k1.add j) = some (.int .i64 (xks.getD j 0)) := kc1
                    replace kc2 : wb.cell? (k2.add j) = some (.int .i64 (yks.getD j 0)) := kc2
                    have hnq := Lib.hid (fun e => hnj.out j e)
                    have hTK := Lib.hid (fun e => take_eq (a := xks) (b := yks) (j := j) HM1.out HM2.out hjl HTJ.out e)
                    generalize xks.getD j 0 = u at *
                    generalize yks.getD j 0 = v at *
                    by_cases huv : u = v
                    · have huv' : (u != v) = false := by simpa using huv
                      have hT2 := Lib.hid (hTK.out huv)
                      clear huv
                      go_wp2
                      go_quiet (fail)
                      go_wp2
                      exact ⟨⟨j + 1, by omega, by go_num, hT2, _, rfl⟩, by simp [intOf]; omega⟩
                    · have huv' : (u != v) = true := by simpa using huv
                      have hR := HB.out (hnq.out huv)
                      subst hR
                      go_wp2
                      go_quiet (fail)
                      go_wp2
                      go_ret
                      exact ⟨rfl, bb.trans (by (exact bl))⟩
                  · obtain rfl : j = M1 := by omega
                    have hr := hEE.out j rfl rfl HTJ.out
                    subst hr
                    go_wp2
                    refine ⟨⟨q + 1, by omega, by go_num, Lib.hid (fun i hi => ?_), rAb, rBb, bb.trans (by (exact bl))⟩, by simp [intOf]; omega⟩
                    rcases Nat.lt_or_ge i q with h1 | h1
                    · exact HT.out i h1
                    · exact HRR.out rfl i (by omega)
              · have hR := HB.out (hne.out e4)
                have e4' : ((M1 : Int) != (M2 : Int)) = true := by simp; omega
                subst hR
                clear hne hnj hEE
                go_wp2
                go_ret
                exact ⟨rfl, hb.trans (by (exact bl))⟩
            · have hR := HB.out (by rw [HS.out, decide_eq_true e1, decide_eq_true e2, decide_eq_false e3]; rfl)
              have e3' : (xm != ym) = true := by simpa using e3
              subst hR e1 e2
              clear HS
              go_wp2
              go_ret
              exact ⟨rfl, hb.trans (by (exact bl))⟩
          · have hR := HB.out (by rw [HS.out, decide_eq_true e1, decide_eq_false e2]; rfl)
            have e2'' : ¬ xx.toList = yx.toList := fun h => e2 (toL_inj h)
            have e2' : (xx.toList == yx.toList) = false := by simpa using e2''
            have e2b : (xx.toList != yx.toList) = true := by simpa using e2''
            subst hR e1
            clear HS
            go_wp2
            go_ret
            exact ⟨rfl, hb.trans (by (exact bl))⟩
        · have hR := HB.out (by rw [HS.out, decide_eq_false e1]; rfl)
          have e1' : (xk != yk) = true := by simpa using e1
          subst hR
          clear HS
          go_wp2
          go_ret
          exact ⟨rfl, hb.trans (by (exact bl))⟩
      · obtain rfl : q = n := by omega
        have hR : R = true := HBI.out.2 ⟨by rw [HN.out, HN'.out], fun i hi => HT.out i (by rw [HN.out] at hi; exact hi)⟩
        subst hR
        go_wp2
        go_ret
        exact ⟨rfl, hb⟩
  · have hR := HBL.out (by rw [HN.out, HN'.out]; exact hnm)
    subst hR
    have hnm' : ((n : Int) != (m : Int)) = true := by simp; omega
    go_enter Tryz.func12, Tryz.ntmps12
    go_upto_region 1 with fail
    rw [← hwa]
    clear hwa
    go_wp2
    go_ret
    exact ⟨rfl, bA⟩
end
end Go.Proofs.YtcphkdooemengaaGreatDoor
