/- Some texts of this claim, put together. -/
import Derived.Test.YtpkdhciokiomlaaGreatDoorHBZ3
import Derived.Test.YtpkdhciokiomlaaGreatDoorHBZ17
import Derived.Deep.QuietTactic
namespace Go.Proofs.YtpkdhciokiomlaaGreatDoor
section
set_option linter.unusedVariables false
set_option linter.unusedSimpArgs false
set_option linter.unnecessarySimpa false
open Go.RowKit
def eqI (a b : List Int) : Bool := decide (a = b)
theorem eqI_len {a b : List Int} (h : a.length ≠ b.length) : eqI a b = false := by
  unfold eqI; rw [decide_eq_false]; intro e; exact h (by rw [e])
theorem eqI_ne {a b : List Int} {j : Nat} (h : a.getD j 0 ≠ b.getD j 0) : eqI a b = false := by
  unfold eqI; rw [decide_eq_false]; intro e; exact h (by rw [e])
theorem eqI_eq {a b : List Int} {n : Nat} (ha : a.length = n) (hb : b.length = n) (h : a.take n = b.take n) : eqI a b = true := by
  unfold eqI
  rw [List.take_of_length_le (by omega), List.take_of_length_le (by omega)] at h
  exact decide_eq_true h
theorem take_eq {a b : List Int} {j n : Nat} (ha : a.length = n) (hb : b.length = n) (hj : j < n) (h : a.take j = b.take j) (he : a.getD j 0 = b.getD j 0) : a.take (j + 1) = b.take (j + 1) := by
  rw [List.take_succ_eq_append_getElem (by omega), List.take_succ_eq_append_getElem (by omega), h]
  have e1 : a.getD j 0 = a[j]'(by omega) := by rw [List.getD_eq_getElem?_getD, List.getElem?_eq_getElem (by omega)]; rfl
  have e2 : b.getD j 0 = b[j]'(by omega) := by rw [List.getD_eq_getElem?_getD, List.getElem?_eq_getElem (by omega)]; rfl
  rw [← e1, ← e2, he]
/-- Two nodes are the same but for At. -/
def sameN (x y : Nd) : Bool := decide (x.k = y.k) && decide (x.x = y.x) && decide (x.m = y.m) && eqI x.ks y.ks
def sameFrom (L M : List Nd) : Nat → Nat → Bool
  | _, 0 => true
  | j, n + 1 => sameN (nd L j) (nd M j) && sameFrom L M (j + 1) n
def sameB (L M : List Nd) : Bool := decide (L.length = M.length) && sameFrom L M 0 L.length
theorem sameN_iff (x y : Nd) : sameN x y = true ↔ x.k = y.k ∧ x.x = y.x ∧ x.m = y.m ∧ x.ks = y.ks := by
  simp [sameN, eqI, and_assoc]
theorem sameFrom_iff (L M : List Nd) : ∀ n j, sameFrom L M j n = true ↔ ∀ i, j ≤ i → i < j + n → sameN (nd L i) (nd M i) = true
  | 0, j => by simp [sameFrom]; intro i h1 h2; omega
  | n + 1, j => by
    show (sameN (nd L j) (nd M j) && sameFrom L M (j + 1) n) = true ↔ _
    rw [Bool.and_eq_true, sameFrom_iff L M n (j + 1)]
    constructor
    · rintro ⟨h1, h2⟩ i hi hi2
      rcases Nat.eq_or_lt_of_le hi with rfl | h3
      · exact h1
      · exact h2 i h3 (by omega)
    · intro h
      exact ⟨h j (Nat.le_refl _) (by omega), fun i h1 h2 => h i (by omega) (by omega)⟩
theorem sameB_iff (L M : List Nd) : sameB L M = true ↔ L.length = M.length ∧ ∀ i : Nat, i < L.length → sameN (nd L i) (nd M i) = true := by
  unfold sameB
  rw [Bool.and_eq_true, decide_eq_true_iff, sameFrom_iff]
  constructor
  · rintro ⟨h1, h2⟩; exact ⟨h1, fun i hi => h2 i (Nat.zero_le _) (by omega)⟩
  · rintro ⟨h1, h2⟩; exact ⟨h1, fun i _ hi => h2 i (by omega)⟩
theorem sameB_bad {L M : List Nd} {i : Nat} (hi : i < L.length) (h : sameN (nd L i) (nd M i) = false) : sameB L M = false := by
  rcases Bool.eq_false_or_eq_true (sameB L M) with h1 | h1
  · have := ((sameB_iff L M).1 h1).2 i hi; rw [h] at this; cases this
  · exact h1
theorem sameB_len {L M : List Nd} (h : L.length ≠ M.length) : sameB L M = false := by
  unfold sameB; rw [decide_eq_false h]; rfl
theorem toL_inj {s t : ByteArray} (h : s.toList = t.toList) : s = t := by
  rw [ByteArray.toList_eq, ByteArray.toList_eq] at h
  exact ByteArray.ext (Array.toList_inj.1 h)
end
section
set_option linter.unusedVariables false
set_option linter.unusedSimpArgs false
set_option linter.unnecessarySimpa false
open Go.RowKit
attribute [local go_sem] cell_alloc_add cell_set_add lt_more
set_option maxRecDepth 100000 in
set_option maxHeartbeats 4000000 in
theorem ints_any (ks ls : List Int) (K K' : Option Addr) (n c m d : Nat) (hn : ks.length = n) (hm : ls.length = m) (hnc : n ≤ c) (hmd : m ≤ d) (hc : c ≤ maxLen) (hd : d ≤ maxLen) (w : World) (h : Rd w w.heap.size K n (ksV ks)) (h' : Rd w w.heap.size K' m (ksV ls)) : Calls Tryz.prog 17 #[.slice K n c, .slice K' m d] w fun e w' => e = .returned (.bool (eqI ks ls)) ∧ Below w.heap.size w w' := by
  have HK := Lib.hid h
  have HL := Lib.hid h'
  have HN := Lib.hid hn
  have HM := Lib.hid hm
  have hne := Lib.hid (fun e => eqI_len (a := ks) (b := ls) e)
  have hnj := Lib.hid (fun j e => eqI_ne (a := ks) (b := ls) (j := j) e)
  have hEE := Lib.hid (fun n e1 e2 e3 => eqI_eq (a := ks) (b := ls) (n := n) e1 e2 e3)
  clear h h' hn hm
  unfold maxLen at hc hd
  generalize eqI ks ls = R at *
  by_cases hnm : n = m
  · subst hnm
    go_enter Tryz.func17, Tryz.ntmps17
    go_wp2
    go_loopw [5] (fun t wr => ∃ q : Nat, q ≤ n ∧ t = .int .i64 (q : Int) ∧ Hid (ks.take q = ls.take q) ∧ ∃ e, wr = w.drewN e) (fun t _ => n - (intOf t).toNat)
    case atStart => exact ⟨0, Nat.zero_le _, rfl, Lib.hid rfl, 0, rfl⟩
    case round =>
      obtain ⟨q, hq, rfl, HT, e, rfl⟩ := hrel
      by_cases hlt : q < n
      · obtain ⟨k1, e1, hb1, kc1⟩ := HK.out q hlt
        obtain ⟨k2, e2, hb2, kc2⟩ := HL.out q hlt
        subst e1 e2
        replace kc1 : w.cell? (k1.add q) = some (.int .i64 (ks.getD q 0)) := kc1
        replace kc2 : w.cell? (k2.add q) = some (.int .i64 (ls.getD q 0)) := kc2
        have hnq := Lib.hid (fun e => hnj.out q e)
        have hTK := Lib.hid (fun e => take_eq (a := ks) (b := ls) (j := q) HN.out HM.out hlt HT.out e)
        generalize ks.getD q 0 = u at *
        generalize ls.getD q 0 = v at *
        by_cases huv : u = v
        · have huv' : (u != v) = false := by simpa using huv
          have hT2 := Lib.hid (hTK.out huv)
          clear huv
          go_wp2
          go_quiet (fail)
          go_wp2
          exact ⟨⟨q + 1, by omega, by go_num, hT2, _, rfl⟩, by simp [intOf]; omega⟩
        · have huv' : (u != v) = true := by simpa using huv
          have hR := hnq.out huv
          subst hR
          go_wp2
          go_quiet (fail)
          go_wp2
          go_ret
          exact ⟨rfl, (by (exact bl))⟩
      · obtain rfl : q = n := by omega
        have hR := hEE.out q HN.out HM.out HT.out
        subst hR
        go_wp2
        go_ret
        exact ⟨rfl, (by (exact bl))⟩
  · have hR := hne.out (by rw [HN.out, HM.out]; exact hnm)
    subst hR
    have hnm' : ((n : Int) != (m : Int)) = true := by simp; omega
    go_enter Tryz.func17, Tryz.ntmps17
    go_wp2
    go_ret
    exact ⟨rfl, (by (exact bl))⟩
end
section
set_option linter.unusedVariables false
set_option linter.unusedSimpArgs false
set_option linter.unnecessarySimpa false
open Go.RowKit
attribute [local go_sem] cell_alloc_add cell_set_add lt_more
set_option maxRecDepth 100000 in
set_option maxHeartbeats 8000000 in
theorem trees_any (A A' : Option Addr) (L : List Nd) (n c d : Nat) (hn : L.length = n) (hnc : n ≤ c) (hmd : n ≤ d) (hcm : c ≤ maxLen) (hdm : d ≤ maxLen) (w : World) (h : TreeAt w w.heap.size A L) (h' : TreeAt w w.heap.size A' L) : Calls Tryz.prog 8 #[.agg #[.slice A n c], .agg #[.slice A' n d]] w fun e w' => e = .returned (.bool true) ∧ Below w.heap.size w w' := by
  have HL := Lib.hid h
  have HM := Lib.hid h'
  have HN := Lib.hid hn
  clear h h' hn
  unfold maxLen at hcm hdm
  obtain ⟨wa, hwa⟩ : ∃ wa : World, wa = (w.alloc (.cells #[.slice A n c] 24)).alloc (.cells #[.slice A' n d] 24) := ⟨_, rfl⟩
  have bA : Below w.heap.size w wa := by rw [hwa]; exact (by (exact bl))
  have zA : w.heap.size + 1 < wa.heap.size := by rw [hwa]; simp
  have rA : Row wa w.heap.size 24 #[.slice A n c] := by rw [hwa]; exact (row_new rfl).alloc _
  have rB : Row wa (w.heap.size + 1) 24 #[.slice A' n d] := by rw [hwa]; exact row_new (by simp)
  have a0 := rA.cell 0
  have b0 := rB.cell 0
  simp at a0 b0
  go_enter Tryz.func8, Tryz.ntmps8
  go_upto_region 1 with fail
  rw [← hwa]
  clear hwa
  go_wp2
  go_loopw [5] (fun t wr => ∃ q : Nat, q ≤ n ∧ t = .int .i64 (q : Int) ∧ Row wr w.heap.size 24 #[.slice A n c] ∧ Row wr (w.heap.size + 1) 24 #[.slice A' n d] ∧ Below w.heap.size w wr) (fun t _ => n - (intOf t).toNat)
  case atStart => exact ⟨0, Nat.zero_le _, rfl, rA, rB, bA⟩
  case round =>
    obtain ⟨q, hq, rfl, rAo, rBo, hb⟩ := hrel
    clear rA rB bA a0 b0 zA
    generalize hwo : wr = wo at *
    clear hwo
    have hz := Below.size hb
    have lA := rAo.lt
    have lB := rBo.lt
    have a0 := rAo.cell 0
    have b0 := rBo.cell 0
    simp at a0 b0
    by_cases hlt : q < n
    · have hqL : q < L.length := by rw [HN.out]; exact hlt
      obtain ⟨ad, rfl, hn⟩ := HL.out q hqL
      obtain ⟨ad', rfl, hn'⟩ := HM.out q hqL
      have g1 := hn.keep (W' := wo) (fun p hp => hb.cell hp)
      have g2 := hn'.keep (W' := wo) (fun p hp => hb.cell hp)
      have hb1 : (ad.add (q * 5)).block < wo.heap.size := Nat.lt_of_lt_of_le g1.blk hz
      have hb2 : (ad'.add (q * 5)).block < wo.heap.size := Nat.lt_of_lt_of_le g2.blk hz
      have hb3 : ad.block < wo.heap.size := by rw [block_add] at hb1; exact hb1
      have hb4 : ad'.block < wo.heap.size := by rw [block_add] at hb2; exact hb2
      obtain ⟨K0, kc0, c0, c1, c2, c3, c4, hK0, hkk, hkm⟩ := node_open g1
      obtain ⟨K1, kc1, d0, d1, d2, d3, d4, hK1, hkk1, hkm1⟩ := node_open g2
      have hK0' := hK0.more hz
      have hK1' := hK1.more hz
      clear hn hn' g1 g2 hK0 hK1
      generalize nd L q = x at *
      obtain ⟨xk, xx, xm, xks, xp⟩ := x
      simp only at c0 c1 c2 c3 c4 d0 d1 d2 d3 d4 hkk hkk1 hK0' hK1'
      have HI := Lib.hid (fun W (hb2 : Below wo.heap.size wo W) => ints_any xks xks K0 K1 xks.length kc0 xks.length kc1 rfl rfl hkk hkk1 hkm hkm1 W ((hK0'.below hb2).more hb2.size) ((hK1'.below hb2).more hb2.size))
      rw [show eqI xks xks = true from by simp [eqI]] at HI
      unfold maxLen at hkm hkm1
      generalize xks.length = m at *
      obtain ⟨wb, hwb⟩ : ∃ wb : World, wb = (wo.alloc (.cells #[.int .i64 xk, .string xx, .int .i64 xm, .slice K0 m kc0, .int .i64 xp] 37)).alloc (.cells #[.int .i64 xk, .string xx, .int .i64 xm, .slice K1 m kc1, .int .i64 xp] 37) := ⟨_, rfl⟩
      have bB : Below wo.heap.size wo wb := by rw [hwb]; exact (((Below.refl _ wo).alloc (Nat.le_refl _) _).alloc (by simp) _)
      have r6 : Row wb wo.heap.size 37 #[.int .i64 xk, .string xx, .int .i64 xm, .slice K0 m kc0, .int .i64 xp] := by rw [hwb]; exact (row_new rfl).alloc _
      have r7 : Row wb (wo.heap.size + 1) 37 #[.int .i64 xk, .string xx, .int .i64 xm, .slice K1 m kc1, .int .i64 xp] := by rw [hwb]; exact row_new (by simp)
      have s60 := r6.cell 0
      have s61 := r6.cell 1
      have s62 := r6.cell 2
      have s63 := r6.cell 3
      have s70 := r7.cell 0
      have s71 := r7.cell 1
      have s72 := r7.cell 2
      have s73 := r7.cell 3
      simp at s60 s61 s62 s63 s70 s71 s72 s73
      have z6 : wo.heap.size + 1 < wb.heap.size := by rw [hwb]; simp
      have bb := hb.trans (bB.mono hz)
      have rAb := rAo.below bB lA
      have rBb := rBo.below bB lB
      have l6 := r6.lt
      have l7 := r7.lt
      clear hK0' hK1'
      go_upto_region 8 with fail
      rw [← hwb]
      clear hwb a0 b0 c0 c1 c2 c3 c4 d0 d1 d2 d3 d4
      go_wp2_with (first
        | (go_at_call 17; (with_reducible refine (HI.out _ bB).mono ?_); rintro r w1 ⟨rfl, b1⟩; have r61 := r6.below b1 l6; have r71 := r7.below b1 l7; have t60 := r61.cell 0; have t64 := r61.cell 4; have t74 := r71.cell 4; simp at t60 t64 t74)
        | fail)
      exact ⟨⟨q + 1, by omega, by go_num, rAb.below b1 rAb.lt, rBb.below b1 rBb.lt, bb.trans (b1.mono bb.size)⟩, by simp [intOf]; omega⟩
    · obtain rfl : q = n := by omega
      go_wp2
      go_ret
      exact ⟨rfl, hb⟩
end
end Go.Proofs.YtpkdhciokiomlaaGreatDoor
