/- Some texts of this claim, put together. -/
import Derived.Laws.BitsAllLaws
import Derived.WalkKit
import Derived.Test.YtjaijlkonkgnmaaDoorHBC
import Derived.Test.YtjaijlkonkgnmaaDoorProg
import Derived.Deep.RegionHeld3
import Derived.Deep.DeepCutAuto
namespace Go.Proofs.YtjaijlkonkgnmaaDoor
section
set_option linter.unusedVariables false
set_option linter.unusedSimpArgs false
set_option linter.unnecessarySimpa false
open Go.RowKit
theorem wrap0 (v : Nat) (hv : v < 18446744073709551616) : IntKind.i64.wrap (v : Int) = 0 ↔ v = 0 := by
  simp [IntKind.wrap, IntKind.bits, IntKind.signed]
  split <;> omega
theorem bits_not {m : Int} (hm : -9223372036854775808 ≤ m ∧ m ≤ 9223372036854775807) (M : Nat) (hM : M < 18446744073709551616) :
    bits .andNot .i64 m (M : Int) = 0 ↔ (m % 18446744073709551616).toNat &&& (18446744073709551615 - M) = 0 := by
  show IntKind.i64.wrap ((BitVec.ofInt 64 m &&& ~~~BitVec.ofInt 64 (M : Int)).toNat : Int) = 0 ↔ _
  rw [wrap0 _ (by have := (BitVec.ofInt 64 m &&& ~~~BitVec.ofInt 64 (M : Int)).isLt; simpa using this)]
  have h1 : (BitVec.ofInt 64 (M : Int)).toNat = M := by rw [BitVec.toNat_ofInt]; omega
  have h2 : (BitVec.ofInt 64 m).toNat = (m % 18446744073709551616).toNat := by rw [BitVec.toNat_ofInt]; rfl
  rw [BitVec.toNat_and, BitVec.toNat_not, h1, h2]
theorem not1 {m : Int} (hm : -9223372036854775808 ≤ m ∧ m ≤ 9223372036854775807) : (bits .andNot .i64 m 1 == 0) = (m == 0 || m == 1) := by
  have h := bits_not hm 1 (by decide)
  rw [show (18446744073709551615 - 1 : Nat) = 18446744073709551614 by decide, nat_hi64_1] at h
  rw [Bool.eq_iff_iff]
  simp only [beq_iff_eq, Bool.or_eq_true]
  rw [show ((1 : Nat) : Int) = 1 by rfl] at h
  rw [h]
  omega
theorem not7 {m : Int} (hm : -9223372036854775808 ≤ m ∧ m ≤ 9223372036854775807) : (bits .andNot .i64 m 7 == 0) = (decide (0 ≤ m) && decide (m ≤ 7)) := by
  have h := bits_not hm 7 (by decide)
  rw [show (18446744073709551615 - 7 : Nat) = 18446744073709551608 by decide, nat_hi64_3] at h
  rw [Bool.eq_iff_iff]
  simp only [beq_iff_eq, Bool.and_eq_true, decide_eq_true_eq]
  rw [show ((7 : Nat) : Int) = 7 by rfl] at h
  rw [h]
  omega
theorem not4 {m : Int} (hm : -9223372036854775808 ≤ m ∧ m ≤ 9223372036854775807) : (bits .andNot .i64 m 4 == 0) = (m == 0 || m == 4) := by
  have h := bits_not hm 4 (by decide)
  rw [show (18446744073709551615 - 4 : Nat) = 18446744073709551611 by decide] at h
  rw [Bool.eq_iff_iff]
  simp only [beq_iff_eq, Bool.or_eq_true]
  rw [show ((4 : Nat) : Int) = 4 by rfl] at h
  rw [h]
  constructor
  · intro e
    have e7 : (m % 18446744073709551616).toNat &&& 18446744073709551608 = 0 := by
      have : (18446744073709551608 : Nat) = 18446744073709551611 &&& 18446744073709551608 := by decide
      rw [this, ← Nat.and_assoc, e, Nat.zero_and]
    rw [nat_hi64_3] at e7
    have hlt : (m % 18446744073709551616).toNat < 8 := by omega
    generalize hx : (m % 18446744073709551616).toNat = x at *
    have hx2 : x = 0 ∨ x = 1 ∨ x = 2 ∨ x = 3 ∨ x = 4 ∨ x = 5 ∨ x = 6 ∨ x = 7 := by omega
    rcases hx2 with rfl | rfl | rfl | rfl | rfl | rfl | rfl | rfl
    all_goals first | omega | (exfalso; revert e; decide)
  · rintro (rfl | rfl) <;> decide
end
section
set_option linter.unusedVariables false
set_option linter.unusedSimpArgs false
set_option linter.unnecessarySimpa false
open Go.RowKit
attribute [local go_sem] cell_alloc_add cell_set_add lt_more
theorem within_any (A : Option Addr) (n c : Nat) (i : Int) (w : World) (hn : n ≤ c) (hm : c ≤ maxLen) : Calls Tryd.prog 30 #[.agg #[.slice A n c], .int .i64 i] w fun e w' => e = .returned (.bool (decide (0 ≤ i) && decide (i < (n : Int)))) ∧ Below w.heap.size w w' := by
  unfold maxLen at hm
  go_enter Tryd.func30, Tryd.ntmps30
  go_wp2
  all_goals go_ret
  all_goals (refine ⟨ret_bool ?_, (by (repeat (first | (with_reducible exact Below.refl _ _) | (with_reducible assumption) | (with_reducible refine Below.setCell ?_ (by first | omega | (simp <;> omega)) _) | (with_reducible refine Below.alloc ?_ (by first | omega | (simp <;> omega)) _) | (with_reducible refine Below.drew ?_) | (with_reducible refine below_drewN ?_ _) | (with_reducible refine Below.trans ?_ (Below.mono (by with_reducible assumption) (by first | omega | (simp <;> omega)))))))⟩; rw [Bool.eq_iff_iff]; simp <;> omega)
set_option maxHeartbeats 1000000 in
theorem isExpr_any (A : Option Addr) (L : List Nd) (c i : Nat) (w : World) (h : TreeAt w w.heap.size A L) (hc : L.length ≤ c) (hm : c ≤ maxLen) (hi : i < L.length) : Calls Tryd.prog 35 #[.agg #[.slice A L.length c], .int .i64 (i : Int)] w fun e w' => e = .returned (.bool (exprP L i)) ∧ Below w.heap.size w w' := by
  obtain ⟨ad, rfl, hn⟩ := h i hi; have hb2 := hn.blk; have hb1 : ad.block < w.heap.size := (by rw [block_add] at hb2; exact hb2); have c0 := hn.c0; have c2 := hn.c2; unfold maxLen at hm; obtain ⟨k, hk⟩ : ∃ k, k = (nd L i).k := ⟨_, rfl⟩; obtain ⟨m, hkm⟩ : ∃ m, m = (nd L i).m := ⟨_, rfl⟩; have wm := hn.wm; rw [← hkm] at wm; rw [← hk] at c0; rw [← hkm] at c2; clear h hn
  have H := Lib.hid (show exprP L i = (decide (10 ≤ k) && decide (k ≤ 34) && !(k == 21)) by rw [hk]; rfl)
  clear hk hkm
  rw [H.out]
  go_enter Tryd.func35, Tryd.ntmps35
  go_wp2
  all_goals go_ret
  all_goals (refine ⟨ret_bool ?_, (by (repeat (first | (with_reducible exact Below.refl _ _) | (with_reducible assumption) | (with_reducible refine Below.setCell ?_ (by first | omega | (simp <;> omega)) _) | (with_reducible refine Below.alloc ?_ (by first | omega | (simp <;> omega)) _) | (with_reducible refine Below.drew ?_) | (with_reducible refine below_drewN ?_ _) | (with_reducible refine Below.trans ?_ (Below.mono (by with_reducible assumption) (by first | omega | (simp <;> omega)))))))⟩; rw [Bool.eq_iff_iff]; simp <;> omega)
set_option maxHeartbeats 1000000 in
theorem isType_any (A : Option Addr) (L : List Nd) (c i : Nat) (w : World) (h : TreeAt w w.heap.size A L) (hc : L.length ≤ c) (hm : c ≤ maxLen) (hi : i < L.length) : Calls Tryd.prog 38 #[.agg #[.slice A L.length c], .int .i64 (i : Int)] w fun e w' => e = .returned (.bool (typeP L i)) ∧ Below w.heap.size w w' := by
  obtain ⟨ad, rfl, hn⟩ := h i hi; have hb2 := hn.blk; have hb1 : ad.block < w.heap.size := (by rw [block_add] at hb2; exact hb2); have c0 := hn.c0; have c2 := hn.c2; unfold maxLen at hm; obtain ⟨k, hk⟩ : ∃ k, k = (nd L i).k := ⟨_, rfl⟩; obtain ⟨m, hkm⟩ : ∃ m, m = (nd L i).m := ⟨_, rfl⟩; have wm := hn.wm; rw [← hkm] at wm; rw [← hk] at c0; rw [← hkm] at c2; clear h hn
  have H := Lib.hid (show typeP L i = (decide (80 ≤ k) && decide (k ≤ 87) && !(k == 85)) by rw [hk]; rfl)
  clear hk hkm
  rw [H.out]
  go_enter Tryd.func38, Tryd.ntmps38
  go_wp2
  all_goals go_ret
  all_goals (refine ⟨ret_bool ?_, (by (repeat (first | (with_reducible exact Below.refl _ _) | (with_reducible assumption) | (with_reducible refine Below.setCell ?_ (by first | omega | (simp <;> omega)) _) | (with_reducible refine Below.alloc ?_ (by first | omega | (simp <;> omega)) _) | (with_reducible refine Below.drew ?_) | (with_reducible refine below_drewN ?_ _) | (with_reducible refine Below.trans ?_ (Below.mono (by with_reducible assumption) (by first | omega | (simp <;> omega)))))))⟩; rw [Bool.eq_iff_iff]; simp <;> omega)
set_option maxHeartbeats 4000000 in
theorem isStmt_any (A : Option Addr) (L : List Nd) (c i : Nat) (w : World) (h : TreeAt w w.heap.size A L) (hc : L.length ≤ c) (hm : c ≤ maxLen) (hi : i < L.length) : Calls Tryd.prog 54 #[.agg #[.slice A L.length c], .int .i64 (i : Int)] w fun e w' => e = .returned (.bool (stmtP L i)) ∧ Below w.heap.size w w' := by
  obtain ⟨ad, rfl, hn⟩ := h i hi; have hb2 := hn.blk; have hb1 : ad.block < w.heap.size := (by rw [block_add] at hb2; exact hb2); have c0 := hn.c0; have c2 := hn.c2; unfold maxLen at hm; obtain ⟨k, hk⟩ : ∃ k, k = (nd L i).k := ⟨_, rfl⟩; obtain ⟨m, hkm⟩ : ∃ m, m = (nd L i).m := ⟨_, rfl⟩; have wm := hn.wm; rw [← hkm] at wm; rw [← hk] at c0; rw [← hkm] at c2; clear h hn
  have H := Lib.hid (show stmtP L i = stmtK k by rw [hk]; rfl)
  clear hk hkm
  rw [H.out]
  go_enter Tryd.func54, Tryd.ntmps54
  go_wp2
  all_goals go_ret
  all_goals (refine ⟨ret_bool ?_, (by (repeat (first | (with_reducible exact Below.refl _ _) | (with_reducible assumption) | (with_reducible refine Below.setCell ?_ (by first | omega | (simp <;> omega)) _) | (with_reducible refine Below.alloc ?_ (by first | omega | (simp <;> omega)) _) | (with_reducible refine Below.drew ?_) | (with_reducible refine below_drewN ?_ _) | (with_reducible refine Below.trans ?_ (Below.mono (by with_reducible assumption) (by first | omega | (simp <;> omega)))))))⟩; (try simp only [beq_iff_eq, beq_eq_false_iff_ne, bne_iff_ne, bne_eq_false_iff_eq, ne_eq, decide_eq_true_eq, decide_eq_false_iff_not, Bool.and_eq_true, Bool.or_eq_true, Bool.not_eq_true, Bool.not_eq_false, Bool.false_eq_true, Decidable.not_not, Bool.not_eq_eq_eq_not, Bool.not_true, Bool.not_false] at *); simp [stmtK, *])
set_option maxHeartbeats 4000000 in
theorem isPlain_any (A : Option Addr) (L : List Nd) (c i : Nat) (w : World) (h : TreeAt w w.heap.size A L) (hc : L.length ≤ c) (hm : c ≤ maxLen) (hi : i < L.length) : Calls Tryd.prog 49 #[.agg #[.slice A L.length c], .int .i64 (i : Int)] w fun e w' => e = .returned (.bool (plainP L i)) ∧ Below w.heap.size w w' := by
  obtain ⟨ad, rfl, hn⟩ := h i hi; have hb2 := hn.blk; have hb1 : ad.block < w.heap.size := (by rw [block_add] at hb2; exact hb2); have c0 := hn.c0; have c2 := hn.c2; unfold maxLen at hm; obtain ⟨k, hk⟩ : ∃ k, k = (nd L i).k := ⟨_, rfl⟩; obtain ⟨m, hkm⟩ : ∃ m, m = (nd L i).m := ⟨_, rfl⟩; have wm := hn.wm; rw [← hkm] at wm; rw [← hk] at c0; rw [← hkm] at c2; clear h hn
  have H := Lib.hid (show plainP L i = (k == 66 && (m == 0 || m == 1)) by rw [hk, hkm]; rfl)
  have HB := Lib.hid (not1 wm)
  clear hk hkm
  rw [H.out]
  go_enter Tryd.func49, Tryd.ntmps49
  go_wp2
  all_goals go_ret
  · exact ⟨ret_bool (by rw [HB.out]; simp [*]), (by (repeat (first | (with_reducible exact Below.refl _ _) | (with_reducible assumption) | (with_reducible refine Below.setCell ?_ (by first | omega | (simp <;> omega)) _) | (with_reducible refine Below.alloc ?_ (by first | omega | (simp <;> omega)) _) | (with_reducible refine Below.drew ?_) | (with_reducible refine below_drewN ?_ _) | (with_reducible refine Below.trans ?_ (Below.mono (by with_reducible assumption) (by first | omega | (simp <;> omega)))))))⟩
  all_goals (refine ⟨ret_bool ?_, (by (repeat (first | (with_reducible exact Below.refl _ _) | (with_reducible assumption) | (with_reducible refine Below.setCell ?_ (by first | omega | (simp <;> omega)) _) | (with_reducible refine Below.alloc ?_ (by first | omega | (simp <;> omega)) _) | (with_reducible refine Below.drew ?_) | (with_reducible refine below_drewN ?_ _) | (with_reducible refine Below.trans ?_ (Below.mono (by with_reducible assumption) (by first | omega | (simp <;> omega)))))))⟩; simp [*])
set_option maxHeartbeats 4000000 in
theorem isLet_any (A : Option Addr) (L : List Nd) (c i : Nat) (w : World) (h : TreeAt w w.heap.size A L) (hc : L.length ≤ c) (hm : c ≤ maxLen) (hi : i < L.length) : Calls Tryd.prog 70 #[.agg #[.slice A L.length c], .int .i64 (i : Int)] w fun e w' => e = .returned (.bool (letP L i)) ∧ Below w.heap.size w w' := by
  obtain ⟨ad, rfl, hn⟩ := h i hi; have hb2 := hn.blk; have hb1 : ad.block < w.heap.size := (by rw [block_add] at hb2; exact hb2); have c0 := hn.c0; have c2 := hn.c2; unfold maxLen at hm; obtain ⟨k, hk⟩ : ∃ k, k = (nd L i).k := ⟨_, rfl⟩; obtain ⟨m, hkm⟩ : ∃ m, m = (nd L i).m := ⟨_, rfl⟩; have wm := hn.wm; rw [← hkm] at wm; rw [← hk] at c0; rw [← hkm] at c2; clear h hn
  have H := Lib.hid (show letP L i = (k == 40 && (m == 0)) by rw [hk, hkm]; rfl)
  clear hk hkm
  rw [H.out]
  go_enter Tryd.func70, Tryd.ntmps70
  go_wp2
  all_goals go_ret
  all_goals (refine ⟨ret_bool ?_, (by (repeat (first | (with_reducible exact Below.refl _ _) | (with_reducible assumption) | (with_reducible refine Below.setCell ?_ (by first | omega | (simp <;> omega)) _) | (with_reducible refine Below.alloc ?_ (by first | omega | (simp <;> omega)) _) | (with_reducible refine Below.drew ?_) | (with_reducible refine below_drewN ?_ _) | (with_reducible refine Below.trans ?_ (Below.mono (by with_reducible assumption) (by first | omega | (simp <;> omega)))))))⟩; simp [*])
theorem any_any (A : Option Addr) (L : List Nd) (c i : Nat) (w : World) (h : TreeAt w w.heap.size A L) (hc : L.length ≤ c) (hm : c ≤ maxLen) (hi : i < L.length) : Calls Tryd.prog 53 #[.agg #[.slice A L.length c], .int .i64 (i : Int)] w fun e w' => e = .returned (.bool (anyP L i)) ∧ Below w.heap.size w w' := by
  go_enter Tryd.func53, Tryd.ntmps53
  go_wp2
  all_goals go_ret
  exact ⟨rfl, (by (repeat (first | (with_reducible exact Below.refl _ _) | (with_reducible assumption) | (with_reducible refine Below.setCell ?_ (by first | omega | (simp <;> omega)) _) | (with_reducible refine Below.alloc ?_ (by first | omega | (simp <;> omega)) _) | (with_reducible refine Below.drew ?_) | (with_reducible refine below_drewN ?_ _) | (with_reducible refine Below.trans ?_ (Below.mono (by with_reducible assumption) (by first | omega | (simp <;> omega)))))))⟩
end
section
set_option linter.unusedVariables false
set_option linter.unusedSimpArgs false
set_option linter.unnecessarySimpa false
open Go.RowKit
attribute [local go_sem] cell_alloc_add cell_set_add lt_more
theorem take_no {l : List Int} {j : Nat} {k : Int} (hj : j < l.length) (h : ¬ k ∈ l.take j) (hne : l.getD j 0 ≠ k) : ¬ k ∈ l.take (j + 1) := by
  rw [List.take_succ_eq_append_getElem hj, List.mem_append, List.mem_singleton]
  have e : l.getD j 0 = l[j] := by simp [List.getD, hj]
  rw [e] at hne
  exact fun x => x.elim h (fun x => hne x.symm)
theorem has_at {l : List Int} {j : Nat} {k : Int} (hj : j < l.length) (hne : l.getD j 0 = k) : k ∈ l := by
  have e : l.getD j 0 = l[j] := by simp [List.getD, hj]
  rw [← hne, e]
  exact List.getElem_mem _
set_option maxRecDepth 100000 in
set_option maxHeartbeats 2000000 in
theorem ofIn_any (A : Option Addr) (L : List Nd) (c i : Nat) (w : World) (h : TreeAt w w.heap.size A L) (hc : L.length ≤ c) (hm : c ≤ maxLen) (hi : i < L.length) (l : List Int) (g kc : Nat) (K : Option Addr) (hg : w.cell? ⟨g, 0, none⟩ = some (.slice K l.length kc)) (hgl : g < w.heap.size) (hl : l.length ≤ 4000000) (hK : Rd w w.heap.size K l.length (ksV l)) :
    Calls Tryd.prog 66 #[.agg #[.slice A L.length c], .int .i64 (i : Int), .pointer (some ⟨g, 0, none⟩)] w fun e w' => e = .returned (.bool (ofP l L i)) ∧ Below w.heap.size w w' := by
  obtain ⟨ad, rfl, hn⟩ := h i hi; have hb2 := hn.blk; have hb1 : ad.block < w.heap.size := (by rw [block_add] at hb2; exact hb2); have c0 := hn.c0; unfold maxLen at hm; obtain ⟨k, hk⟩ : ∃ k, k = (nd L i).k := ⟨_, rfl⟩; rw [← hk] at c0
  have H := Lib.hid (show ofP l L i = decide (k ∈ l) by rw [hk]; simp [ofP])
  clear hk hn h
  rw [H.out]
  go_enter Tryd.func66, Tryd.ntmps66
  go_wp2
  go_loop [10] (fun t => ∃ j : Nat, j ≤ l.length ∧ t = .int .i64 (j : Int) ∧ Hid (¬ k ∈ l.take j)) (fun t => l.length - (intOf t).toNat)
  case atStart => exact ⟨0, Nat.zero_le _, rfl, Lib.hid (by simp)⟩
  case round =>
    obtain ⟨j, hj, rfl, HT⟩ := hrel
    by_cases hlt : j < l.length
    · obtain ⟨ka, hKa, hkb, kcell⟩ := hK j hlt
      subst hKa
      replace kcell : w.cell? (ka.add j) = some (.int .i64 (l.getD j 0)) := kcell
      have HN := Lib.hid (fun hne => take_no hlt HT.out hne)
      have HY := Lib.hid (fun e => has_at (k := k) hlt e)
      generalize l.getD j 0 = x at *
      go_wp2
      · go_ret
        exact ⟨ret_bool (decide_eq_true (HY.out (by (try simp only [beq_iff_eq, beq_eq_false_iff_ne, bne_iff_ne, bne_eq_false_iff_eq, ne_eq, decide_eq_true_eq, decide_eq_false_iff_not, Bool.and_eq_true, Bool.or_eq_true, Bool.not_eq_true, Bool.not_eq_false, Bool.false_eq_true, Decidable.not_not, Bool.not_eq_eq_eq_not, Bool.not_true, Bool.not_false] at *); omega))).symm, (by (repeat (first | (with_reducible exact Below.refl _ _) | (with_reducible assumption) | (with_reducible refine Below.setCell ?_ (by first | omega | (simp <;> omega)) _) | (with_reducible refine Below.alloc ?_ (by first | omega | (simp <;> omega)) _) | (with_reducible refine Below.drew ?_) | (with_reducible refine below_drewN ?_ _) | (with_reducible refine Below.trans ?_ (Below.mono (by with_reducible assumption) (by first | omega | (simp <;> omega)))))))⟩
      · go_round
        case rel => exact ⟨j + 1, by omega, by go_num, Lib.hid (HN.out (by (try simp only [beq_iff_eq, beq_eq_false_iff_ne, bne_iff_ne, bne_eq_false_iff_eq, ne_eq, decide_eq_true_eq, decide_eq_false_iff_not, Bool.and_eq_true, Bool.or_eq_true, Bool.not_eq_true, Bool.not_eq_false, Bool.false_eq_true, Decidable.not_not, Bool.not_eq_eq_eq_not, Bool.not_true, Bool.not_false] at *); omega))⟩
        case measure => simp [intOf]; omega
    · obtain rfl : j = l.length := by omega
      go_wp2
      go_ret
      exact ⟨ret_bool (by have := HT.out; rw [List.take_length] at this; exact (decide_eq_false this).symm), (by (repeat (first | (with_reducible exact Below.refl _ _) | (with_reducible assumption) | (with_reducible refine Below.setCell ?_ (by first | omega | (simp <;> omega)) _) | (with_reducible refine Below.alloc ?_ (by first | omega | (simp <;> omega)) _) | (with_reducible refine Below.drew ?_) | (with_reducible refine below_drewN ?_ _) | (with_reducible refine Below.trans ?_ (Below.mono (by with_reducible assumption) (by first | omega | (simp <;> omega)))))))⟩
set_option maxHeartbeats 1000000 in
theorem of_any (l : List Int) (K : Option Addr) (kc : Nat) (w : World) (hl : l.length ≤ 4000000) (hK : Rd w w.heap.size K l.length (ksV l)) :
    Calls Tryd.prog 47 #[.slice K l.length kc] w fun e w' => (∃ v, e = .returned v ∧ Place Tryd.prog w' v (ofP l)) ∧ Below w.heap.size w w' := by
  have hK2 := Lib.hid hK
  clear hK
  go_enter Tryd.func47, Tryd.ntmps47
  go_wp2
  go_ret
  refine ⟨⟨_, rfl, 66, _, rfl, Tryd.call66, fun W' A L c i hb ht hc hm hi => ?_⟩, (by (repeat (first | (with_reducible exact Below.refl _ _) | (with_reducible assumption) | (with_reducible refine Below.setCell ?_ (by first | omega | (simp <;> omega)) _) | (with_reducible refine Below.alloc ?_ (by first | omega | (simp <;> omega)) _) | (with_reducible refine Below.drew ?_) | (with_reducible refine below_drewN ?_ _) | (with_reducible refine Below.trans ?_ (Below.mono (by with_reducible assumption) (by first | omega | (simp <;> omega)))))))⟩
  have hz := hb.size
  simp at hz
  refine ofIn_any A L c i W' ht hc hm hi l w.heap.size kc K ?_ (by omega) hl ?_
  · rw [hb.cell (by simp)]; simp [World.cell?_alloc_mark]
  · exact ((hK2.out.alloc (Nat.le_refl _) _).below (hb.mono (by simp))).more (by omega)
theorem within_is (b : Bool) (A : Option Addr) (L : List Nd) (c : Nat) (i : Int) (w : World) (hn : L.length ≤ c) (hm : c ≤ maxLen) (hb : inL L i = b) :
    Calls Tryd.prog 30 #[.agg #[.slice A L.length c], .int .i64 i] w fun e w' => e = .returned (.bool b) ∧ Below w.heap.size w w' :=
  (within_any A L.length c i w hn hm).mono fun _ _ ⟨h1, h2⟩ => ⟨h1.trans (by rw [← hb]; rfl), h2⟩
set_option maxRecDepth 100000 in
set_option maxHeartbeats 4000000 in
theorem rowsIn_any (A : Option Addr) (L : List Nd) (c i : Nat) (w : World) (h : TreeAt w w.heap.size A L) (hc : L.length ≤ c) (hm : c ≤ maxLen) (hi : i < L.length) (p : Plc) (v : Value) (g : Nat) (hg : w.cell? ⟨g, 0, none⟩ = some v) (hgl : g < w.heap.size) (hv : Place Tryd.prog w v p) :
    Calls Tryd.prog 67 #[.agg #[.slice A L.length c], .int .i64 (i : Int), .pointer (some ⟨g, 0, none⟩)] w fun e w' => e = .returned (.bool (rowsP p L i)) ∧ Below w.heap.size w w' := by
  have hT := Lib.hid h
  have hm2 := Lib.hid hm
  obtain ⟨ad, rfl, hn⟩ := h i hi; have hb2 := hn.blk; have hb1 : ad.block < w.heap.size := (by rw [block_add] at hb2; exact hb2); have c0 := hn.c0; unfold maxLen at hm; obtain ⟨k, hk⟩ : ∃ k, k = (nd L i).k := ⟨_, rfl⟩; rw [← hk] at c0
  obtain ⟨K, kc, c3, hK, hkk, hkm⟩ := hn.c3
  unfold maxLen at hkm
  have H := Lib.hid (show rowsP p L i = (k == 2 && (nd L i).ks.all fun j => inL L j && p L j) by rw [hk]; rfl)
  clear hk hn h
  generalize (nd L i).ks = ks at *
  obtain ⟨F, caps, rfl, hF, hP0⟩ := hv
  have hP := Lib.hid hP0
  have hK2 := Lib.hid hK
  clear hP0 hK
  rw [H.out]
  clear H
  by_cases hk2 : k = 2
  · subst hk2
    obtain ⟨n, hn⟩ : ∃ n, n = ks.length := ⟨_, rfl⟩
    rw [← hn] at c3 hkk hK2
    have HN := Lib.hid hn
    clear hn
    go_enter Tryd.func67, Tryd.ntmps67
    go_wp2
    go_loopw [22] (fun t wr => ∃ j : Nat, j ≤ n ∧ t = .int .i64 (j : Int) ∧ Hid ((ks.take j).all (fun j => inL L j && p L j) = true) ∧ Below w.heap.size w wr ∧ w.heap.size < wr.heap.size ∧ wr.cell? ⟨w.heap.size, 0, none⟩ = some (.slice (some ad) L.length c)) (fun t _ => n - (intOf t).toNat)
    case atStart => exact ⟨0, Nat.zero_le _, rfl, Lib.hid rfl, (by (repeat (first | (with_reducible exact Below.refl _ _) | (with_reducible assumption) | (with_reducible refine Below.setCell ?_ (by first | omega | (simp <;> omega)) _) | (with_reducible refine Below.alloc ?_ (by first | omega | (simp <;> omega)) _) | (with_reducible refine Below.drew ?_) | (with_reducible refine below_drewN ?_ _) | (with_reducible refine Below.trans ?_ (Below.mono (by with_reducible assumption) (by first | omega | (simp <;> omega))))))), by simp, by simp [World.cell?_alloc_mark]⟩
    case round =>
      obtain ⟨j, hj, rfl, HT, hb, hz, hbox⟩ := hrel
      by_cases hlt : j < n
      · obtain ⟨ka, hKa, hkb, kcell⟩ := hK2.out j hlt
        subst hKa
        replace kcell : wr.cell? (ka.add j) = some (.int .i64 (ks.getD j 0)) := (hb.cell (by rw [block_add]; exact hkb)).trans kcell
        have hg2 : wr.cell? ⟨g, 0, none⟩ = some (.func (.func F) #[] caps) := (hb.cell hgl).trans hg
        have HY := Lib.hid (fun e => all_take (f := fun j => inL L j && p L j) (by rw [← HN.out]; exact hlt) HT.out e)
        have HB := Lib.hid (fun e => all_bad (f := fun j => inL L j && p L j) (by rw [← HN.out]; exact hlt) e)
        generalize ks.getD j 0 = x at *
        clear hg
        rcases Bool.eq_false_or_eq_true (inL L x) with hx | hx
        · obtain ⟨xn, rfl, hxn⟩ := inL_nat hx
          go_wp2_with (first
            | (go_at_call 30; (with_reducible refine (within_is true (some ad) L c _ _ hc hm2.out hx).mono ?_); rintro e w1 ⟨rfl, b1⟩; have z1 := Below.size b1; have g1 : w1.cell? ⟨g, 0, none⟩ = some (.func (.func F) #[] caps) := (b1.cell (p := ⟨g, 0, none⟩) (by show g < wr.heap.size; omega)).trans hg2; have x1 : w1.cell? ⟨w.heap.size, 0, none⟩ = some (.slice (some ad) L.length c) := (b1.cell (p := ⟨w.heap.size, 0, none⟩) hz).trans hbox)
            | ((with_reducible refine (hP.out w1 _ L c xn (hb.trans (b1.mono (by omega))) (hT.out.later (hb.trans (b1.mono (by omega)))) hc hm2.out hxn).mono ?_); rintro e w2 ⟨rfl, b2⟩; have z2 := Below.size b2)
            | fail)
          all_goals
            have bw := hb.trans (b1.mono (B' := w.heap.size) (by omega))
            have bw2 := bw.trans (b2.mono (B' := w.heap.size) (by omega))
          · go_ret
            exact ⟨ret_bool (by rw [HB.out (by rw [hx, Bool.true_and]; first | assumption | ((try simp only [beq_iff_eq, beq_eq_false_iff_ne, bne_iff_ne, bne_eq_false_iff_eq, ne_eq, decide_eq_true_eq, decide_eq_false_iff_not, Bool.and_eq_true, Bool.or_eq_true, Bool.not_eq_true, Bool.not_eq_false, Bool.false_eq_true, Decidable.not_not, Bool.not_eq_eq_eq_not, Bool.not_true, Bool.not_false] at *); assumption))]; rfl), bw2⟩
          · go_roundw
            case rel => exact ⟨j + 1, by omega, by go_num, Lib.hid (HY.out (by rw [hx, Bool.true_and]; first | assumption | ((try simp only [beq_iff_eq, beq_eq_false_iff_ne, bne_iff_ne, bne_eq_false_iff_eq, ne_eq, decide_eq_true_eq, decide_eq_false_iff_not, Bool.and_eq_true, Bool.or_eq_true, Bool.not_eq_true, Bool.not_eq_false, Bool.false_eq_true, Decidable.not_not, Bool.not_eq_eq_eq_not, Bool.not_true, Bool.not_false] at *); assumption))), bw2, by omega, (b2.cell (p := ⟨w.heap.size, 0, none⟩) (by show w.heap.size < w1.heap.size; omega)).trans x1⟩
            case measure => simp [intOf]; omega
        · go_wp2_with (first
            | (go_at_call 30; (with_reducible refine (within_is false (some ad) L c _ _ hc hm2.out hx).mono ?_); rintro e w1 ⟨rfl, b1⟩; have z1 := Below.size b1)
            | fail)
          go_ret
          exact ⟨ret_bool (by rw [HB.out (by rw [hx, Bool.false_and])]; rfl), hb.trans (b1.mono (B' := w.heap.size) (by omega))⟩
      · obtain rfl : j = n := by omega
        go_wp2
        go_ret
        refine ⟨ret_bool ?_, hb⟩
        have := HT.out
        rw [HN.out, List.take_length] at this
        rw [this]; rfl
  · have hk2' : (k != 2) = true := by simpa using hk2
    have hk3 : (k == 2) = false := by simpa using hk2
    go_enter Tryd.func67, Tryd.ntmps67
    go_wp2
    go_ret
    exact ⟨ret_bool (by rw [hk3]; rfl), (by (repeat (first | (with_reducible exact Below.refl _ _) | (with_reducible assumption) | (with_reducible refine Below.setCell ?_ (by first | omega | (simp <;> omega)) _) | (with_reducible refine Below.alloc ?_ (by first | omega | (simp <;> omega)) _) | (with_reducible refine Below.drew ?_) | (with_reducible refine below_drewN ?_ _) | (with_reducible refine Below.trans ?_ (Below.mono (by with_reducible assumption) (by first | omega | (simp <;> omega)))))))⟩
end
section
set_option linter.unusedVariables false
set_option linter.unusedSimpArgs false
set_option linter.unnecessarySimpa false
open Go.RowKit
attribute [local go_sem] cell_alloc_add cell_set_add lt_more
set_option maxRecDepth 100000 in
set_option maxHeartbeats 4000000 in
theorem orIn_any (A : Option Addr) (L : List Nd) (c i : Nat) (w : World) (h : TreeAt w w.heap.size A L) (hc : L.length ≤ c) (hm : c ≤ maxLen) (hi : i < L.length) (p q : Plc) (u v : Value) (g g' : Nat) (hg : w.cell? ⟨g, 0, none⟩ = some u) (hgl : g < w.heap.size) (hu : Place Tryd.prog w u p) (hg' : w.cell? ⟨g', 0, none⟩ = some v) (hgl' : g' < w.heap.size) (hv : Place Tryd.prog w v q) :
    Calls Tryd.prog 68 #[.agg #[.slice A L.length c], .int .i64 (i : Int), .pointer (some ⟨g, 0, none⟩), .pointer (some ⟨g', 0, none⟩)] w fun e w' => e = .returned (.bool (orP p q L i)) ∧ Below w.heap.size w w' := by
  have hT := Lib.hid h
  have hm2 := Lib.hid hm
  obtain ⟨F, caps, rfl, hF, hP0⟩ := hu
  obtain ⟨F', caps', rfl, hF', hP0'⟩ := hv
  have hP := Lib.hid hP0
  have hP' := Lib.hid hP0'
  have H := Lib.hid (show orP p q L i = (p L i || q L i) from rfl)
  clear hP0 hP0' h hm
  rw [H.out]
  clear H
  have bx : Below w.heap.size w (w.alloc (.cells #[.slice A L.length c] 29)) := (by (repeat (first | (with_reducible exact Below.refl _ _) | (with_reducible assumption) | (with_reducible refine Below.setCell ?_ (by first | omega | (simp <;> omega)) _) | (with_reducible refine Below.alloc ?_ (by first | omega | (simp <;> omega)) _) | (with_reducible refine Below.drew ?_) | (with_reducible refine below_drewN ?_ _) | (with_reducible refine Below.trans ?_ (Below.mono (by with_reducible assumption) (by first | omega | (simp <;> omega)))))))
  go_enter Tryd.func68, Tryd.ntmps68
  go_wp2_with (first
    | ((with_reducible refine (hP.out _ _ L c i bx (hT.out.later bx) hc hm2.out hi).mono ?_); rintro e w1 ⟨rfl, b1⟩; have z1 := Below.size b1; have bw1 := bx.trans (b1.mono (by simp)); have g1 : w1.cell? ⟨g', 0, none⟩ = some (.func (.func F') #[] caps') := (bw1.cell (p := ⟨g', 0, none⟩) hgl').trans hg'; have x1 : w1.cell? ⟨w.heap.size, 0, none⟩ = some (.slice A L.length c) := (b1.cell (p := ⟨w.heap.size, 0, none⟩) (by simp)).trans (by simp [World.cell?_alloc_mark]))
    | ((with_reducible refine (hP'.out w1 _ L c i bw1 (hT.out.later bw1) hc hm2.out hi).mono ?_); rintro e w2 ⟨rfl, b2⟩; have z2 := Below.size b2; have bw2 := bw1.trans (b2.mono (by simp at z1; omega)))
    | fail)
  · go_ret
    exact ⟨ret_bool (by rename_i h; rw [h]; rfl), bw1⟩
  · go_ret
    exact ⟨ret_bool (by rename_i h; rw [Bool.not_eq_true] at h; rw [h]; rfl), bw2⟩
set_option maxHeartbeats 1000000 in
theorem or_any (p q : Plc) (u v : Value) (w : World) (hu : Place Tryd.prog w u p) (hv : Place Tryd.prog w v q) :
    Calls Tryd.prog 50 #[u, v] w fun e w' => (∃ x, e = .returned x ∧ Place Tryd.prog w' x (orP p q)) ∧ Below w.heap.size w w' := by
  have hu2 := Lib.hid hu
  have hv2 := Lib.hid hv
  obtain ⟨F, caps, rfl, _⟩ := hu
  obtain ⟨F', caps', rfl, _⟩ := hv
  go_enter Tryd.func50, Tryd.ntmps50
  go_wp2
  go_ret
  have b0 : Below w.heap.size w ((w.alloc (.cells #[.func (.func F) #[] caps] 67)).alloc (.cells #[.func (.func F') #[] caps'] 67)) := (by (repeat (first | (with_reducible exact Below.refl _ _) | (with_reducible assumption) | (with_reducible refine Below.setCell ?_ (by first | omega | (simp <;> omega)) _) | (with_reducible refine Below.alloc ?_ (by first | omega | (simp <;> omega)) _) | (with_reducible refine Below.drew ?_) | (with_reducible refine below_drewN ?_ _) | (with_reducible refine Below.trans ?_ (Below.mono (by with_reducible assumption) (by first | omega | (simp <;> omega)))))))
  refine ⟨⟨_, rfl, 68, _, rfl, Tryd.call68, fun W' A L c i hb ht hc hm hi => ?_⟩, b0⟩
  have hz := hb.size
  simp at hz
  refine orIn_any A L c i W' ht hc hm hi p q _ _ w.heap.size (w.heap.size + 1) ?_ (by omega) ((hu2.out.later b0).later hb) ?_ (by omega) ((hv2.out.later b0).later hb)
  · rw [hb.cell (p := ⟨w.heap.size, 0, none⟩) (by simp; omega)]; simp [World.cell?_alloc_mark]
  · rw [hb.cell (p := ⟨w.heap.size + 1, 0, none⟩) (by simp)]; simp [World.cell?_alloc_mark]
set_option maxHeartbeats 1000000 in
theorem rows_any (p : Plc) (u : Value) (w : World) (hu : Place Tryd.prog w u p) :
    Calls Tryd.prog 48 #[u] w fun e w' => (∃ x, e = .returned x ∧ Place Tryd.prog w' x (rowsP p)) ∧ Below w.heap.size w w' := by
  have hu2 := Lib.hid hu
  obtain ⟨F, caps, rfl, _⟩ := hu
  go_enter Tryd.func48, Tryd.ntmps48
  go_wp2
  go_ret
  have b0 : Below w.heap.size w (w.alloc (.cells #[.func (.func F) #[] caps] 67)) := (by (repeat (first | (with_reducible exact Below.refl _ _) | (with_reducible assumption) | (with_reducible refine Below.setCell ?_ (by first | omega | (simp <;> omega)) _) | (with_reducible refine Below.alloc ?_ (by first | omega | (simp <;> omega)) _) | (with_reducible refine Below.drew ?_) | (with_reducible refine below_drewN ?_ _) | (with_reducible refine Below.trans ?_ (Below.mono (by with_reducible assumption) (by first | omega | (simp <;> omega)))))))
  refine ⟨⟨_, rfl, 67, _, rfl, Tryd.call67, fun W' A L c i hb ht hc hm hi => ?_⟩, b0⟩
  have hz := hb.size
  simp at hz
  refine rowsIn_any A L c i W' ht hc hm hi p _ w.heap.size ?_ (by omega) ((hu2.out.later b0).later hb)
  rw [hb.cell (p := ⟨w.heap.size, 0, none⟩) (by simp)]; simp [World.cell?_alloc_mark]
theorem of_lit (w : World) (l : List Int) (n kc : Nat) (cs : Array Value) (t : TypeId) (hn : l.length = n) (hl : n ≤ 4000000) (h : cs = (l.map fun k => Value.int .i64 k).toArray) :
    Calls Tryd.prog 47 #[.slice (some ⟨w.heap.size, 0, none⟩) n kc] (w.alloc (.cells cs t)).drew fun e w' => (∃ v, e = .returned v ∧ Place Tryd.prog w' v (ofP l)) ∧ Below (w.alloc (.cells cs t)).heap.size (w.alloc (.cells cs t)).drew w' := by
  subst hn
  exact of_any l _ kc _ hl (rd_lit w l cs t h).drew
set_option maxRecDepth 100000 in
set_option maxHeartbeats 4000000 in
theorem isSpot_any (A : Option Addr) (L : List Nd) (c i : Nat) (w : World) (h : TreeAt w w.heap.size A L) (hc : L.length ≤ c) (hm : c ≤ maxLen) (hi : i < L.length) : Calls Tryd.prog 55 #[.agg #[.slice A L.length c], .int .i64 (i : Int)] w fun e w' => e = .returned (.bool (spotP L i)) ∧ Below w.heap.size w w' := by
  have hT := Lib.hid h
  have hm2 := Lib.hid hm
  clear h hm
  have bx : Below w.heap.size w (w.alloc (.cells #[.slice A L.length c] 29)) := (by (repeat (first | (with_reducible exact Below.refl _ _) | (with_reducible assumption) | (with_reducible refine Below.setCell ?_ (by first | omega | (simp <;> omega)) _) | (with_reducible refine Below.alloc ?_ (by first | omega | (simp <;> omega)) _) | (with_reducible refine Below.drew ?_) | (with_reducible refine below_drewN ?_ _) | (with_reducible refine Below.trans ?_ (Below.mono (by with_reducible assumption) (by first | omega | (simp <;> omega)))))))
  have x0 : (w.alloc (.cells #[.slice A L.length c] 29)).cell? ⟨w.heap.size, 0, none⟩ = some (.slice A L.length c) := by simp [World.cell?_alloc_mark]
  have z0 : w.heap.size < (w.alloc (.cells #[.slice A L.length c] 29)).heap.size := by simp
  go_enter Tryd.func55, Tryd.ntmps55
  go_wp2
  obtain ⟨wo, hwo⟩ : ∃ wo : World, wo = (w.alloc (.cells #[.slice A L.length c] 29)) := ⟨_, rfl⟩
  rw [← hwo] at x0 z0 bx ⊢
  clear hwo
  have ne := World.new_ne wo _ x0
  have HO := Lib.hid (of_lit wo [17, 29, 30] 3 3 #[.int .i64 17, .int .i64 29, .int .i64 30] 3 rfl (by decide) rfl)
  have hb3 : Below w.heap.size w (wo.alloc (.cells #[.int .i64 17, .int .i64 29, .int .i64 30] 3)).drew := (by (repeat (first | (with_reducible exact Below.refl _ _) | (with_reducible assumption) | (with_reducible refine Below.setCell ?_ (by first | omega | (simp <;> omega)) _) | (with_reducible refine Below.alloc ?_ (by first | omega | (simp <;> omega)) _) | (with_reducible refine Below.drew ?_) | (with_reducible refine below_drewN ?_ _) | (with_reducible refine Below.trans ?_ (Below.mono (by with_reducible assumption) (by first | omega | (simp <;> omega)))))))
  go_region_held3 (fun w' => w'.cell? ⟨w.heap.size, 0, none⟩ = some (.slice A L.length c)) (go_keep) (first
    | (go_at_call 47; (with_reducible refine HO.out.mono ?_); rintro e w1 ⟨⟨v, rfl, F, caps, rfl, hF, hP0⟩, b1⟩; have hP := Lib.hid hP0; clear hP0; have x1 : w1.cell? ⟨w.heap.size, 0, none⟩ = some (.slice A L.length c) := (b1.cell (p := ⟨w.heap.size, 0, none⟩) (by simp; omega)).trans (by go_keep); have bw1 := hb3.trans (b1.mono (B' := w.heap.size) (by simp; omega)))
    | ((with_reducible refine (hP.out w1 _ L c i (Below.refl _ _) (hT.out.later bw1) hc hm2.out hi).mono ?_); rintro e w2 ⟨rfl, b2⟩; have bw2 := bw1.trans (b2.mono (B' := w.heap.size) bw1.size); have x2 : w2.cell? ⟨w.heap.size, 0, none⟩ = some (.slice A L.length c) := (b2.cell (p := ⟨w.heap.size, 0, none⟩) (World.block_lt_of_cell? w1 _ x1)).trans x1)
    | fail)
  go_wp2
  go_ret
  exact ⟨rfl, bw2⟩
end
section
set_option linter.unusedVariables false
set_option linter.unusedSimpArgs false
set_option linter.unnecessarySimpa false
open Go.RowKit
attribute [local go_sem] cell_alloc_add cell_set_add lt_more
theorem beq_dec3 (a b : Int) : (a == b) = decide (a = b) := by rw [Bool.eq_iff_iff]; simp
set_option maxRecDepth 100000 in
set_option maxHeartbeats 4000000 in
theorem isExported_any (A : Option Addr) (L : List Nd) (c i : Nat) (w : World) (h : TreeAt w w.heap.size A L) (hc : L.length ≤ c) (hm : c ≤ maxLen) (hi : i < L.length) : Calls Tryd.prog 69 #[.agg #[.slice A L.length c], .int .i64 (i : Int)] w fun e w' => e = .returned (.bool (expP L i)) ∧ Below w.heap.size w w' := by
  have hT := Lib.hid h
  have hm2 := Lib.hid hm
  obtain ⟨ad, rfl, hn⟩ := h i hi
  have hb2 := hn.blk
  have hb1 : ad.block < w.heap.size := (by rw [block_add] at hb2; exact hb2)
  obtain ⟨K, kc, c0, c1, c2, c3, c4, _, _, _⟩ := node_open hn
  unfold maxLen at hm
  have H := Lib.hid (show expP L i = expK (nd L i) from rfl)
  clear h hn
  rw [H.out]
  clear H
  generalize hy : nd L i = y at *
  obtain ⟨k, x, m, ks, p⟩ := y
  have HY := Lib.hid hy
  clear hy
  simp only at c0 c1 c2 c3 c4
  by_cases k40 : k = 40
  · subst k40
    go_enter Tryd.func69, Tryd.ntmps69
    go_wp2
    go_ret
    exact ⟨ret_bool (by simp [expK, bne]), (by (repeat (first | (with_reducible exact Below.refl _ _) | (with_reducible assumption) | (with_reducible refine Below.setCell ?_ (by first | omega | (simp <;> omega)) _) | (with_reducible refine Below.alloc ?_ (by first | omega | (simp <;> omega)) _) | (with_reducible refine Below.drew ?_) | (with_reducible refine below_drewN ?_ _) | (with_reducible refine Below.trans ?_ (Below.mono (by with_reducible assumption) (by first | omega | (simp <;> omega)))))))⟩
  · have k40' : (k == 40) = false := by simpa using k40
    by_cases k47 : k = 47
    · subst k47
      go_enter Tryd.func69, Tryd.ntmps69
      go_wp2
      go_ret
      exact ⟨ret_bool (by simp [expK, bne]), (by (repeat (first | (with_reducible exact Below.refl _ _) | (with_reducible assumption) | (with_reducible refine Below.setCell ?_ (by first | omega | (simp <;> omega)) _) | (with_reducible refine Below.alloc ?_ (by first | omega | (simp <;> omega)) _) | (with_reducible refine Below.drew ?_) | (with_reducible refine below_drewN ?_ _) | (with_reducible refine Below.trans ?_ (Below.mono (by with_reducible assumption) (by first | omega | (simp <;> omega)))))))⟩
    · have k47' : (k == 47) = false := by simpa using k47
      have HE := Lib.hid (show (fun (y : Nd) => ([41, 42, 49, 51, 52] : List Int).contains y.k) ⟨k, x, m, ks, p⟩ = expK ⟨k, x, m, ks, p⟩ by simp [expK, k40, k47, beq_dec3, Bool.or_assoc])
      go_enter Tryd.func69, Tryd.ntmps69
      go_upto_region 7 with fail
      obtain ⟨wo, hwo⟩ : ∃ wo : World, wo = ((w.alloc (.cells #[.slice (some ad) L.length c] 29)).alloc (.cells #[.int .i64 k, .string x, .int .i64 m, .slice K ks.length kc, .int .i64 p] 24)) := ⟨_, rfl⟩
      have x0 : wo.cell? ⟨w.heap.size, 0, none⟩ = some (.slice (some ad) L.length c) := by rw [hwo]; simp [World.cell?_alloc_mark]
      have z0 : w.heap.size < wo.heap.size := by rw [hwo]; simp; omega
      have bx : Below w.heap.size w wo := by rw [hwo]; (repeat (first | (with_reducible exact Below.refl _ _) | (with_reducible assumption) | (with_reducible refine Below.setCell ?_ (by first | omega | (simp <;> omega)) _) | (with_reducible refine Below.alloc ?_ (by first | omega | (simp <;> omega)) _) | (with_reducible refine Below.drew ?_) | (with_reducible refine below_drewN ?_ _) | (with_reducible refine Below.trans ?_ (Below.mono (by with_reducible assumption) (by first | omega | (simp <;> omega))))))
      rw [← hwo]
      clear hwo
      have ne := World.new_ne wo _ x0
      have HO := Lib.hid (of_lit wo [41, 42, 49, 51, 52] 5 5 #[.int .i64 41, .int .i64 42, .int .i64 49, .int .i64 51, .int .i64 52] 3 rfl (by decide) rfl)
      have hb3 : Below w.heap.size w (wo.alloc (.cells #[.int .i64 41, .int .i64 42, .int .i64 49, .int .i64 51, .int .i64 52] 3)).drew := (by (repeat (first | (with_reducible exact Below.refl _ _) | (with_reducible assumption) | (with_reducible refine Below.setCell ?_ (by first | omega | (simp <;> omega)) _) | (with_reducible refine Below.alloc ?_ (by first | omega | (simp <;> omega)) _) | (with_reducible refine Below.drew ?_) | (with_reducible refine below_drewN ?_ _) | (with_reducible refine Below.trans ?_ (Below.mono (by with_reducible assumption) (by first | omega | (simp <;> omega)))))))
      go_region_held3 (fun w' => w'.cell? ⟨w.heap.size, 0, none⟩ = some (.slice (some ad) L.length c)) (go_keep) (first | (go_at_call 47; (with_reducible refine HO.out.mono ?_); rintro e w1 ⟨⟨v, rfl, F, caps, rfl, hF, hP0⟩, b1⟩; have hP := Lib.hid hP0; clear hP0; have x1 : w1.cell? ⟨w.heap.size, 0, none⟩ = some (.slice (some ad) L.length c) := (b1.cell (p := ⟨w.heap.size, 0, none⟩) (by simp; omega)).trans (by go_keep); have bw1 := hb3.trans (b1.mono (B' := w.heap.size) (by simp; omega))) | ((with_reducible refine (hP.out w1 _ L c i (Below.refl _ _) (hT.out.later bw1) hc hm2.out hi).mono ?_); rintro e w2 ⟨rfl, b2⟩; have bw2 := bw1.trans (b2.mono (B' := w.heap.size) bw1.size); have x2 : w2.cell? ⟨w.heap.size, 0, none⟩ = some (.slice (some ad) L.length c) := (b2.cell (p := ⟨w.heap.size, 0, none⟩) (World.block_lt_of_cell? w1 _ x1)).trans x1) | fail)
      go_wp2
      go_ret
      refine ⟨ret_bool ?_, bw2⟩
      rw [← HE.out]
      show ofP [41, 42, 49, 51, 52] L i = _
      unfold ofP
      rw [HY.out]
theorem ctors_next {L : List Nd} {ks : List Int} {j : Nat} (h : j < ks.length) : ctorsB L (ks.take (j + 1)) = ctorsB L (ks.take j) + if (nd L (ks.getD j 0)).k = 46 then 1 else 0 := by
  have e : ks.getD j 0 = ks[j] := by simp [List.getD, h]
  unfold ctorsB
  rw [List.take_succ_eq_append_getElem h, List.filter_append, List.length_append, e]
  by_cases h2 : (nd L ks[j]).k = 46
  · have h3 : ((nd L ks[j]).k == 46) = true := by simpa using h2
    simp [List.filter_cons, h3, h2]
  · have h3 : ((nd L ks[j]).k == 46) = false := by simpa using h2
    simp [List.filter_cons, h3, h2]
theorem ctors_le (L : List Nd) (ks : List Int) : ctorsB L ks ≤ ks.length := List.length_filter_le _ _
set_option maxRecDepth 100000 in
set_option maxHeartbeats 4000000 in
theorem isMembers_any (A : Option Addr) (L : List Nd) (c i : Nat) (w : World) (h : TreeAt w w.heap.size A L) (hc : L.length ≤ c) (hm : c ≤ maxLen) (hi : i < L.length) : Calls Tryd.prog 57 #[.agg #[.slice A L.length c], .int .i64 (i : Int)] w fun e w' => e = .returned (.bool (memP L i)) ∧ Below w.heap.size w w' := by
  have hT := Lib.hid h
  have hm2 := Lib.hid hm
  obtain ⟨ad, rfl, hn⟩ := h i hi
  have hb2 := hn.blk
  have hb1 : ad.block < w.heap.size := (by rw [block_add] at hb2; exact hb2)
  obtain ⟨K, kc, c0, c1, c2, c3, c4, hK, hkk, hkm⟩ := node_open hn
  unfold maxLen at hm hkm
  have H := Lib.hid (show memP L i = (rowsP (ofP [44, 45, 46]) L i && decide (ctorsB L (nd L i).ks < 2)) from rfl)
  have HR := Lib.hid (fun e : rowsP (ofP [44, 45, 46]) L i = true => (show (nd L i).ks.all (inL L) = true by
    unfold rowsP at e
    rw [Bool.and_eq_true] at e
    exact List.all_eq_true.2 fun j hj => by
      have := List.all_eq_true.1 e.2 j hj
      rw [Bool.and_eq_true] at this
      exact this.1))
  clear h hn
  rw [H.out]
  clear H
  generalize (nd L i).ks = ks at *
  have HE2 := Lib.hid (fun j hj => ctors_next (L := L) (ks := ks) (j := j) hj)
  have HE3 := Lib.hid (fun j => ctors_le L (ks.take j))
  have hK2 := Lib.hid hK
  clear hK c0 c1 c2 c4
  go_enter Tryd.func57, Tryd.ntmps57
  go_upto_region 1 with fail
  obtain ⟨wo, hwo⟩ : ∃ wo : World, wo = (w.alloc (.cells #[.slice (some ad) L.length c] 29)) := ⟨_, rfl⟩
  have x0 : wo.cell? ⟨w.heap.size, 0, none⟩ = some (.slice (some ad) L.length c) := by rw [hwo]; simp [World.cell?_alloc_mark]
  have z0 : w.heap.size < wo.heap.size := by rw [hwo]; simp
  have bx : Below w.heap.size w wo := by rw [hwo]; (repeat (first | (with_reducible exact Below.refl _ _) | (with_reducible assumption) | (with_reducible refine Below.setCell ?_ (by first | omega | (simp <;> omega)) _) | (with_reducible refine Below.alloc ?_ (by first | omega | (simp <;> omega)) _) | (with_reducible refine Below.drew ?_) | (with_reducible refine below_drewN ?_ _) | (with_reducible refine Below.trans ?_ (Below.mono (by with_reducible assumption) (by first | omega | (simp <;> omega))))))
  rw [← hwo]
  clear hwo
  have ne := World.new_ne wo _ x0
  have HO := Lib.hid (of_lit wo [44, 45, 46] 3 3 #[.int .i64 44, .int .i64 45, .int .i64 46] 3 rfl (by decide) rfl)
  have hb3 : Below w.heap.size w (wo.alloc (.cells #[.int .i64 44, .int .i64 45, .int .i64 46] 3)).drew := (by (repeat (first | (with_reducible exact Below.refl _ _) | (with_reducible assumption) | (with_reducible refine Below.setCell ?_ (by first | omega | (simp <;> omega)) _) | (with_reducible refine Below.alloc ?_ (by first | omega | (simp <;> omega)) _) | (with_reducible refine Below.drew ?_) | (with_reducible refine below_drewN ?_ _) | (with_reducible refine Below.trans ?_ (Below.mono (by with_reducible assumption) (by first | omega | (simp <;> omega)))))))
  go_region_held3 (fun w' => w'.cell? ⟨w.heap.size, 0, none⟩ = some (.slice (some ad) L.length c)) (go_keep) (first
    | (go_at_call 47; (with_reducible refine HO.out.mono ?_); rintro e w0 ⟨⟨v0, rfl, F, caps, rfl, hF, hP0⟩, b0⟩; have hV := Lib.hid (show Place Tryd.prog w0 (.func (.func F) #[] caps) (ofP [44, 45, 46]) from ⟨F, caps, rfl, hF, hP0⟩); clear hP0 hF; have x9 : w0.cell? ⟨w.heap.size, 0, none⟩ = some (.slice (some ad) L.length c) := (b0.cell (p := ⟨w.heap.size, 0, none⟩) (by simp; omega)).trans (by go_keep); have bw0 := hb3.trans (b0.mono (B' := w.heap.size) (by simp; omega)))
    | (go_at_call 48; (with_reducible refine (rows_any (ofP [44, 45, 46]) _ _ hV.out).mono ?_); rintro e w1 ⟨⟨v1, rfl, F1, caps1, rfl, hF1, hP1⟩, b1⟩; have hP := Lib.hid hP1; clear hP1; have bw1 := bw0.trans (b1.mono (B' := w.heap.size) bw0.size); have x1 : w1.cell? ⟨w.heap.size, 0, none⟩ = some (.slice (some ad) L.length c) := (b1.cell (p := ⟨w.heap.size, 0, none⟩) (World.block_lt_of_cell? w0 _ x9)).trans x9)
    | ((with_reducible refine (hP.out w1 _ L c i (Below.refl _ _) (hT.out.later bw1) hc hm2.out hi).mono ?_); rintro e w2 ⟨rfl, b2⟩; have bw2 := bw1.trans (b2.mono (B' := w.heap.size) bw1.size); have x2 : w2.cell? ⟨w.heap.size, 0, none⟩ = some (.slice (some ad) L.length c) := (b2.cell (p := ⟨w.heap.size, 0, none⟩) (World.block_lt_of_cell? w1 _ x1)).trans x1) | fail)
  clear HO hb3 bx x0 z0 ne hV
  have z2 := World.block_lt_of_cell? w2 _ x2
  simp only at z2
  cases hR : rowsP (ofP [44, 45, 46]) L i
  · go_wp2
    go_ret
    exact ⟨ret_bool (by rw [hR]; rfl), bw2⟩
  · have hall := Lib.hid (List.all_eq_true.1 (HR.out hR))
    clear HR
    have q3 := (bw2.cell (p := ⟨(ad.add (i * 5)).block, (ad.add (i * 5)).off + 3, none⟩) hb2).trans c3
    have hT3 := Lib.hid (hT.out.below bw2)
    have hK3 := Lib.hid (hK2.out.below bw2)
    clear hT hK2 hP
    obtain ⟨n, hn⟩ : ∃ n, n = ks.length := ⟨_, rfl⟩
    rw [← hn] at q3 hkk hK3
    have HN := Lib.hid hn
    clear hn c3
    go_wp2
    go_loop [5, 22] (fun ct t => ∃ j : Nat, j ≤ n ∧ t = .int .i64 (j : Int) ∧ ct = .int .i64 (ctorsB L (ks.take j))) (fun _ t => n - (intOf t).toNat)
    case atStart => exact ⟨0, Nat.zero_le _, rfl, rfl⟩
    case round =>
      obtain ⟨j, hj, rfl, rfl⟩ := hrel
      have hcl := HE3.out j
      have hjl : (ks.take j).length ≤ j := List.length_take_le _ _
      by_cases hlt : j < n
      · obtain ⟨ka, hKa, hkb, kcell⟩ := hK3.out j hlt
        subst hKa
        replace kcell : w2.cell? (ka.add j) = some (.int .i64 (ks.getD j 0)) := kcell
        have hx : inL L (ks.getD j 0) = true := hall.out _ (by
          have h2 : j < ks.length := by rw [← HN.out]; exact hlt
          have e : ks.getD j 0 = ks[j] := by simp [List.getD, h2]
          rw [e]; exact List.getElem_mem _)
        have HS := Lib.hid (HE2.out j (by rw [← HN.out]; exact hlt))
        obtain ⟨xn, hxe, hxn⟩ := inL_nat hx
        have d0 := (hT3.out.at_ hxn).c0
        have HX := Lib.hid (show (nd L (ks.getD j 0)).k = (nd L xn).k by rw [hxe])
        rw [HX.out] at HS
        rw [hxe] at kcell
        clear hxe hx HX
        generalize (nd L xn).k = kk at *
        generalize hct : ctorsB L (ks.take j) = ct at *
        clear hct
        go_wp2
        all_goals go_round
        all_goals first
          | (case rel => exact ⟨j + 1, by omega, by go_num, by rw [HS.out]; first | (rw [if_pos (by (try simp only [beq_iff_eq, beq_eq_false_iff_ne, bne_iff_ne, bne_eq_false_iff_eq, ne_eq, decide_eq_true_eq, decide_eq_false_iff_not, Bool.and_eq_true, Bool.or_eq_true, Bool.not_eq_true, Bool.not_eq_false, Bool.false_eq_true, Decidable.not_not, Bool.not_eq_eq_eq_not, Bool.not_true, Bool.not_false] at *); assumption)]; go_num) | (rw [if_neg (by (try simp only [beq_iff_eq, beq_eq_false_iff_ne, bne_iff_ne, bne_eq_false_iff_eq, ne_eq, decide_eq_true_eq, decide_eq_false_iff_not, Bool.and_eq_true, Bool.or_eq_true, Bool.not_eq_true, Bool.not_eq_false, Bool.false_eq_true, Decidable.not_not, Bool.not_eq_eq_eq_not, Bool.not_true, Bool.not_false] at *); assumption)]; go_num)⟩)
          | (case measure => simp [intOf]; omega)
      · obtain rfl : j = n := by omega
        go_wp2
        go_ret
        refine ⟨ret_bool ?_, bw2⟩
        rw [HN.out, List.take_length, decide_eq_decide]
        omega
theorem within_is2 (b : Bool) (A : Option Addr) (L : List Nd) (N c : Nat) (i : Int) (w : World) (hN : N = L.length) (hn : N ≤ c) (hm : c ≤ maxLen) (hb : inL L i = b) :
    Calls Tryd.prog 30 #[.agg #[.slice A N c], .int .i64 i] w fun e w' => e = .returned (.bool b) ∧ Below w.heap.size w w' := by
  subst hN
  exact within_is b A L c i w hn hm hb
theorem pathIn_no {L : List Nd} {f : Nat} {i : Int} (h : (nd L i).k ≠ 29) : pathIn L (f + 1) i = ((nd L i).k == 17) := by rw [pathIn, if_neg h]
theorem pathIn_bad {L : List Nd} {f : Nat} {i : Int} (h : (nd L i).k = 29) (h1 : (nd L i).ks.length ≠ 1) : pathIn L (f + 1) i = false := by
  rw [pathIn, if_pos h]
  match (nd L i).ks, h1 with
  | [], _ => rfl
  | [a], h => exact absurd rfl h
  | _ :: _ :: _, _ => rfl
theorem pathIn_go {L : List Nd} {f : Nat} {i : Int} (h : (nd L i).k = 29) (h1 : (nd L i).ks.length = 1) : pathIn L (f + 1) i = (inL L ((nd L i).ks.getD 0 0) && pathIn L f ((nd L i).ks.getD 0 0)) := by
  rw [pathIn, if_pos h]
  match (nd L i).ks, h1 with
  | [a], _ => rfl
set_option maxRecDepth 100000 in
set_option maxHeartbeats 4000000 in
theorem isPath_any (A : Option Addr) (L : List Nd) (c i : Nat) (w : World) (h : TreeAt w w.heap.size A L) (hc : L.length ≤ c) (hm : c ≤ maxLen) (hi : i < L.length) : Calls Tryd.prog 56 #[.agg #[.slice A L.length c], .int .i64 (i : Int)] w fun e w' => e = .returned (.bool (pathP L i)) ∧ Below w.heap.size w w' := by
  have hT := Lib.hid h
  have hm2 := Lib.hid hm
  obtain ⟨ad, rfl, hn⟩ := h i hi
  have hb2 := hn.blk
  have hb1 : ad.block < w.heap.size := (by rw [block_add] at hb2; exact hb2)
  unfold maxLen at hm
  obtain ⟨R, hR⟩ : ∃ R, R = pathP L i := ⟨_, rfl⟩
  rw [← hR]
  have HR := Lib.hid (show pathIn L (L.length - 0) i = R by rw [hR]; rfl)
  obtain ⟨N, hN⟩ : ∃ N, N = L.length := ⟨_, rfl⟩
  rw [← hN] at hc hi HR ⊢
  have HN := Lib.hid hN
  clear h hn hR hN hb2
  have bx : Below w.heap.size w (w.alloc (.cells #[.slice (some ad) N c] 29)) := (by (repeat (first | (with_reducible exact Below.refl _ _) | (with_reducible assumption) | (with_reducible refine Below.setCell ?_ (by first | omega | (simp <;> omega)) _) | (with_reducible refine Below.alloc ?_ (by first | omega | (simp <;> omega)) _) | (with_reducible refine Below.drew ?_) | (with_reducible refine below_drewN ?_ _) | (with_reducible refine Below.trans ?_ (Below.mono (by with_reducible assumption) (by first | omega | (simp <;> omega)))))))
  go_enter Tryd.func56, Tryd.ntmps56
  go_wp2
  go_loopw [1, 9] (fun cu t wr => ∃ j i : Nat, j ≤ N ∧ t = .int .i64 (j : Int) ∧ cu = .int .i64 (i : Int) ∧ i < N ∧ Hid (pathIn L (N - j) i = R) ∧ Below w.heap.size w wr ∧ w.heap.size < wr.heap.size ∧ wr.cell? ⟨w.heap.size, 0, none⟩ = some (.slice (some ad) N c)) (fun _ t _ => N - (intOf t).toNat)
  case atStart => exact ⟨0, i, Nat.zero_le _, rfl, rfl, hi, HR, bx, by simp, by simp [World.cell?_alloc_mark]⟩
  case round =>
    clear bx HR hi
    clear i
    obtain ⟨j, i, hj, rfl, rfl, hi, HR, hb, hz, hbox⟩ := hrel
    by_cases hlt : j < N
    · have hn := hT.out.at_ (j := i) (by rw [← HN.out]; exact hi)
      have hb2 := hn.blk
      obtain ⟨K, kc, c0, c1, c2, c3, c4, hK, hkk, hkm⟩ := node_open (hn.keep fun p hp => hb.cell hp)
      unfold maxLen at hkm
      rw [show N - j = (N - (j + 1)) + 1 by omega] at HR
      have HA := Lib.hid (fun e => (pathIn_no (L := L) (f := N - (j + 1)) (i := (i : Int)) e).symm.trans HR.out)
      have HB := Lib.hid (fun e e1 => (pathIn_bad (L := L) (f := N - (j + 1)) (i := (i : Int)) e e1).symm.trans HR.out)
      have HC := Lib.hid (fun e e1 => (pathIn_go (L := L) (f := N - (j + 1)) (i := (i : Int)) e e1).symm.trans HR.out)
      clear hn HR
      have hKK := Lib.hid hK
      clear hK
      generalize nd L i = y at *
      obtain ⟨k, x, m, ks, p⟩ := y
      simp only at c0 c1 c2 c3 c4 hkk HA HB HC hKK
      generalize hbq : ad.add (i * 5) = q at *
      by_cases k29 : k = 29
      · subst k29
        obtain ⟨n, hn⟩ : ∃ n, n = ks.length := ⟨_, rfl⟩
        rw [← hn] at c3 hkk HB HC hKK
        clear hn
        by_cases n1 : n = 1
        · subst n1
          obtain ⟨ka, hKa, hkb, kcell⟩ := hKK.out 0 (by decide)
          subst hKa
          replace kcell : wr.cell? ka = some (.int .i64 (ks.getD 0 0)) := by rw [add_zero] at kcell; exact kcell
          have HC2 := Lib.hid (HC.out rfl rfl)
          generalize ks.getD 0 0 = x0 at *
          have ckb : ka.block < wr.heap.size := by have h9 := World.block_lt_of_cell? wr ka kcell; exact h9
          clear HA HB HC hKK
          subst hbq
          go_wp2
          obtain ⟨wx, hwx⟩ : ∃ wx : World, wx = wr.alloc (.cells #[.int .i64 29, .string x, .int .i64 m, .slice (some ka) 1 kc, .int .i64 p] 24) := ⟨_, rfl⟩
          have e0 : wx.cell? ⟨w.heap.size, 0, none⟩ = some (.slice (some ad) N c) := by rw [hwx, World.cell?_alloc_lt wr _ ⟨w.heap.size, 0, none⟩ hz]; exact hbox
          have e3 : wx.cell? ⟨wr.heap.size, 3, none⟩ = some (.slice (some ka) 1 kc) := by rw [hwx]; simp [World.cell?_alloc_mark]
          have ek : wx.cell? ka = some (.int .i64 x0) := by rw [hwx, World.cell?_alloc_lt wr _ ka ckb]; exact kcell
          have ezx : wx.heap.size = wr.heap.size + 1 := by rw [hwx]; simp
          have bwx : Below w.heap.size w wx := by rw [hwx]; (repeat (first | (with_reducible exact Below.refl _ _) | (with_reducible assumption) | (with_reducible refine Below.setCell ?_ (by first | omega | (simp <;> omega)) _) | (with_reducible refine Below.alloc ?_ (by first | omega | (simp <;> omega)) _) | (with_reducible refine Below.drew ?_) | (with_reducible refine below_drewN ?_ _) | (with_reducible refine Below.trans ?_ (Below.mono (by with_reducible assumption) (by first | omega | (simp <;> omega))))))
          have EZ := Lib.hid ezx
          have ez2 : wr.heap.size < wx.heap.size := by omega
          rw [← hwx]
          clear hwx ezx
          cases hx : inL L x0
          · go_region_held3 (fun w' => w'.cell? ⟨w.heap.size, 0, none⟩ = some (.slice (some ad) N c) ∧ w'.cell? ⟨wr.heap.size, 3, none⟩ = some (.slice (some ka) 1 kc) ∧ w'.cell? ka = some (.int .i64 x0)) (go_keep) (first
              | (go_at_call 30; (with_reducible refine (within_is2 false (some ad) L N c _ _ HN.out hc hm2.out hx).mono ?_); rintro e w1 ⟨rfl, b1⟩; have f0 := (b1.cell (p := ⟨w.heap.size, 0, none⟩) (World.block_lt_of_cell? wx _ e0)).trans e0; have f3 := (b1.cell (p := ⟨wr.heap.size, 3, none⟩) (World.block_lt_of_cell? wx _ e3)).trans e3; have fk := (b1.cell (p := ka) (World.block_lt_of_cell? wx _ ek)).trans ek)
              | fail)
            go_wp2
            go_ret
            refine ⟨ret_bool ?_, bwx.drew.trans (b1.mono bwx.size)⟩
            rw [← HC2.out, hx]; rfl
          · have HC3 := Lib.hid (by have := HC2.out; rwa [hx, Bool.true_and] at this)
            obtain ⟨xn, rfl, hxn⟩ := inL_nat hx
            go_region_held3 (fun w' => w'.cell? ⟨w.heap.size, 0, none⟩ = some (.slice (some ad) N c) ∧ w'.cell? ⟨wr.heap.size, 3, none⟩ = some (.slice (some ka) 1 kc) ∧ w'.cell? ka = some (.int .i64 xn)) (go_keep) (first
              | (go_at_call 30; (with_reducible refine (within_is2 true (some ad) L N c _ _ HN.out hc hm2.out hx).mono ?_); rintro e w1 ⟨rfl, b1⟩; have f0 := (b1.cell (p := ⟨w.heap.size, 0, none⟩) (World.block_lt_of_cell? wx _ e0)).trans e0; have f3 := (b1.cell (p := ⟨wr.heap.size, 3, none⟩) (World.block_lt_of_cell? wx _ e3)).trans e3; have fk := (b1.cell (p := ka) (World.block_lt_of_cell? wx _ ek)).trans ek)
              | fail)
            go_wp2
            go_roundw
            case rel => exact ⟨j + 1, xn, by omega, by go_num, rfl, by rw [HN.out]; exact hxn, HC3, bwx.drew.trans (b1.mono bwx.size), World.block_lt_of_cell? w1 _ f0, f0⟩
            case measure => simp [intOf]; omega
        · have n1' : ((n : Int) != 1) = true := by simp; omega
          have hbad := HB.out rfl n1
          subst hbad
          go_wp2
          go_quiet (fail)
          go_wp2
          go_ret
          exact ⟨rfl, (by (repeat (first | (with_reducible exact Below.refl _ _) | (with_reducible assumption) | (with_reducible refine Below.setCell ?_ (by first | omega | (simp <;> omega)) _) | (with_reducible refine Below.alloc ?_ (by first | omega | (simp <;> omega)) _) | (with_reducible refine Below.drew ?_) | (with_reducible refine below_drewN ?_ _) | (with_reducible refine Below.trans ?_ (Below.mono (by with_reducible assumption) (by first | omega | (simp <;> omega)))))))⟩
      · have k29' : (k != 29) = true := by simpa using k29
        have hres := HA.out k29
        subst hres
        subst hbq
        go_wp2
        go_ret
        exact ⟨rfl, (by (repeat (first | (with_reducible exact Below.refl _ _) | (with_reducible assumption) | (with_reducible refine Below.setCell ?_ (by first | omega | (simp <;> omega)) _) | (with_reducible refine Below.alloc ?_ (by first | omega | (simp <;> omega)) _) | (with_reducible refine Below.drew ?_) | (with_reducible refine below_drewN ?_ _) | (with_reducible refine Below.trans ?_ (Below.mono (by with_reducible assumption) (by first | omega | (simp <;> omega)))))))⟩
    · obtain rfl : j = N := by omega
      have hres : R = false := by rw [← HR.out, Nat.sub_self]; rfl
      subst hres
      go_wp2
      go_ret
      exact ⟨rfl, hb⟩
end
end Go.Proofs.YtjaijlkonkgnmaaDoor
