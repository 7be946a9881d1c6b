/- Some texts of this claim, put together. -/
import Derived.Test.YtpkdhciokiomlaaDoorHBZ11
import Derived.Test.YtpkdhciokiomlaaDoorProg
import Derived.Test.YtpkdhciokiomlaaDoorHBZ7
import Derived.RegionTactic
import Derived.Deep.DeepCutAuto
namespace Go.Proofs.YtpkdhciokiomlaaDoor
section
set_option linter.unusedVariables false
set_option linter.unusedSimpArgs false
set_option linter.unnecessarySimpa false
open Go.RowKit
attribute [local go_sem] cell_alloc_add cell_set_add lt_more
theorem within_any (A : Option Addr) (n c : Nat) (i : Int) (w : World) (hn : n ≤ c) (hm : c ≤ maxLen) : Calls Tryd.prog 26 #[.agg #[.slice A n c], .int .i64 i] w fun e w' => e = .returned (.bool (decide (0 ≤ i) && decide (i < (n : Int)))) ∧ Below w.heap.size w w' := by
  unfold maxLen at hm
  go_enter Tryd.func26, Tryd.ntmps26
  go_wp2
  all_goals go_ret
  all_goals (refine ⟨ret_bool ?_, (by (exact bl))⟩; rw [Bool.eq_iff_iff]; simp <;> omega)
set_option maxHeartbeats 1000000 in
theorem isExpr_any (A : Option Addr) (L : List Nd) (c i : Nat) (w : World) (h : TreeAt w w.heap.size A L) (hc : L.length ≤ c) (hm : c ≤ maxLen) (hi : i < L.length) : Calls Tryd.prog 28 #[.agg #[.slice A L.length c], .int .i64 (i : Int)] w fun e w' => e = .returned (.bool (exprP L i)) ∧ Below w.heap.size w w' := by
  obtain ⟨ad, rfl, hn⟩ := h i hi; have hb2 := hn.blk; have hb1 : ad.block < w.heap.size := (by rw [block_add] at hb2; exact hb2); have c0 := hn.c0; have c2 := hn.c2; unfold maxLen at hm; obtain ⟨k, hk⟩ : ∃ k, k = (nd L i).k := ⟨_, rfl⟩; obtain ⟨m, hkm⟩ : ∃ m, m = (nd L i).m := ⟨_, rfl⟩; have wm := hn.wm; rw [← hkm] at wm; rw [← hk] at c0; rw [← hkm] at c2; clear h hn
  have H := Lib.hid (show exprP L i = (decide (10 ≤ k) && decide (k ≤ 34) && !(k == 21)) by rw [hk]; rfl)
  clear hk hkm
  rw [H.out]
  go_enter Tryd.func28, Tryd.ntmps28
  go_wp2
  all_goals go_ret
  all_goals (refine ⟨ret_bool ?_, (by (exact bl))⟩; rw [Bool.eq_iff_iff]; simp <;> omega)
set_option maxHeartbeats 1000000 in
theorem isType_any (A : Option Addr) (L : List Nd) (c i : Nat) (w : World) (h : TreeAt w w.heap.size A L) (hc : L.length ≤ c) (hm : c ≤ maxLen) (hi : i < L.length) : Calls Tryd.prog 31 #[.agg #[.slice A L.length c], .int .i64 (i : Int)] w fun e w' => e = .returned (.bool (typeP L i)) ∧ Below w.heap.size w w' := by
  obtain ⟨ad, rfl, hn⟩ := h i hi; have hb2 := hn.blk; have hb1 : ad.block < w.heap.size := (by rw [block_add] at hb2; exact hb2); have c0 := hn.c0; have c2 := hn.c2; unfold maxLen at hm; obtain ⟨k, hk⟩ : ∃ k, k = (nd L i).k := ⟨_, rfl⟩; obtain ⟨m, hkm⟩ : ∃ m, m = (nd L i).m := ⟨_, rfl⟩; have wm := hn.wm; rw [← hkm] at wm; rw [← hk] at c0; rw [← hkm] at c2; clear h hn
  have H := Lib.hid (show typeP L i = (decide (80 ≤ k) && decide (k ≤ 87) && !(k == 85)) by rw [hk]; rfl)
  clear hk hkm
  rw [H.out]
  go_enter Tryd.func31, Tryd.ntmps31
  go_wp2
  all_goals go_ret
  all_goals (refine ⟨ret_bool ?_, (by (exact bl))⟩; rw [Bool.eq_iff_iff]; simp <;> omega)
set_option maxHeartbeats 4000000 in
theorem isStmt_any (A : Option Addr) (L : List Nd) (c i : Nat) (w : World) (h : TreeAt w w.heap.size A L) (hc : L.length ≤ c) (hm : c ≤ maxLen) (hi : i < L.length) : Calls Tryd.prog 45 #[.agg #[.slice A L.length c], .int .i64 (i : Int)] w fun e w' => e = .returned (.bool (stmtP L i)) ∧ Below w.heap.size w w' := by
  obtain ⟨ad, rfl, hn⟩ := h i hi; have hb2 := hn.blk; have hb1 : ad.block < w.heap.size := (by rw [block_add] at hb2; exact hb2); have c0 := hn.c0; have c2 := hn.c2; unfold maxLen at hm; obtain ⟨k, hk⟩ : ∃ k, k = (nd L i).k := ⟨_, rfl⟩; obtain ⟨m, hkm⟩ : ∃ m, m = (nd L i).m := ⟨_, rfl⟩; have wm := hn.wm; rw [← hkm] at wm; rw [← hk] at c0; rw [← hkm] at c2; clear h hn
  have H := Lib.hid (show stmtP L i = stmtK k by rw [hk]; rfl)
  clear hk hkm
  rw [H.out]
  go_enter Tryd.func45, Tryd.ntmps45
  go_wp2
  all_goals go_ret
  all_goals (refine ⟨ret_bool ?_, (by (exact bl))⟩; (try simp only [beq_iff_eq, beq_eq_false_iff_ne, bne_iff_ne, bne_eq_false_iff_eq, ne_eq, decide_eq_true_eq, decide_eq_false_iff_not, Bool.and_eq_true, Bool.or_eq_true, Bool.not_eq_true, Bool.not_eq_false, Bool.false_eq_true, Decidable.not_not, Bool.not_eq_eq_eq_not, Bool.not_true, Bool.not_false] at *); simp [stmtK, *])
set_option maxHeartbeats 4000000 in
theorem isPlain_any (A : Option Addr) (L : List Nd) (c i : Nat) (w : World) (h : TreeAt w w.heap.size A L) (hc : L.length ≤ c) (hm : c ≤ maxLen) (hi : i < L.length) : Calls Tryd.prog 40 #[.agg #[.slice A L.length c], .int .i64 (i : Int)] w fun e w' => e = .returned (.bool (plainP L i)) ∧ Below w.heap.size w w' := by
  obtain ⟨ad, rfl, hn⟩ := h i hi; have hb2 := hn.blk; have hb1 : ad.block < w.heap.size := (by rw [block_add] at hb2; exact hb2); have c0 := hn.c0; have c2 := hn.c2; unfold maxLen at hm; obtain ⟨k, hk⟩ : ∃ k, k = (nd L i).k := ⟨_, rfl⟩; obtain ⟨m, hkm⟩ : ∃ m, m = (nd L i).m := ⟨_, rfl⟩; have wm := hn.wm; rw [← hkm] at wm; rw [← hk] at c0; rw [← hkm] at c2; clear h hn
  have H := Lib.hid (show plainP L i = (k == 66 && (m == 0 || m == 1)) by rw [hk, hkm]; rfl)
  have HB := Lib.hid (not1 wm)
  clear hk hkm
  rw [H.out]
  go_enter Tryd.func40, Tryd.ntmps40
  go_wp2
  all_goals go_ret
  · exact ⟨ret_bool (by rw [HB.out]; simp [*]), (by (exact bl))⟩
  all_goals (refine ⟨ret_bool ?_, (by (exact bl))⟩; simp [*])
set_option maxHeartbeats 4000000 in
theorem isLet_any (A : Option Addr) (L : List Nd) (c i : Nat) (w : World) (h : TreeAt w w.heap.size A L) (hc : L.length ≤ c) (hm : c ≤ maxLen) (hi : i < L.length) : Calls Tryd.prog 60 #[.agg #[.slice A L.length c], .int .i64 (i : Int)] w fun e w' => e = .returned (.bool (letP L i)) ∧ Below w.heap.size w w' := by
  obtain ⟨ad, rfl, hn⟩ := h i hi; have hb2 := hn.blk; have hb1 : ad.block < w.heap.size := (by rw [block_add] at hb2; exact hb2); have c0 := hn.c0; have c2 := hn.c2; unfold maxLen at hm; obtain ⟨k, hk⟩ : ∃ k, k = (nd L i).k := ⟨_, rfl⟩; obtain ⟨m, hkm⟩ : ∃ m, m = (nd L i).m := ⟨_, rfl⟩; have wm := hn.wm; rw [← hkm] at wm; rw [← hk] at c0; rw [← hkm] at c2; clear h hn
  have H := Lib.hid (show letP L i = (k == 40 && (m == 0)) by rw [hk, hkm]; rfl)
  clear hk hkm
  rw [H.out]
  go_enter Tryd.func60, Tryd.ntmps60
  go_wp2
  all_goals go_ret
  all_goals (refine ⟨ret_bool ?_, (by (exact bl))⟩; simp [*])
theorem any_any (A : Option Addr) (L : List Nd) (c i : Nat) (w : World) (h : TreeAt w w.heap.size A L) (hc : L.length ≤ c) (hm : c ≤ maxLen) (hi : i < L.length) : Calls Tryd.prog 44 #[.agg #[.slice A L.length c], .int .i64 (i : Int)] w fun e w' => e = .returned (.bool (anyP L i)) ∧ Below w.heap.size w w' := by
  go_enter Tryd.func44, Tryd.ntmps44
  go_wp2
  all_goals go_ret
  exact ⟨rfl, (by (exact bl))⟩
end
section
set_option linter.unusedVariables false
set_option linter.unusedSimpArgs false
set_option linter.unnecessarySimpa false
open Go.RowKit
attribute [local go_sem] cell_alloc_add cell_set_add lt_more
/-- Nodes, kids and bytes of a tree. -/
def wt (L : List Nd) : Nat := (L.map fun y => 1 + y.ks.length + y.x.size).sum
theorem wt_cons (y : Nd) (L : List Nd) : wt (y :: L) = (1 + y.ks.length + y.x.size) + wt L := by simp [wt]
theorem wt_app (L M : List Nd) : wt (L ++ M) = wt L + wt M := by simp [wt]
theorem wt_take {L : List Nd} {q : Nat} (h : q < L.length) : wt (L.take (q + 1)) = wt (L.take q) + (1 + (nd L q).ks.length + (nd L q).x.size) := by
  rw [List.take_succ_eq_append_getElem h, wt_app]
  have := nd_get h
  rw [List.getElem?_eq_getElem h] at this
  injection this with this
  rw [this, wt_cons]
  simp [wt]
theorem wt_le (L : List Nd) (q : Nat) : wt (L.take q) ≤ wt L := by
  have : wt L = wt (L.take q) + wt (L.drop q) := by rw [← wt_app, List.take_append_drop]
  omega
theorem wt_len (L : List Nd) : L.length ≤ wt L := by
  induction L with
  | nil => exact Nat.zero_le _
  | cons y L ih => rw [wt_cons, List.length_cons]; omega
theorem wt_nd (L : List Nd) (j : Nat) : (nd L j).ks.length + (nd L j).x.size ≤ wt L := by
  rcases Nat.lt_or_ge j L.length with h | h
  · have h1 := wt_take h
    have h2 := wt_le L (j + 1)
    omega
  · rw [nd_nat, List.getD_eq_getElem?_getD, List.getElem?_eq_none h]
    exact Nat.zero_le _
set_option maxRecDepth 100000 in
set_option maxHeartbeats 4000000 in
theorem great_any (A : Option Addr) (L : List Nd) (c : Nat) (hc : L.length ≤ c) (hm : c ≤ maxLen) (hx : ∀ j : Nat, (nd L j).ks.length ≤ 1000000000000000 ∧ (nd L j).x.size ≤ 1000000000000000) (w : World) (h : TreeAt w w.heap.size A L) :
    Calls Tryd.prog 4 #[.agg #[.slice A L.length c]] w fun e w' => e = .returned (.bool (decide (3000 < wt L))) ∧ Below w.heap.size w w' := by
  have hT := Lib.hid h
  have HX := Lib.hid hx
  have HT := Lib.hid (fun q (hq : q < L.length) => wt_take hq)
  have HL := Lib.hid (fun q => wt_le L q)
  have HE := Lib.hid (show wt (L.take L.length) = wt L by rw [List.take_length])
  have H0 := Lib.hid (show wt (L.take 0) = 0 from rfl)
  obtain ⟨wa, hwa⟩ : ∃ wa : World, wa = w.alloc (.cells #[.slice A L.length c] 24) := ⟨_, rfl⟩
  have bA : Below w.heap.size w wa := by rw [hwa]; exact (by (exact bl))
  have zA : w.heap.size < wa.heap.size := by rw [hwa]; simp
  have rT : Row wa w.heap.size 24 #[.slice A L.length c] := by rw [hwa]; exact row_new rfl
  have t0 := rT.cell 0
  simp at t0
  clear h hx
  unfold maxLen at hm
  go_enter Tryd.func4, Tryd.ntmps4
  go_upto_region 1 with fail
  rw [← hwa]
  clear hwa
  go_wp2
  go_loopw [3, 4] (fun v t wr => ∃ q : Nat, q ≤ L.length ∧ t = .int .i64 (q : Int) ∧ v = .int .i64 (wt (L.take q) : Int) ∧ (∃ d, wr = wa.drewN d) ∧ wt (L.take q) ≤ 2000000000003001) (fun _ t _ => L.length - (intOf t).toNat)
  case atStart => exact ⟨0, Nat.zero_le _, rfl, by rw [H0.out]; rfl, ⟨0, rfl⟩, by rw [H0.out]; omega⟩
  case round =>
    obtain ⟨q, hq, rfl, rfl, ⟨d, rfl⟩, hwb⟩ := hrel
    have HLq := HL.out q
    by_cases hlt : q < L.length
    · obtain ⟨ad, rfl, hn⟩ := hT.out q hlt
      have hn2 := hn.keep (W' := wa) (fun p hp => bA.cell hp)
      have hb1 := hn2.blk
      have hbq : (ad.add (q * 5)).block < wa.heap.size := Nat.lt_of_lt_of_le hb1 bA.size
      have hba : ad.block < wa.heap.size := by rw [block_add] at hbq; exact hbq
      obtain ⟨K0, kc0, c0, c1, c2, c3, c4, hK0, hkk, hkm⟩ := node_open hn2
      have HTq := Lib.hid (HT.out q hlt)
      obtain ⟨x1, x2⟩ := HX.out q
      unfold maxLen at hkm
      clear hn hn2 hK0 c0 c2 c4 hb1
      by_cases hw : wt (L.take q) ≤ 3000
      · have hwi : ((wt (L.take q) : Nat) : Int) ≤ 3000 := by omega
        generalize hW : wt (L.take q) = W at *
        generalize nd L q = y at *
        obtain ⟨k, x, m, ks, p⟩ := y
        simp only at c1 c3 hkk x1 x2 HTq
        have hqi : (q : Int) < (L.length : Int) := by omega
        go_wp2
        go_quiet (fail)
        go_wp2
        exact ⟨⟨q + 1, by omega, by go_num, by rw [HTq.out]; go_num, ⟨_, rfl⟩, by rw [HTq.out]; omega⟩, by simp [intOf]; omega⟩
      · have hwi : ¬ ((wt (L.take q) : Nat) : Int) ≤ 3000 := by omega
        have hWq : 3000 < wt (L.take q) := by omega
        generalize wt (L.take q) = W at *
        go_wp2
        go_ret
        exact ⟨ret_bool (decide_eq_true (p := 3000 < wt L) (by omega)).symm, (by (exact bl))⟩
    · obtain rfl : q = L.length := by omega
      rw [HE.out]
      rw [HE.out] at hwb
      go_wp2
      go_ret
      exact ⟨ret_bool (by rw [decide_eq_decide]; constructor <;> intro _ <;> omega), (by (exact bl))⟩
end
end Go.Proofs.YtpkdhciokiomlaaDoor
