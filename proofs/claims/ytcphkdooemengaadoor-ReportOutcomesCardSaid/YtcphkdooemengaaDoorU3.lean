/- The walk of chapter 19's law ReportOutcomes. -/
import Derived.Test.YtcphkdooemengaaDoorU1
import Derived.Test.YtcphkdooemengaaDoorV6
namespace Go.Proofs.YtcphkdooemengaaDoor
set_option linter.unusedVariables false
set_option linter.unusedSimpArgs false
set_option linter.unnecessarySimpa false
open Go.RowKit
attribute [local go_sem] cell_alloc_add cell_set_add lt_more
theorem tz_later {wc : World} (ht : Tz wc) (x : Later wc) : Tz x.w := ht.keep x.h
theorem rowsL_step {L : List ByteArray} {j : Nat} (h : j < L.length) : (rowsL (L.take (j + 1))).length = (rowsL (L.take j)).length + (L.getD j ⟨#[]⟩).size + 1 := by
  have := congrArg List.length (rowsL_take h)
  rw [List.length_append, List.length_append] at this
  have e : (L.getD j ⟨#[]⟩).data.toList.length = (L.getD j ⟨#[]⟩).size := by rw [Array.length_toList]; rfl
  rw [e] at this
  simpa [Nat.add_assoc] using this
theorem getD_mem {L : List ByteArray} {j : Nat} (h : j < L.length) : L.getD j ⟨#[]⟩ ∈ L := by
  rw [List.getD_eq_getElem?_getD, List.getElem?_eq_getElem h]; exact List.getElem_mem h
set_option maxRecDepth 100000 in
set_option maxHeartbeats 4000000 in
theorem ReportOutcomes_any (L : List ByteArray) (A : Option Addr) (c : Nat) (k st ce : Int) (th : ByteArray) (hth : th.size ≤ 140737488351232) (hL : ∀ s ∈ L, s.size ≤ 140737488351232) (hst : -9223372036854775808 ≤ st ∧ st ≤ 9223372036854775807) (w : World) (h : Rd w w.heap.size A L.length (fun j => .string (L.getD j ⟨#[]⟩))) (hT : Tab w) (hZ : Tz w) :
    Calls Tryd.prog 5 #[.agg #[.int .i64 k, .string th, .slice A L.length c, .int .i64 st, .int .i64 ce]] w fun e w' => e = .returned (.bool true) ∧ Below w.heap.size w w' := by
  obtain ⟨n, hn⟩ : ∃ n, n = L.length := ⟨_, rfl⟩
  rw [← hn] at h ⊢
  have HN := Lib.hid hn
  clear hn
  obtain ⟨Wa, hWa⟩ : ∃ Wa : World, Wa = w.alloc (.cells #[.int .i64 k, .string th, .slice A n c, .int .i64 st, .int .i64 ce] 34) := ⟨_, rfl⟩
  have q0 : Row Wa w.heap.size 34 #[.int .i64 k, .string th, .slice A n c, .int .i64 st, .int .i64 ce] := by rw [hWa]; exact row_new rfl
  have qb : Below w.heap.size w Wa := by rw [hWa]; exact (by (repeat (first | (with_reducible exact Below.refl _ _) | (with_reducible assumption) | (with_reducible refine Below.setCell ?_ (by first | omega | (simp <;> omega)) _) | (with_reducible refine Below.alloc ?_ (by first | omega | (simp <;> omega)) _) | (with_reducible refine Below.drew ?_) | (with_reducible refine below_drewN ?_ _) | (with_reducible refine Below.trans ?_ (Below.mono (by with_reducible assumption) (by first | omega | (simp <;> omega)))))))
  have qz := q0.lt
  go_enter Tryd.func5, Tryd.ntmps5
  go_upto_region 1 with fail
  rw [← hWa]
  clear hWa
  have hA := h.below qb
  have c0 := q0.cell 0
  have c1 := q0.cell 1
  have c2 := q0.cell 2
  have c3 := q0.cell 3
  have c4 := q0.cell 4
  simp at c0 c1 c2 c3 c4
  have H0 := Lib.hid (And.intro h hth)
  clear h
  go_wp2
  go_loop [3, 4] (fun s i => ∃ j t : Nat, j ≤ n ∧ i = .int .i64 j ∧ s = .int .i64 t ∧ t = th.size + (rowsL (L.take j)).length ∧ t ≤ 140737488360000) (fun _ i => n - (intOf i).toNat)
  case atStart => exact ⟨0, th.size, Nat.zero_le _, rfl, rfl, by simp [rowsL], by omega⟩
  case round =>
    obtain ⟨j, t, hj, rfl, rfl, ht, htb⟩ := hrel
    have HTT := Lib.hid ht
    clear ht
    by_cases hlt : j < n
    · have i1 : (j : Int) < (n : Int) := by omega
      by_cases hm : t ≤ 2500
      · have hS := rowsL_step (L := L) (j := j) (by rw [← HN.out]; exact hlt)
        have hxs := hL _ (getD_mem (L := L) (j := j) (by rw [← HN.out]; exact hlt))
        obtain ⟨ad, rfl, hbl, hc⟩ := hA j hlt
        replace hc : Wa.cell? (ad.add j) = some (.string (L.getD j ⟨#[]⟩)) := hc
        generalize L.getD j ⟨#[]⟩ = x at *
        have HS := Lib.hid hS
        clear hS
        have i2 : (t : Int) ≤ 2500 := by omega
        have hjb : j ≤ 2500 := by
          have h1 := rowsL_len (L.take j)
          have h2 := HTT.out
          have h3 := HN.out
          rw [List.length_take] at h1
          omega
        go_wp2
        go_round
        case rel =>
          have h1 := HS.out
          have h2 := HTT.out
          refine ⟨j + 1, t + x.size + 1, ?_, ?_, ?_, ?_, ?_⟩
          · omega
          · go_num
          · go_num
          · omega
          · omega
        case measure => simp [intOf]; omega
      · have i2 : ¬ (t : Int) ≤ 2500 := by omega
        go_wp2
        go_ret
        exact ⟨rfl, qb⟩
    · obtain rfl : j = n := by omega
      have HL2 := Lib.hid (show L.take j = L from List.take_of_length_le (by rw [← HN.out]; exact Nat.le_refl _))
      by_cases hm : t ≤ 2500
      · have i2 : (t : Int) ≤ 2500 := by omega
        have hrl : (rowsL L).length ≤ 8000 ∧ th.size ≤ 4000 := by have h2 := HTT.out; rw [HL2.out] at h2; omega
        have hTa : Tab Wa := hT.later (B := w.heap.size) qb hT.2
        have hZa : Tz Wa := hZ.later (B := w.heap.size) qb hZ.2
        have L0 : ∀ x : Later Wa, x.w.cell? ⟨w.heap.size, 0, none⟩ = some (.int .i64 k) := fun x => (x.cell qz).trans c0
        have L1 : ∀ x : Later Wa, x.w.cell? ⟨w.heap.size, 1, none⟩ = some (.string th) := fun x => (x.cell qz).trans c1
        have L2 : ∀ x : Later Wa, x.w.cell? ⟨w.heap.size, 2, none⟩ = some (.slice A j c) := fun x => (x.cell qz).trans c2
        have L3 : ∀ x : Later Wa, x.w.cell? ⟨w.heap.size, 3, none⟩ = some (.int .i64 st) := fun x => (x.cell qz).trans c3
        have L4 : ∀ x : Later Wa, x.w.cell? ⟨w.heap.size, 4, none⟩ = some (.int .i64 ce) := fun x => (x.cell qz).trans c4
        have HA := Lib.hid (fun x : Later Wa => Outcome_any L A j c HN.out k st ce th hrl.2 hrl.1 hst x.w ((hA.below (x.h.mono (by omega))).more (by have := x.h.size; omega)) (tab_later hTa x) (tz_later hZa x))
        have HB := Lib.hid (fun x : Later Wa => rOutcome_any L A j c HN.out k st ce th hrl.2 hrl.1 hst x.w ((hA.below (x.h.mono (by omega))).more (by have := x.h.size; omega)))
        have HK := Lib.hid (fun x : Later Wa => known_any x.w (tab_later hTa x))
        go_upto_region 8 with fail
        clear hA c0 c1 c2 c3 c4 q0
        refine wp_region_later Wa (Below.refl _ _) (by kernel_rfl) (by kernel_rfl) ?_
        repeat (first | go_big_quiet_step (first | with_reducible exact Later.call (HA.out _) | with_reducible exact Later.call (HB.out _) | with_reducible exact Later.call (HK.out _)) | quiet_step (first | with_reducible exact Later.call (HA.out _) | with_reducible exact Later.call (HB.out _) | with_reducible exact Later.call (HK.out _)))
        refine wpQuiet_nil ?_
        intro _ hw'
        obtain ⟨xq, hw''⟩ := hw'
        subst hw''
        go_wp2
        go_ret
        exact ⟨rfl, qb.trans (xq.h.mono (by omega))⟩
      · have i2 : ¬ (t : Int) ≤ 2500 := by omega
        go_wp2
        go_ret
        exact ⟨rfl, qb⟩
end Go.Proofs.YtcphkdooemengaaDoor
