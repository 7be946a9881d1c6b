/- The walks of what ends a node's span: the program's and the reference's. -/
import Derived.Test.YtjaijlkonkgnmaaDoorHBJ
import Derived.Test.YtjaijlkonkgnmaaDoorHBB
import Derived.Deep.QuietTactic
namespace Go.Proofs.YtjaijlkonkgnmaaDoor
set_option linter.unusedVariables false
set_option linter.unusedSimpArgs false
set_option linter.unnecessarySimpa false
open Go.RowKit
attribute [local go_sem] cell_alloc_add cell_set_add lt_more
theorem ch_last {L : List Nd} {ks : List Int} {a e : Nat} (h : Ch L ks a e) (hn : ks ≠ []) : ∃ k : Nat, ks.getD (ks.length - 1) 0 = (k : Int) ∧ Sp L k e ∧ a ≤ k := by
  induction h with
  | nil a => exact absurd rfl hn
  | @cons ks a m e h0 hf h1 h2 ih1 ih2 =>
    cases ks with
    | nil => cases h2; exact ⟨a, rfl, ⟨h0, hf, h1⟩, Nat.le_refl _⟩
    | cons k ks =>
      obtain ⟨k', e1, e2, e3⟩ := ih2 (by simp)
      have := h1.le
      refine ⟨k', ?_, e2, by omega⟩
      simpa using e1
theorem sp_leaf {L : List Nd} {n e : Nat} (h : Sp L n e) (hn : (nd L n).ks.length = 0) : e = n + 1 := by
  have h2 := h.2.2
  rw [List.eq_nil_of_length_eq_zero hn] at h2
  cases h2; rfl
set_option maxRecDepth 100000 in
set_option maxHeartbeats 4000000 in
theorem end_any (A : Option Addr) (L : List Nd) (N c : Nat) (hN : L.length = N) (hc : N ≤ c) (hm : c ≤ maxLen) (n e : Nat) (hs : Sp L n e) (w : World) (h : TreeAt w w.heap.size A L) : Calls Tryd.prog 31 #[.agg #[.slice A N c], .int .i64 (n : Int)] w fun r w' => r = .returned (.int .i64 (e : Int)) ∧ Below w.heap.size w w' := by
  obtain ⟨wa, hwa⟩ : ∃ wa : World, wa = w.alloc (.cells #[.slice A N c] 29) := ⟨_, rfl⟩
  have bA : Below w.heap.size w wa := by rw [hwa]; exact (by (repeat (first | (with_reducible exact Below.refl _ _) | (with_reducible assumption) | (with_reducible refine Below.setCell ?_ (by first | omega | (simp <;> omega)) _) | (with_reducible refine Below.alloc ?_ (by first | omega | (simp <;> omega)) _) | (with_reducible refine Below.drew ?_) | (with_reducible refine below_drewN ?_ _) | (with_reducible refine Below.trans ?_ (Below.mono (by with_reducible assumption) (by first | omega | (simp <;> omega)))))))
  have rT : Row wa w.heap.size 29 #[.slice A N c] := by rw [hwa]; exact row_new rfl
  have hT := Lib.hid (h.below bA)
  have HN := Lib.hid hN
  have HS := Lib.hid hs
  have hnN : n < N := by have := hs.1; omega
  have t0 := rT.cell 0
  simp at t0
  unfold maxLen at hm
  clear h hs hN rT
  go_enter Tryd.func31, Tryd.ntmps31
  go_upto_region 1 with fail
  rw [← hwa]
  clear hwa
  go_loopw [1] (fun t wr => ∃ q : Nat, q < N ∧ t = .int .i64 (q : Int) ∧ Hid (Sp L q e) ∧ ∃ d, wr = wa.drewN d) (fun t _ => N - (intOf t).toNat)
  case atStart => exact ⟨n, hnN, rfl, HS, 0, rfl⟩
  case round =>
    obtain ⟨q, hq, rfl, HQ, d, rfl⟩ := hrel
    clear hnN HS
    have hqL : q < L.length := by rw [HN.out]; exact hq
    obtain ⟨ad, rfl, hn⟩ := hT.out q hqL
    obtain ⟨K, kc, c0, c1, c2, c3, c4, hK, hkk, hkm⟩ := node_open hn
    have hqi : (q : Int) < (N : Int) := by omega
    have hCL := Lib.hid (fun hne => ch_last HQ.out.2.2 hne)
    have hLE := Lib.hid (fun h0 => sp_leaf HQ.out h0)
    have hSL := Lib.hid (HQ.out.len)
    clear hn c0 c1 c2 c4
    unfold maxLen at hkm
    generalize hks : (nd L q).ks = ks at *
    generalize hMM : ks.length = M at *
    have HM := Lib.hid hMM
    clear hMM hks
    by_cases hM0 : M = 0
    · have he := hLE.out hM0
      subst hM0
      subst he
      have hwr : IntKind.i64.wrap ((q : Int) + 1) = (q : Int) + 1 := by rw [IntKind.wrap_i64]; omega
      go_wp2
      go_ret
      exact ⟨by go_num, bA.trans (by (repeat (first | (with_reducible exact Below.refl _ _) | (with_reducible assumption) | (with_reducible refine Below.setCell ?_ (by first | omega | (simp <;> omega)) _) | (with_reducible refine Below.alloc ?_ (by first | omega | (simp <;> omega)) _) | (with_reducible refine Below.drew ?_) | (with_reducible refine below_drewN ?_ _) | (with_reducible refine Below.trans ?_ (Below.mono (by with_reducible assumption) (by first | omega | (simp <;> omega)))))))⟩
    · obtain ⟨m, rfl⟩ : ∃ m, M = m + 1 := ⟨M - 1, by omega⟩
      obtain ⟨k, ek, hsk, hak⟩ := hCL.out (by intro e0; rw [e0] at HM; have := HM.out; simp at this)
      obtain ⟨kd, hKd, hkb, kcell⟩ := hK m (by omega)
      subst hKd
      rw [Nat.add_sub_cancel] at ek
      replace kcell : wa.cell? (kd.add m) = some (.int .i64 (k : Int)) := by rw [kcell]; show some (Value.int .i64 (ks.getD m 0)) = _; rw [ek]
      have hmi : (m : Int) < ((m + 1 : Nat) : Int) := by omega
      have hwr : IntKind.i64.wrap (((m + 1 : Nat) : Int) - 1) = (m : Int) := by rw [IntKind.wrap_i64]; omega
      have HSK := Lib.hid hsk
      have hkN : k < N := by have := hsk.1; have := HN.out; omega
      clear hsk ek hK hCL hLE
      go_wp2
      go_quiet (fail)
      go_wp2
      exact ⟨⟨k, hkN, by go_num, HSK, ⟨_, World.drewN_drewN _ _ _⟩⟩, by simp [intOf]; omega⟩
end Go.Proofs.YtjaijlkonkgnmaaDoor
