/- The walks of the program's small ones: typed, nothing. -/
import Derived.Test.YtpkdhciokiomlaaDoorHBZ7
import Derived.Test.YtpkdhciokiomlaaDoorHBZ17
import Derived.Test.YtpkdhciokiomlaaDoorHBZ22
namespace Go.Proofs.YtpkdhciokiomlaaDoor
set_option linter.unusedVariables false
set_option linter.unusedSimpArgs false
set_option linter.unnecessarySimpa false
open Go.RowKit
attribute [local go_sem] cell_alloc_add cell_set_add lt_more
set_option maxRecDepth 100000 in
set_option maxHeartbeats 4000000 in
theorem typed_any (k : Int) (i : Nat) (w : World) : Calls Tryd.prog 21 #[.int .i64 k, .int .i64 (i : Int)] w fun e w' => e = .returned (.bool (emptied k i)) ∧ Below w.heap.size w w' := by
  generalize hE : emptied k i = R
  have HE := Lib.hid hE
  clear hE
  by_cases h : k = 22
  · subst h
    go_enter Tryd.func21, Tryd.ntmps21
    go_wp2
    all_goals go_ret
    all_goals exact ⟨ret_bool (by rw [← HE.out]; simp [emptied] <;> first | omega | (rw [Bool.eq_iff_iff]; simp <;> omega)), (by (exact bl))⟩
  have k22 : (k == 22) = false := beq_eq_false_iff_ne.2 h
  have n22 := Lib.hid h
  clear h
  by_cases h : k = 43
  · subst h
    go_enter Tryd.func21, Tryd.ntmps21
    go_wp2
    all_goals go_ret
    all_goals exact ⟨ret_bool (by rw [← HE.out]; simp [emptied] <;> first | omega | (rw [Bool.eq_iff_iff]; simp <;> omega)), (by (exact bl))⟩
  have k43 : (k == 43) = false := beq_eq_false_iff_ne.2 h
  have n43 := Lib.hid h
  clear h
  by_cases h : k = 40
  · subst h
    go_enter Tryd.func21, Tryd.ntmps21
    go_wp2
    all_goals go_ret
    all_goals exact ⟨ret_bool (by rw [← HE.out]; simp [emptied] <;> first | omega | (rw [Bool.eq_iff_iff]; simp <;> omega)), (by (exact bl))⟩
  have k40 : (k == 40) = false := beq_eq_false_iff_ne.2 h
  have n40 := Lib.hid h
  clear h
  by_cases h : k = 44
  · subst h
    go_enter Tryd.func21, Tryd.ntmps21
    go_wp2
    all_goals go_ret
    all_goals exact ⟨ret_bool (by rw [← HE.out]; simp [emptied] <;> first | omega | (rw [Bool.eq_iff_iff]; simp <;> omega)), (by (exact bl))⟩
  have k44 : (k == 44) = false := beq_eq_false_iff_ne.2 h
  have n44 := Lib.hid h
  clear h
  by_cases h : k = 66
  · subst h
    go_enter Tryd.func21, Tryd.ntmps21
    go_wp2
    all_goals go_ret
    all_goals exact ⟨ret_bool (by rw [← HE.out]; simp [emptied] <;> first | omega | (rw [Bool.eq_iff_iff]; simp <;> omega)), (by (exact bl))⟩
  have k66 : (k == 66) = false := beq_eq_false_iff_ne.2 h
  have n66 := Lib.hid h
  clear h
  by_cases h : k = 27
  · subst h
    go_enter Tryd.func21, Tryd.ntmps21
    go_wp2
    all_goals go_ret
    all_goals exact ⟨ret_bool (by rw [← HE.out]; simp [emptied] <;> first | omega | (rw [Bool.eq_iff_iff]; simp <;> omega)), (by (exact bl))⟩
  have k27 : (k == 27) = false := beq_eq_false_iff_ne.2 h
  have n27 := Lib.hid h
  clear h
  by_cases h : k = 28
  · subst h
    go_enter Tryd.func21, Tryd.ntmps21
    go_wp2
    all_goals go_ret
    all_goals exact ⟨ret_bool (by rw [← HE.out]; simp [emptied] <;> first | omega | (rw [Bool.eq_iff_iff]; simp <;> omega)), (by (exact bl))⟩
  have k28 : (k == 28) = false := beq_eq_false_iff_ne.2 h
  have n28 := Lib.hid h
  clear h
  by_cases h : k = 41
  · subst h
    by_cases i0 : i = 0
    · subst i0
      go_enter Tryd.func21, Tryd.ntmps21
      go_wp2
      all_goals go_ret
      all_goals exact ⟨ret_bool (by rw [← HE.out]; simp [emptied]), (by (exact bl))⟩
    · have j0 : ((i : Int) == 0) = false := beq_eq_false_iff_ne.2 (by omega)
      go_enter Tryd.func21, Tryd.ntmps21
      go_wp2
      all_goals go_ret
      all_goals exact ⟨ret_bool (by rw [← HE.out]; simp [emptied, i0] <;> first | omega | (rw [Bool.eq_iff_iff]; simp <;> omega)), (by (exact bl))⟩
  have k41 : (k == 41) = false := beq_eq_false_iff_ne.2 h
  have n41 := Lib.hid h
  clear h
  by_cases h : k = 45
  · subst h
    by_cases i0 : i = 0
    · subst i0
      go_enter Tryd.func21, Tryd.ntmps21
      go_wp2
      all_goals go_ret
      all_goals exact ⟨ret_bool (by rw [← HE.out]; simp [emptied]), (by (exact bl))⟩
    · have j0 : ((i : Int) == 0) = false := beq_eq_false_iff_ne.2 (by omega)
      go_enter Tryd.func21, Tryd.ntmps21
      go_wp2
      all_goals go_ret
      all_goals exact ⟨ret_bool (by rw [← HE.out]; simp [emptied, i0] <;> first | omega | (rw [Bool.eq_iff_iff]; simp <;> omega)), (by (exact bl))⟩
  have k45 : (k == 45) = false := beq_eq_false_iff_ne.2 h
  have n45 := Lib.hid h
  clear h
  by_cases h : k = 42
  · subst h
    by_cases i0 : i = 0
    · subst i0
      go_enter Tryd.func21, Tryd.ntmps21
      go_wp2
      all_goals go_ret
      all_goals exact ⟨ret_bool (by rw [← HE.out]; simp [emptied]), (by (exact bl))⟩
    · have j0 : ((i : Int) == 0) = false := beq_eq_false_iff_ne.2 (by omega)
      go_enter Tryd.func21, Tryd.ntmps21
      go_wp2
      all_goals go_ret
      all_goals exact ⟨ret_bool (by rw [← HE.out]; simp [emptied, i0] <;> first | omega | (rw [Bool.eq_iff_iff]; simp <;> omega)), (by (exact bl))⟩
  have k42 : (k == 42) = false := beq_eq_false_iff_ne.2 h
  have n42 := Lib.hid h
  clear h
  have hR : R = false := by
    rw [← HE.out]; unfold emptied
    rw [if_neg (by have := n22.out; have := n43.out; have := n40.out; have := n44.out; have := n66.out; omega), if_neg (by have := n27.out; have := n28.out; omega), if_neg (by have := n41.out; have := n45.out; have := n42.out; omega)]
  subst hR
  go_enter Tryd.func21, Tryd.ntmps21
  go_wp2
  all_goals go_ret
  all_goals exact ⟨rfl, (by (exact bl))⟩
theorem field_kids {L : List Nd} {n : Int} (h : fitsB L n = true) (hk : (nd L n).k = 44) : (nd L n).ks.length = 2 := by
  have h1 := (Bool.and_eq_true_iff.1 (show (saidB (nd L n) && kidsP L (nd L n)) = true from h)).2
  unfold kidsP at h1
  have h2 := (Bool.and_eq_true_iff.1 h1).2
  rw [if_neg (by omega), if_neg (by omega), hk, show tab 44 = some ([orP typeP (ofP [1]), orP exprP (ofP [1])], false) by simp [tab]] at h2
  simp only [Bool.and_eq_true, Bool.false_or, decide_eq_true_eq, List.length_cons, List.length_nil] at h2
  exact h2.1.1.symm
/-- A kid of a node that is laid out, by its number. -/
theorem kid_sp {L : List Nd} {n e : Nat} (h : Sp L n e) {q : Nat} (hq : q < (nd L n).ks.length) : ∃ j m : Nat, (nd L n).ks.getD q 0 = (j : Int) ∧ Sp L j m ∧ n < j ∧ m ≤ e := by
  have hm : (nd L n).ks.getD q 0 ∈ (nd L n).ks := by
    rw [List.getD_eq_getElem?_getD, List.getElem?_eq_getElem hq]; exact List.getElem_mem hq
  obtain ⟨j, h1, h2, h3⟩ := h.2.2.kid _ hm
  obtain ⟨m, h4, h5⟩ := h.2.2.sub j h2 h3
  exact ⟨j, m, h1, h4, by omega, h5⟩
set_option maxRecDepth 100000 in
set_option maxHeartbeats 4000000 in
theorem nothing_any (A : Option Addr) (L : List Nd) (N c : Nat) (hN : L.length = N) (hc : N ≤ c) (hm : c ≤ maxLen) (b : Nat) : ∀ (f i e : Nat) (w : World), Sp L i e → e - i ≤ f → TreeAt w w.heap.size A L → w.cell? ⟨b, 0, none⟩ = some (.slice A N c) → b < w.heap.size →
    Calls Tryd.prog 19 #[.pointer (some ⟨b, 0, none⟩), .int .i64 (i : Int)] w fun r w' => r = .returned (.bool (leftB L f i)) ∧ Below w.heap.size w w' := by
  have HN := Lib.hid hN
  unfold maxLen at hm
  intro f
  induction f with
  | zero => intro i e w hS hf; have := hS.lt; omega
  | succ f ih =>
    intro i e w hS hf hT hcell hbw
    have IH := Lib.hid ih
    clear ih
    have hi : i < N := by rw [← hN]; exact hS.1
    obtain ⟨ad, rfl, hn⟩ := hT i hS.1
    have hb2 := hn.blk
    have hb1 : ad.block < w.heap.size := (by rw [block_add] at hb2; exact hb2)
    obtain ⟨K, kc, c0, c1, c2, c3, c4, hK, hkk, hkm⟩ := node_open hn
    have H44 := Lib.hid (fun h => field_kids hS.2.1 (n := (i : Int)) h)
    have H50 := Lib.hid (fun h => (export_kid hS.2.1 (n := (i : Int)) h).1)
    have HKD := Lib.hid (fun q (h : q < (nd L i).ks.length) => kid_sp hS h)
    have HT := Lib.hid hT
    have HL := Lib.hid (show leftB L (f + 1) i = if (nd L i).k = 51 ∨ (nd L i).k = 52 then true else if (nd L i).k = 50 then leftB L f ((nd L i).ks.getD 0 0) else if (nd L i).k = 44 then (nd L ((nd L i).ks.getD 1 0)).k == 1 else false from rfl)
    have HF := Lib.hid (And.intro hf hS.lt)
    clear hn hS hT hN hf
    generalize leftB L (f + 1) i = R at *
    generalize nd L (i : Int) = y at *
    obtain ⟨k, x, m, ks, p⟩ := y
    simp only at c0 c1 c2 c3 c4 hK hkk H44 H50 HKD HL
    unfold maxLen at hkm
    generalize hMM : ks.length = M at *
    have HMM := Lib.hid hMM
    clear hMM
    by_cases h : k = 51
    · subst h
      have hR := HL.out
      simp at hR
      subst hR
      go_enter Tryd.func19, Tryd.ntmps19
      go_wp2
      go_ret
      exact ⟨rfl, (by (exact bl))⟩
    have k51 : (k == 51) = false := beq_eq_false_iff_ne.2 h
    have n51 := Lib.hid h
    clear h
    by_cases h : k = 52
    · subst h
      have hR := HL.out
      simp at hR
      subst hR
      go_enter Tryd.func19, Tryd.ntmps19
      go_wp2
      go_ret
      exact ⟨rfl, (by (exact bl))⟩
    have k52 : (k == 52) = false := beq_eq_false_iff_ne.2 h
    have n52 := Lib.hid h
    clear h
    by_cases h : k = 50
    · subst h
      have hM := H50.out rfl
      have hM0 : 0 < M := by omega
      obtain ⟨j, m', e1, hS, e2, e3⟩ := HKD.out 0 hM0
      have hR := HL.out
      rw [if_neg (by omega), if_pos rfl, e1] at hR
      have HR := Lib.hid hR
      obtain ⟨kd, rfl, hkb, kcell⟩ := hK 0 hM0
      rw [show ksV ks 0 = .int .i64 (j : Int) from by unfold ksV; rw [e1]] at kcell
      have kcell0 : w.cell? kd = some (.int .i64 (j : Int)) := by rw [← add_zero kd]; exact kcell
      have HC := Lib.hid (fun W (hb : Below w.heap.size w W) => IH.out j m' W hS (by have := HF.out; have := hS.lt; omega) (HT.out.later hb) ((hb.cell (p := ⟨b, 0, none⟩) hbw).trans hcell) (by have := hb.size; omega))
      rw [← HR.out] at HC
      clear hR e1 hS hK hM
      go_enter Tryd.func19, Tryd.ntmps19
      go_wp2_with (first
        | (go_at_call 19; (with_reducible refine (HC.out _ (by (exact bl))).mono ?_); rintro r w1 ⟨rfl, b1⟩)
        | fail)
      go_ret
      exact ⟨rfl, Below.trans (b := _) (by (exact bl)) (b1.mono (by simp))⟩
    have k50 : (k == 50) = false := beq_eq_false_iff_ne.2 h
    have n50 := Lib.hid h
    clear h
    by_cases h : k = 44
    · subst h
      have hM := H44.out rfl
      have hM1 : 1 < M := by omega
      obtain ⟨j, m', e1, hS, e2, e3⟩ := HKD.out 1 hM1
      have hR := HL.out
      rw [if_neg (by omega), if_neg (by omega), if_pos rfl, e1] at hR
      obtain ⟨kd, rfl, hkb, kcell⟩ := hK 1 hM1
      rw [show ksV ks 1 = .int .i64 (j : Int) from by unfold ksV; rw [e1]] at kcell
      have hjN : j < N := by rw [← HN.out]; exact hS.1
      have hnj := HT.out.at_ hS.1
      have d0 := hnj.c0
      have HR := Lib.hid hR
      generalize (nd L (j : Int)).k = kj at *
      have kcell1 : w.cell? ⟨kd.block, kd.off + 1, none⟩ = some (.int .i64 (j : Int)) := by rw [show (1 : Nat) = 0 + 1 from rfl, Addr.add_succ'] at kcell; exact kcell
      have hji : (j : Int) < (N : Int) := by omega
      have h1M : (1 : Int) < (M : Int) := by omega
      clear hR e1 hS hK hM hnj
      go_enter Tryd.func19, Tryd.ntmps19
      go_wp2
      go_quiet (fail)
      go_wp2
      go_ret
      exact ⟨ret_bool HR.out.symm, (by (exact bl))⟩
    have k44 : (k == 44) = false := beq_eq_false_iff_ne.2 h
    have n44 := Lib.hid h
    clear h
    have hR := HL.out
    rw [if_neg (by have := n51.out; have := n52.out; omega), if_neg n50.out, if_neg n44.out] at hR
    subst hR
    go_enter Tryd.func19, Tryd.ntmps19
    go_wp2
    go_ret
    exact ⟨rfl, (by (exact bl))⟩
end Go.Proofs.YtpkdhciokiomlaaDoor
