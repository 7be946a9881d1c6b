/- Plain: a node over the spans of its kids is the node's span. No program in sight. -/
import Derived.Test.YtjaijlkonkgnmaaDoorHBL
import Derived.Test.YtjaijlkonkgnmaaDoorHSub
namespace Go.Proofs.YtjaijlkonkgnmaaDoor
set_option linter.unusedVariables false
set_option linter.unusedSimpArgs false
set_option linter.unnecessarySimpa false
open Go.RowKit
theorem wrap_small {z : Int} (h1 : -9223372036854775808 ≤ z) (h2 : z ≤ 9223372036854775807) : IntKind.i64.wrap z = z := by rw [IntKind.wrap_i64]; omega
theorem shN_shN (a n : Int) (y : Nd) : shN (a + -n) (shN (-a) y) = shN (-n) y := by
  unfold shN
  congr 1
  rw [List.map_map]
  apply List.map_congr_left
  intro k _
  show IntKind.i64.wrap (IntKind.i64.wrap (k + -a) + (a + -n)) = IntKind.i64.wrap (k + -n)
  simp only [IntKind.wrap_i64]
  omega
theorem cut_sh (L : List Nd) (a m n : Nat) (h : n ≤ a) : (cutL L a m).map (shN ((a - n : Nat) : Int)) = ((L.drop a).take (m - a)).map (shN (-(n : Int))) := by
  unfold cutL
  rw [List.map_map]
  apply List.map_congr_left
  intro y _
  show shN _ (shN _ y) = _
  rw [show ((a - n : Nat) : Int) = (a : Int) + -(n : Int) by omega, shN_shN]
theorem cut_len {L : List Nd} {n e : Nat} (h : Sp L n e) : (cutL L n e).length = e - n := by
  unfold cutL; rw [List.length_map, sub_len h.len]
theorem take_two {α : Type} (L : List α) {a m e : Nat} (h1 : a ≤ m) (h2 : m ≤ e) : (L.drop a).take (e - a) = (L.drop a).take (m - a) ++ (L.drop m).take (e - m) := by
  rw [show e - a = (m - a) + (e - m) by omega, List.take_add, List.drop_drop, show a + (m - a) = m by omega]
/-- These are the spans of these kids. -/
def CutsOf (L : List Nd) (ks : List Int) (Ls : List (List Nd)) : Prop := Ls.length = ks.length ∧ ∀ j, j < ks.length → ∃ b m : Nat, ks.getD j 0 = (b : Int) ∧ Sp L b m ∧ Ls.getD j [] = cutL L b m
theorem cuts_body {L : List Nd} {n : Nat} (hn : L.length ≤ 1000000000000) {ks : List Int} {a e : Nat} (h : Ch L ks a e) : n ≤ a → ∀ Ls, CutsOf L ks Ls → offs (a - n) Ls = ks.map (fun k => IntKind.i64.wrap (k + -(n : Int))) ∧ body (a - n) Ls = ((L.drop a).take (e - a)).map (shN (-(n : Int))) := by
  induction h with
  | nil a =>
    intro _ Ls hc
    obtain rfl : Ls = [] := List.eq_nil_of_length_eq_zero hc.1
    simp [offs, body]
  | @cons ks a m e h0 hf h1 h2 ih1 ih2 =>
    intro hna Ls hc
    obtain ⟨hl, hc⟩ := hc
    cases Ls with
    | nil => simp at hl
    | cons l Ls =>
      obtain ⟨b, m', eb, hs, el⟩ := hc 0 (by simp)
      simp at eb el
      obtain rfl : a = b := by omega
      obtain rfl : m' = m := hs.det ⟨h0, hf, h1⟩
      subst el
      have ham := hs.lt
      have hme := h2.le
      have hlen := cut_len hs
      obtain ⟨e1, e2⟩ := ih2 (by omega) Ls ⟨by simpa using hl, fun j hj => by
        have := hc (j + 1) (by simp; omega)
        simpa using this⟩
      refine ⟨?_, ?_⟩
      · show ((a - n : Nat) : Int) :: offs (a - n + (cutL L a m').length) Ls = _
        rw [hlen, show a - n + (m' - a) = m' - n by omega, e1, List.map_cons, wrap_small (by omega) (by omega)]
        congr 1; omega
      · show (cutL L a m').map (shN ((a - n : Nat) : Int)) ++ body (a - n + (cutL L a m').length) Ls = _
        rw [hlen, show a - n + (m' - a) = m' - n by omega, e2, cut_sh L a m' n hna, take_two L (show a ≤ m' by omega) hme, List.map_append]
/-- A node over the spans of its kids. -/
theorem cuts_make {L : List Nd} {n e : Nat} (hn : L.length ≤ 1000000000000) (h : Sp L n e) {Ls : List (List Nd)} (hc : CutsOf L (nd L n).ks Ls) : mkL (nd L n) Ls = cutL L n e := by
  have hp : ∀ l ∈ Ls, l.length ≠ 0 := fun l hl => by
    obtain ⟨j, hj, rfl⟩ := List.getElem_of_mem hl
    obtain ⟨b, m, _, hs, e2⟩ := hc.2 j (by rw [← hc.1]; exact hj)
    rw [List.getD_eq_getElem?_getD, List.getElem?_eq_getElem hj] at e2
    simp at e2
    rw [e2, cut_len hs]
    have := hs.lt
    omega
  obtain ⟨e1, e2⟩ := cuts_body (n := n) hn h.2.2 (by omega) Ls hc
  rw [show n + 1 - n = 1 by omega] at e1 e2
  rw [mkL_form hp, e1, e2]
  have hlt := h.lt
  have h0 := h.1
  unfold cutL
  rw [show e - n = (e - (n + 1)) + 1 by omega, List.drop_eq_getElem_cons h0, List.take_succ_cons, List.map_cons]
  congr 1
  rw [show L[n] = nd L n from by have := nd_get h0; rw [List.getElem?_eq_getElem h0] at this; exact Option.some.inj this]
  rfl
theorem cuts_sum {L : List Nd} {n e : Nat} (hn : L.length ≤ 1000000000000) (h : Sp L n e) {Ls : List (List Nd)} (hc : CutsOf L (nd L n).ks Ls) : sumL Ls + 1 = e - n := by
  have hp : ∀ l ∈ Ls, l.length ≠ 0 := fun l hl => by
    obtain ⟨j, hj, rfl⟩ := List.getElem_of_mem hl
    obtain ⟨b, m, _, hs, e2⟩ := hc.2 j (by rw [← hc.1]; exact hj)
    rw [List.getD_eq_getElem?_getD, List.getElem?_eq_getElem hj] at e2
    simp at e2
    rw [e2, cut_len hs]
    have := hs.lt
    omega
  have h1 := congrArg List.length (cuts_make hn h hc)
  rw [mkL_len hp, cut_len h] at h1
  exact h1
theorem cut_ks {L : List Nd} {b m B : Nat} (h : ∀ i : Nat, (nd L i).ks.length ≤ B) (j : Nat) : (nd (cutL L b m) j).ks.length ≤ B := by
  rcases Nat.lt_or_ge j (cutL L b m).length with hj | hj
  · have h1 := nd_get hj
    unfold cutL at h1
    rw [List.getElem?_map] at h1
    have hj2 : j < ((L.drop b).take (m - b)).length := by unfold cutL at hj; rw [List.length_map] at hj; exact hj
    rw [nd_get hj2] at h1
    have h2 := Option.some.inj h1
    unfold cutL
    rw [← h2]
    show ((nd ((L.drop b).take (m - b)) j).ks.map _).length ≤ B
    rw [List.length_map]
    exact sub_nd j (P := fun y => y.ks.length ≤ B) (Nat.zero_le _) h
  · rw [nd_nat, List.getD_eq_getElem?_getD, List.getElem?_eq_none hj]; exact Nat.zero_le _
/-- The whole tree. -/
theorem cut_all {L : List Nd} (h : Sp L 0 L.length) (hn : L.length ≤ 1000000000000) : cutL L 0 L.length = L := by
  unfold cutL
  rw [List.drop_zero, Nat.sub_zero, List.take_length]
  apply List.ext_getElem?
  intro j
  rw [List.getElem?_map]
  rcases Nat.lt_or_ge j L.length with hj | hj
  · rw [nd_get hj]
    show some (shN _ _) = some _
    congr 1
    have hk : (nd L j).ks.map (fun k => IntKind.i64.wrap (k + -((0 : Nat) : Int))) = (nd L j).ks := by
      conv => rhs; rw [← List.map_id (nd L j).ks]
      apply List.map_congr_left
      intro k hk
      obtain ⟨i, rfl, h1, h2⟩ := good_kid h hj k hk
      rw [wrap_small (by omega) (by omega)]
      show _ = (i : Int)
      omega
    unfold shN
    rw [hk]
  · rw [List.getElem?_eq_none hj]; rfl
end Go.Proofs.YtjaijlkonkgnmaaDoor
