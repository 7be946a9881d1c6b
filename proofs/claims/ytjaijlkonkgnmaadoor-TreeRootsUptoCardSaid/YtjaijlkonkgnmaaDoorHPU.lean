/- The rows of laws on trees: what the bound on the bulk gives. -/
import Derived.Test.YtjaijlkonkgnmaaDoorHBP
import Derived.Test.YtjaijlkonkgnmaaDoorHBL
namespace Go.Proofs.YtjaijlkonkgnmaaDoor
set_option linter.unusedVariables false
set_option linter.unusedSimpArgs false
set_option linter.unnecessarySimpa false
open Go.ChangeShapes Go.WideShapes Go.ChangeAt Go.WideMaps Go.WideElems Go.RowKit Go.Joins Go.Deep
variable {H : Type}
theorem bulk_pos (d : DataW H) : 1 ≤ Rows.uptoBulk d := by
  cases d with
  | lit l => cases l <;> simp [Rows.uptoBulk]
  | nil => simp [Rows.uptoBulk]
  | ptr d => simp [Rows.uptoBulk]
  | slice a b => simp [Rows.uptoBulk]
  | agg a => simp [Rows.uptoBulk]
  | iface t d => simp [Rows.uptoBulk]
  | map e => simp [Rows.uptoBulk]
  | held h => simp [Rows.uptoBulk]
theorem bulk_get : ∀ (l : List (DataW H)) (j : Nat) (d : DataW H), l[j]? = some d → Rows.uptoBulk d ≤ Rows.uptoBulkAll l
  | [], j, d, h => by simp at h
  | a :: l, 0, d, h => by simp at h; subst h; simp [Rows.uptoBulkAll]
  | a :: l, j + 1, d, h => by
    simp at h
    have := bulk_get l j d h
    simp [Rows.uptoBulkAll]; omega
theorem bulk_len : ∀ l : List (DataW H), l.length ≤ Rows.uptoBulkAll l
  | [] => Nat.zero_le _
  | a :: l => by
    have := bulk_len l
    have := bulk_pos a
    simp [Rows.uptoBulkAll]; omega
theorem bulk_node {d : DataW H} {y : Nd} (h : NodeD d y) : y.x.size + y.ks.length ≤ Rows.uptoBulk d := by
  obtain ⟨dk, rfl, hk⟩ := h
  have hz : y.x.data.toList.length = y.x.size := by simp
  have hk2 : y.ks.length ≤ Rows.uptoBulk dk := by
    rcases hk with ⟨_, e⟩ | ⟨sp, rfl⟩
    · rw [e]; exact Nat.zero_le _
    · have := bulk_len (H := H) (lits .i64 y.ks)
      have e : (lits (H := H) .i64 y.ks).length = y.ks.length := by simp [lits]
      simp only [Rows.uptoBulk]
      omega
  simp only [Rows.uptoBulk, Rows.uptoBulkAll]
  omega
theorem bulk_nodes {d : DataW H} {L : List Nd} (h : NodesD d L) : L.length ≤ Rows.uptoBulk d ∧ ∀ j : Nat, (nd L j).x.size + (nd L j).ks.length ≤ Rows.uptoBulk d := by
  have out : ∀ (L : List Nd) (j : Nat), L.length ≤ j → (nd L j).x.size + (nd L j).ks.length = 0 := fun L j hj => by
    rw [nd_nat, List.getD_eq_getElem?_getD, List.getElem?_eq_none hj]; rfl
  rcases h with ⟨rfl, rfl⟩ | ⟨el, sp, rfl, hl, hd⟩
  · exact ⟨Nat.zero_le _, fun j => by rw [out [] j (Nat.zero_le _)]; exact Nat.zero_le _⟩
  · have h1 := bulk_len el
    refine ⟨by simp only [Rows.uptoBulk]; omega, fun j => ?_⟩
    rcases Nat.lt_or_ge j L.length with hj | hj
    · obtain ⟨dj, e1, e2⟩ := hd j hj
      have := bulk_get el j dj e1
      have := bulk_node e2
      simp only [Rows.uptoBulk]; omega
    · rw [out L j hj]; exact Nat.zero_le _
theorem bulk_tree {d : DataW H} {L : List Nd} (h : TreeD d L) : L.length ≤ Rows.uptoBulk d ∧ ∀ j : Nat, (nd L j).x.size + (nd L j).ks.length ≤ Rows.uptoBulk d := by
  obtain ⟨dl, rfl, h2⟩ := h
  obtain ⟨h3, h4⟩ := bulk_nodes h2
  simp only [Rows.uptoBulk, Rows.uptoBulkAll]
  exact ⟨by omega, fun j => by have := h4 j; omega⟩
theorem bulk_trees {d : DataW H} {Ls : List (List Nd)} (h : TreesD d Ls) {n : Nat} (hn : Rows.uptoBulk d ≤ n) : Ls.length ≤ n ∧ ∀ q, q < Ls.length → (Ls.getD q []).length ≤ n ∧ ∀ j : Nat, (nd (Ls.getD q []) j).x.size + (nd (Ls.getD q []) j).ks.length ≤ n := by
  rcases h with ⟨rfl, rfl⟩ | ⟨el, sp, rfl, hl, hd⟩
  · exact ⟨Nat.zero_le _, fun q hq => by simp at hq⟩
  · have h1 := bulk_len el
    simp only [Rows.uptoBulk] at hn
    refine ⟨by omega, fun q hq => ?_⟩
    obtain ⟨dj, e1, e2⟩ := hd q hq
    have h3 := bulk_get el q dj e1
    obtain ⟨h4, h5⟩ := bulk_tree e2
    exact ⟨by omega, fun j => by have := h5 j; omega⟩
theorem fine_of {Ls : List (List Nd)} {n : Nat} (hn : n ≤ 2000000) (h : ∀ q, q < Ls.length → (Ls.getD q []).length ≤ n ∧ ∀ j : Nat, (nd (Ls.getD q []) j).x.size + (nd (Ls.getD q []) j).ks.length ≤ n) : Fine Ls :=
  ⟨fun q hq => by have := (h q hq).1; omega, fun q hq j => by have := (h q hq).2 j; omega, fun q hq j => by have := (h q hq).2 j; omega⟩
end Go.Proofs.YtjaijlkonkgnmaaDoor
