/- The rows of laws on trees: what the bound on the reach gives. -/
import Derived.Test.YtpkdhciokiomlaaDoorHPT
import Derived.SizedLaws
namespace Go.Proofs.YtpkdhciokiomlaaDoor
set_option linter.unusedVariables false
set_option linter.unusedSimpArgs false
set_option linter.unnecessarySimpa false
open Go.ChangeShapes Go.WideShapes Go.ChangeAt Go.WideMaps Go.WideElems Go.RowKit Go.Joins Go.Deep
variable {H : Type}
theorem reach_of {ts : List TypeId} {ds : List (DataW H)} (h : (DataW.weightsEach Tryd.prog ts ds).all (· ≤ reachBytes) = true) {j : Nat} {t : TypeId} {d : DataW H} (ht : ts[j]? = some t) (hd : ds[j]? = some d) : ∀ n ∈ d.weights Tryd.prog t, n ≤ 140737488351232 := fun n hn =>
  of_decide_eq_true (List.all_eq_true.1 h n (DataW.weights_mem_each ht hd n hn))
theorem wgt_all {P : Program} {t : TypeId} : ∀ (l : List (DataW H)) (j : Nat) (d : DataW H), l[j]? = some d → ∀ n ∈ d.weights P t, n ∈ DataW.weightsAll P t l
  | [], j, d, h, n, hn => by simp at h
  | a :: l, 0, d, h, n, hn => by simp at h; subst h; simp only [DataW.weightsAll, List.mem_append]; exact .inl hn
  | a :: l, j + 1, d, h, n, hn => by
    simp at h
    simp only [DataW.weightsAll, List.mem_append]
    exact .inr (wgt_all l j d h n hn)
theorem bytesInt : Tryd.prog.bytesOf 3 = 8 := by kernel_rfl
set_option maxRecDepth 10000 in
theorem reach_node {d : DataW H} {y : Nd} (hw : ∀ n ∈ d.weights Tryd.prog 35, n ≤ 140737488351232) (h : NodeD d y) : y.ks.length ≤ 1000000000000000 ∧ y.x.size ≤ 1000000000000000 := by
  obtain ⟨dk, rfl, hk⟩ := h
  have hx := hw y.x.size (by simp [DataW.weights, DataW.weightsEach, Tryd.underlying35])
  refine ⟨?_, by omega⟩
  rcases hk with ⟨_, e⟩ | ⟨sp, rfl⟩
  · rw [e]; exact Nat.zero_le _
  · have e : (lits (H := H) .i64 y.ks).length = y.ks.length := by simp [lits]
    have := hw (((lits (H := H) .i64 y.ks).length + sp.length) * Tryd.prog.bytesOf 3) (by simp [DataW.weights, DataW.weightsEach, Tryd.underlying35, Tryd.underlying33])
    rw [e, bytesInt] at this
    omega
set_option maxRecDepth 10000 in
theorem reach_nodes {d : DataW H} {L : List Nd} (hw : ∀ n ∈ d.weights Tryd.prog 22, n ≤ 140737488351232) (h : NodesD d L) : ∀ j : Nat, (nd L j).ks.length ≤ 1000000000000000 ∧ (nd L j).x.size ≤ 1000000000000000 := by
  intro j
  have out : L.length ≤ j → (nd L j).ks.length ≤ 1000000000000000 ∧ (nd L j).x.size ≤ 1000000000000000 := fun hj => by
    rw [nd_nat, List.getD_eq_getElem?_getD, List.getElem?_eq_none hj]; exact ⟨Nat.zero_le _, Nat.zero_le _⟩
  rcases h with ⟨rfl, rfl⟩ | ⟨el, sp, rfl, hl, hd⟩
  · exact out (Nat.zero_le _)
  · rcases Nat.lt_or_ge j L.length with hj | hj
    · obtain ⟨dj, e1, e2⟩ := hd j hj
      exact reach_node (fun n hn => hw n (by simp [DataW.weights, Tryd.underlying22, wgt_all el j dj e1 n hn])) e2
    · exact out hj
set_option maxRecDepth 10000 in
theorem reach_tree {d : DataW H} {L : List Nd} (hw : ∀ n ∈ d.weights Tryd.prog 24, n ≤ 140737488351232) (h : TreeD d L) : ∀ j : Nat, (nd L j).ks.length ≤ 1000000000000000 ∧ (nd L j).x.size ≤ 1000000000000000 := by
  obtain ⟨dl, rfl, h2⟩ := h
  exact reach_nodes (fun n hn => hw n (by simp [DataW.weights, DataW.weightsEach, Tryd.underlying24, hn])) h2
end Go.Proofs.YtpkdhciokiomlaaDoor
