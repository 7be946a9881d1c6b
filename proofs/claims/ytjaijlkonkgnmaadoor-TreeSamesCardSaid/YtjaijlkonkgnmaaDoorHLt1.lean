/- Plain: the places of a lent tree's nodes are written over. No text of the program in sight. -/
import Derived.Test.YtjaijlkonkgnmaaDoorHLt0
import Derived.Test.YtjaijlkonkgnmaaDoorHBY
namespace Go.Proofs.YtjaijlkonkgnmaaDoor
set_option linter.unusedVariables false
set_option linter.unusedSimpArgs false
set_option linter.unnecessarySimpa false
open Go.RowKit
theorem ndsC_set4 : ∀ (l : List NdV) (j : Nat) (y : Nd) (s : Value) (z : Int), l[j]? = some (y, s) → (ndsC l).set (j * 5 + 4) (.int .i64 z) = ndsC (l.set j (⟨y.k, y.x, y.m, y.ks, z⟩, s))
  | [], j, y, s, z, h => by simp at h
  | q :: l, 0, y, s, z, h => by
    simp at h; subst h
    simp [ndsC, ndC]
  | q :: l, j + 1, y, s, z, h => by
    simp at h
    show (ndC q ++ ndsC l).set ((j + 1) * 5 + 4) (.int .i64 z) = ndC q ++ ndsC (l.set j (⟨y.k, y.x, y.m, y.ks, z⟩, s))
    rw [← ndsC_set4 l j y s z h, List.set_append, if_neg (by simp [ndC]; omega)]
    congr 2
    simp [ndC]; omega
section
variable {W : World} {base : Nat} {l : List NdV}
theorem LentT.put_at {g n c q : Nat} {y : Nd} {s : Value} (h : LentT W base (.slice (some ⟨g, 0, none⟩) n c) l) (hq : l[q]? = some (y, s)) (z : Int) :
    LentT (W.setCell ⟨g, q * 5 + 4, none⟩ (.int .i64 z)) base (.slice (some ⟨g, 0, none⟩) n c) (l.set q (⟨y.k, y.x, y.m, y.ks, z⟩, s)) := by
  obtain ⟨A, c', e, ho⟩ := h.row
  injection e with e1 e2 e3
  subst e1 e2 e3
  have hql : q < l.length := (List.getElem?_eq_some_iff.1 hq).1
  have hpl : (y, s) ∈ l := List.mem_of_getElem? hq
  have hset : ∀ {u : Value} {m2 : Nat} {zs : List Value}, W.ownsRow base 3 1 u m2 zs → (W.setCell ⟨g, q * 5 + 4, none⟩ (.int .i64 z)).ownsRow base 3 1 u m2 zs := fun h => ownsRow_setCell_other h (fun e => own_two ho h ne_ND g e (by simp [Value.ownBlock])) _
  have hs := (ho.stored (q * 5 + 4) (.int .i64 z)).1
  rw [ndsC_set4 (l ++ [markN]) q y s z (by rw [List.getElem?_append_left hql]; exact hq), List.set_append, if_pos hql] at hs
  refine ⟨⟨_, c, by rw [List.length_set], by rw [List.length_set]; exact hs⟩, fun p hp => ?_, fun p hp => ?_⟩
  · rcases List.mem_or_eq_of_mem_set hp with hp | rfl
    · obtain ⟨K, kc, e, h⟩ := h.kids p hp
      exact ⟨K, kc, e, hset h⟩
    · obtain ⟨K, kc, e, h⟩ := h.kids _ hpl
      exact ⟨K, kc, e, hset h⟩
  · rcases List.mem_or_eq_of_mem_set hp with hp | rfl
    · exact h.wide p hp
    · exact h.wide (y, s) hpl
end
/-- Where a node stands in the text is left out. -/
def bare (y : Nd) : Nd := ⟨y.k, y.x, y.m, y.ks, 0⟩
theorem bare_set {l : List NdV} {L : List Nd} {q : Nat} {y : Nd} {s : Value} {z : Int} (h : (l.map (·.1)).map bare = L.map bare) (hq : l[q]? = some (y, s)) : ((l.set q (⟨y.k, y.x, y.m, y.ks, z⟩, s)).map (·.1)).map bare = L.map bare := by
  rw [← h]
  apply List.ext_getElem?
  intro i
  simp only [List.getElem?_map, List.getElem?_set]
  by_cases e : q = i
  · subst e
    rw [if_pos rfl, if_pos (List.getElem?_eq_some_iff.1 hq).1, hq]
    rfl
  · rw [if_neg e]
theorem bare_nd {L M : List Nd} (h : L.map bare = M.map bare) (i : Nat) (hi : i < L.length) : bare (nd L i) = bare (nd M i) := by
  have hl : L.length = M.length := by simpa using congrArg List.length h
  have h1 := congrArg (·[i]?) h
  simp only [List.getElem?_map, nd_get hi, nd_get (show i < M.length by omega), Option.map_some] at h1
  injection h1
theorem bare_same {L M : List Nd} (h : L.map bare = M.map bare) : sameB L M = true := by
  rw [sameB_iff]
  refine ⟨by simpa using congrArg List.length h, fun i hi => ?_⟩
  have := bare_nd h i hi
  unfold bare at this
  injection this with e1 e2 e3 e4
  rw [sameN_iff]
  exact ⟨e1, e2, e3, e4⟩
end Go.Proofs.YtjaijlkonkgnmaaDoor
