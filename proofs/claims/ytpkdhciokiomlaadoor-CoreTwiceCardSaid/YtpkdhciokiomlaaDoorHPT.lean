/- The rows of laws on trees: nodes and trees that came in, opened. -/
import Derived.Test.YtpkdhciokiomlaaDoorRows
import Derived.Test.YtpkdhciokiomlaaDoorHBZ7
import Derived.Test.YtpkdhciokiomlaaDoorHBZ1
import Derived.ProofKit
import Derived.LaidMore
import Derived.OpenShut
import Derived.HandedShaped
import Derived.Shelf.Vars
import Derived.Lib.SmallJoins
import Derived.Deep.Slices
namespace Go.Proofs.YtpkdhciokiomlaaDoor
set_option linter.unusedVariables false
set_option linter.unusedSimpArgs false
set_option linter.unnecessarySimpa false
open Go.ChangeShapes Go.WideShapes Go.ChangeAt Go.WideMaps Go.WideElems Go.RowKit Go.Joins Go.Deep
theorem wf64 {n : Int} (h : (Lit.int .i64 n).wf = true) : -9223372036854775808 ≤ n ∧ n ≤ 9223372036854775807 := by
  simp [Lit.wf, IntKind.min, IntKind.max, IntKind.signed, IntKind.bits] at h; omega
theorem cell_addr_lt {W : World} {p : Addr} {v : Value} (h : W.cell? p = some v) : p.block < W.heap.size := World.block_lt_of_cell? W p h
theorem cellsInt : Tryd.prog.cellsOf 3 = 1 := by kernel_rfl
theorem cellsNode : Tryd.prog.cellsOf 35 = 5 := by kernel_rfl
theorem cellsTree : Tryd.prog.cellsOf 24 = 1 := by kernel_rfl
theorem cellsNodes : Tryd.prog.cellsOf 22 = 1 := by kernel_rfl
variable {H : Type} {enc : TypeId × Value → H} {w : World}
/-- What a node reads as. -/
def NodeD (d : DataW H) (y : Nd) : Prop := ∃ dk, d = .agg [.lit (.int .i64 y.k), .lit (.string y.x.data.toList), .lit (.int .i64 y.m), dk, .lit (.int .i64 y.p)] ∧ ((dk = .nil ∧ y.ks = []) ∨ ∃ sp, dk = .slice (lits .i64 y.ks) sp)
/-- What a row of nodes reads as. -/
def NodesD (d : DataW H) (L : List Nd) : Prop := (d = .nil ∧ L = []) ∨ ∃ el sp, d = .slice el sp ∧ el.length = L.length ∧ ∀ j, j < L.length → ∃ dj, el[j]? = some dj ∧ NodeD dj (nd L j)
theorem open_kids {fuel : Nat} {v : Value} {x : DataW H × List MemPlace} (h : DataW.trod enc Tryd.prog w 0 (fun _ => true) true fuel 33 [v] = some x) :
    ∃ (K : Option Addr) (ks : List Int) (kc : Nat), v = .slice K ks.length kc ∧ Rd w w.heap.size K ks.length (ksV ks) ∧ ks.length ≤ kc ∧ kc ≤ maxLen ∧ (∀ k ∈ ks, -9223372036854775808 ≤ k ∧ k ≤ 9223372036854775807) ∧ ((x.1 = .nil ∧ ks = []) ∨ ∃ sp, x.1 = .slice (lits .i64 ks) sp) := by
  rcases open_ints Tryd.underlying33 Tryd.underlying3 cellsInt h with ⟨hcs, hx⟩ | ⟨a, len, cap, zs, hcs, _, hl, hm, hz, hx, hcell, hwz⟩
  · simp at hcs
    subst hcs
    exact ⟨none, [], 0, rfl, Rd.none_, Nat.le_refl _, Nat.zero_le _, (fun k hk => by cases hk), .inl ⟨by rw [hx], rfl⟩⟩
  · simp at hcs
    subst hcs
    have hz' : zs.length = cap := by simpa using hz
    have hL : (zs.take len).length = len := by rw [List.length_take]; omega
    refine ⟨some a, zs.take len, cap, by rw [hL], ?_, by omega, hm, fun k hk => wf64 (hwz k (List.mem_of_mem_take hk)), .inr ⟨_, by rw [hx]⟩⟩
    rw [hL]
    intro j hj
    have hc := hcell j (by omega)
    have hb : a.block < w.heap.size := by have := cell_addr_lt hc; rwa [block_add] at this
    refine ⟨a, rfl, hb, ?_⟩
    rw [hc]
    unfold ksV
    rw [List.getD_eq_getElem?_getD, List.getD_eq_getElem?_getD, List.getElem?_take, if_pos hj]
set_option maxRecDepth 10000 in
theorem node_of {fuel : Nat} {cs : List Value} {x : DataW H × List MemPlace} (h : DataW.trod enc Tryd.prog w 0 (fun _ => true) true fuel 35 cs = some x) :
    ∃ (y : Nd) (K : Option Addr) (kc : Nat), cs = [.int .i64 y.k, .string y.x, .int .i64 y.m, .slice K y.ks.length kc, .int .i64 y.p] ∧ Rd w w.heap.size K y.ks.length (ksV y.ks) ∧ y.ks.length ≤ kc ∧ kc ≤ maxLen ∧ wideY y ∧ NodeD x.1 y := by
  obtain ⟨v0, v1, v2, v3, v4, y0, y1, y2, y3, y4, m, rfl, hx, h0, h1, h2, h3, h4⟩ := trod_one5 Tryd.underlying35 (by kernel_rfl) cellsNode h
  obtain ⟨k, e0, rfl, w0⟩ := DataW.trod_int Tryd.underlying3 h0
  obtain ⟨s, e1, rfl, w1⟩ := DataW.trod_string Tryd.underlying9 h1
  obtain ⟨n, e2, rfl, w2⟩ := DataW.trod_int Tryd.underlying3 h2
  obtain ⟨p, e4, rfl, w4⟩ := DataW.trod_int Tryd.underlying3 h4
  obtain ⟨K, ks, kc, rfl, hr, k1, k2, k3, k4⟩ := open_kids h3
  simp at e0 e1 e2 e4
  subst e0 e1 e2 e4
  refine ⟨⟨k, s, n, ks, p⟩, K, kc, rfl, hr, k1, k2, ⟨wf64 w2, k3⟩, y3.1, ?_, k4⟩
  rw [hx]
theorem node_at {a : Addr} {y : Nd} {K : Option Addr} {kc : Nat} (hc : ∀ i, i < 5 → w.cell? (a.add i) = ([.int .i64 y.k, .string y.x, .int .i64 y.m, .slice K y.ks.length kc, .int .i64 y.p] : List Value)[i]?) (hr : Rd w w.heap.size K y.ks.length (ksV y.ks)) (h1 : y.ks.length ≤ kc) (h2 : kc ≤ maxLen) (hw : wideY y) : NodeAt w w.heap.size a y := by
  have c0 := hc 0 (by omega)
  have c1 := hc 1 (by omega)
  have c2 := hc 2 (by omega)
  have c3 := hc 3 (by omega)
  have c4 := hc 4 (by omega)
  rw [add_zero] at c0
  refine ⟨cell_addr_lt c0, c0, ?_, ?_, ?_, hw.1, hw.2, K, kc, ?_, hr, h1, h2⟩
  · simpa [Addr.add] using c1
  · simpa [Addr.add] using c2
  · simpa [Addr.add] using c4
  · simpa [Addr.add] using c3
instance : Inhabited Nd := ⟨nd0⟩
set_option maxRecDepth 10000 in
theorem nodes_of {fuel : Nat} {v : Value} {x : DataW H × List MemPlace} (h : DataW.trod enc Tryd.prog w 0 (fun _ => true) true fuel 22 [v] = some x) :
    ∃ (A : Option Addr) (L : List Nd) (c : Nat), v = .slice A L.length c ∧ L.length ≤ c ∧ c ≤ maxLen ∧ TreeAt w w.heap.size A L ∧ NodesD x.1 L := by
  rcases open_slice Tryd.underlying22 h with ⟨hcs, hx⟩ | ⟨a, len, cap, m, n, D, Pl, hcs, _, hl, hm, hmm, hx, hel⟩
  · simp at hcs
    subst hcs
    exact ⟨none, [], 0, rfl, Nat.le_refl _, Nat.zero_le _, (fun j hj => by simp at hj), .inl ⟨by rw [hx], rfl⟩⟩
  · simp at hcs
    subst hcs
    simp at hmm
    subst hmm
    have key : ∀ i, i < len → ∃ y : Nd, NodeAt w w.heap.size (a.add (i * 5)) y ∧ NodeD (D i) y := fun i hi => by
      obtain ⟨cs', h1, h2⟩ := hel i (by omega)
      rw [cellsNode] at h1
      obtain ⟨_, hl5, hc⟩ := World.cells?_some h1
      obtain ⟨y, K, kc, rfl, hr, k1, k2, hw, hd⟩ := node_of h2
      exact ⟨y, node_at hc hr k1 k2 hw, hd⟩
    obtain ⟨f, hf⟩ := choose_lt key
    have hL : ((List.range len).map f).length = len := by simp
    have hnd : ∀ j, j < len → nd ((List.range len).map f) j = f j := fun j hj => by
      have := nd_get (L := (List.range len).map f) (j := j) (by omega)
      rw [List.getElem?_map, List.getElem?_range hj] at this
      simpa using this.symm
    refine ⟨some a, (List.range len).map f, _, by rw [hL], by rw [hL]; exact hl, hm, fun j hj => ?_, .inr ⟨_, _, by rw [hx], by rw [hL]; simp, fun j hj => ?_⟩⟩
    · rw [hL] at hj
      refine ⟨a, rfl, ?_⟩
      rw [hnd j hj]; exact (hf j hj).1
    · rw [hL] at hj
      refine ⟨D j, by simp [hj], ?_⟩
      rw [hnd j hj]; exact (hf j hj).2
theorem list1 {α : Type} {l : List α} (h : l.length = 1) : ∃ a, l = [a] := by match l, h with | [a], _ => exact ⟨a, rfl⟩
/-- What a tree reads as. -/
def TreeD (d : DataW H) (L : List Nd) : Prop := ∃ dl, d = .agg [dl] ∧ NodesD dl L
set_option maxRecDepth 10000 in
theorem tree_of {fuel : Nat} {cs : List Value} {x : DataW H × List MemPlace} (h : DataW.trod enc Tryd.prog w 0 (fun _ => true) true fuel 24 cs = some x) :
    ∃ (A : Option Addr) (L : List Nd) (c : Nat), cs = [.slice A L.length c] ∧ L.length ≤ c ∧ c ≤ maxLen ∧ TreeAt w w.heap.size A L ∧ TreeD x.1 L := by
  obtain ⟨xs, n, _, hx, hl, hlen, hf⟩ := DataW.trod_struct Tryd.underlying24 h
  obtain ⟨v, rfl⟩ := list1 (hl.trans cellsTree)
  obtain ⟨x0, rfl⟩ := list1 hlen
  have h0 := hf 0 _ rfl
  have e : ([v] : List Value).take (Tryd.prog.cellsOf 22) = [v] := by rw [cellsNodes]; rfl
  have h1 : DataW.trod enc Tryd.prog w 0 (fun _ => true) true n 22 [v] = some x0 := by
    rw [← e]; exact h0
  obtain ⟨A, L, c, rfl, k1, k2, k3, k4⟩ := nodes_of h1
  exact ⟨A, L, c, rfl, k1, k2, k3, x0.1, by rw [hx]; rfl, k4⟩
set_option maxRecDepth 10000 in
theorem open_tree {v : Value} {d : DataW H} {p : List MemPlace} (h : DataW.Trod enc Tryd.prog w 0 (fun _ => true) true 24 v d p) (hv : Value.okWide Tryd.prog w .any 0 24 v) :
    ∃ (A : Option Addr) (L : List Nd) (c : Nat), v = .agg #[.slice A L.length c] ∧ L.length ≤ c ∧ c ≤ maxLen ∧ TreeAt w w.heap.size A L ∧ TreeD d L := by
  obtain ⟨cs, rfl, hsz⟩ := okWide_struct Tryd.underlying24 hv
  obtain ⟨fuel, hf⟩ := h
  obtain ⟨A, L, c, e, k1, k2, k3, k4⟩ := tree_of hf
  refine ⟨A, L, c, ?_, k1, k2, k3, k4⟩
  obtain ⟨l⟩ := cs
  simp only [Value.cells] at e
  subst e
  rfl
set_option maxRecDepth 10000 in
theorem open_node {v : Value} {d : DataW H} {p : List MemPlace} (h : DataW.Trod enc Tryd.prog w 0 (fun _ => true) true 35 v d p) (hv : Value.okWide Tryd.prog w .any 0 35 v) :
    ∃ (y : Nd) (K : Option Addr) (kc : Nat), v = .agg #[.int .i64 y.k, .string y.x, .int .i64 y.m, .slice K y.ks.length kc, .int .i64 y.p] ∧ y.ks.length ≤ kc ∧ kc ≤ maxLen ∧ wideY y ∧ NodeD d y := by
  obtain ⟨cs, rfl, hsz⟩ := okWide_struct Tryd.underlying35 hv
  obtain ⟨fuel, hf⟩ := h
  obtain ⟨y, K, kc, e, _, k1, k2, k3, k4⟩ := node_of hf
  refine ⟨y, K, kc, ?_, k1, k2, k3, k4⟩
  obtain ⟨l⟩ := cs
  simp only [Value.cells] at e
  subst e
  rfl
end Go.Proofs.YtpkdhciokiomlaaDoor
