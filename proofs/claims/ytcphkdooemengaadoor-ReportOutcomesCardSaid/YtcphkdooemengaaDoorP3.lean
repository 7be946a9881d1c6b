/- The rows of chapter 19's laws: an outcome that came in, opened. -/
import Derived.Test.YtcphkdooemengaaDoorP2
import Derived.Test.YtcphkdooemengaaDoorFive
namespace Go.Proofs.YtcphkdooemengaaDoor
set_option linter.unusedVariables false
set_option linter.unusedSimpArgs false
set_option linter.unnecessarySimpa false
open Go.ChangeShapes Go.WideShapes Go.ChangeAt Go.WideMaps Go.WideElems Go.RowKit Go.Joins
open Go.ChangeMaps (open_string shut_string)
theorem cellsStr : Tryd.prog.cellsOf 9 = 1 := by kernel_rfl
set_option maxRecDepth 10000 in
theorem open_outcome {H : Type} {enc : TypeId × Value → H} {w : World} {v : Value} {d : DataW H} {p : List MemPlace}
    (h : DataW.Trod enc Tryd.prog w 0 (fun _ => true) true 34 v d p) (hv : Value.okWide Tryd.prog w .any 0 34 v) :
    ∃ (k : Int) (th : ByteArray) (L : List ByteArray) (A : Option Addr) (c : Nat) (st ce : Int), v = .agg #[.int .i64 k, .string th, .slice A L.length c, .int .i64 st, .int .i64 ce] ∧ L.length ≤ c ∧ Rd w w.heap.size A L.length (fun j => .string (L.getD j ⟨#[]⟩)) ∧
      (Lit.int .i64 st).wf = true ∧ ((L.length = 0 ∨ ∃ ss : List ByteArray, ∃ y3 y4 : DataW H, d = .agg [.lit (.int .i64 k), .lit (.string th.data.toList), .slice (strs L) (strs ss), y3, y4]) ∧ ∃ y2 y3 y4 : DataW H, d = .agg [.lit (.int .i64 k), .lit (.string th.data.toList), y2, y3, y4]) := by
  obtain ⟨v0, v1, v2, v3, v4, y0, y1, y2, y3, y4, m, rfl, rfl, h0, h1, h2, h3, h4⟩ := open_agg5 Tryd.underlying34 (by kernel_rfl) (by kernel_rfl) hv h
  obtain ⟨k, e0, rfl, w0⟩ := DataW.trod_int Tryd.underlying3 h0
  obtain ⟨th, e1, rfl, w1⟩ := DataW.trod_string Tryd.underlying9 h1
  obtain ⟨st, e3, rfl, w3⟩ := DataW.trod_int Tryd.underlying3 h3
  obtain ⟨ce, e4, rfl, w4⟩ := DataW.trod_int Tryd.underlying3 h4
  simp at e0 e1 e3 e4
  subst e0 e1 e3 e4
  rcases open_strings Tryd.underlying32 Tryd.underlying9 cellsStr h2 with ⟨hcs, hx⟩ | ⟨a, len, cap, ss, hcs, _, hl, hm, hz, hx, hcell, hsz⟩
  · simp at hcs
    subst hcs
    exact ⟨k, th, [], none, 0, st, ce, rfl, Nat.le_refl _, Rd.none_, w3, .inl rfl, _, _, _, rfl⟩
  · simp at hcs
    subst hcs
    have hz' : ss.length = cap := by simpa using hz
    have hL : (ss.take len).length = len := by rw [List.length_take]; omega
    refine ⟨k, th, ss.take len, some a, cap, st, ce, by rw [hL], by rw [hL]; exact hl, ?_, w3, .inr ⟨ss.drop len, _, _, by rw [hx]⟩, _, _, _, rfl⟩
    rw [hL]
    intro j hj
    have hc := hcell j (by omega)
    have hb : a.block < w.heap.size := by have := cell_addr_lt hc; rwa [block_add] at this
    refine ⟨a, rfl, hb, ?_⟩
    rw [hc]
    congr 2
    rw [List.getD_eq_getElem?_getD, List.getD_eq_getElem?_getD, List.getElem?_take, if_pos hj]
    rfl
theorem strs_weights {H : Type} {P : Program} {t : TypeId} : ∀ (L : List ByteArray) (s : ByteArray), s ∈ L → s.size ∈ DataW.weightsAll P t (strs (H := H) L) := by
  intro L
  induction L with
  | nil => intro s h; cases h
  | cons a L ih =>
    intro s h
    simp only [strs, List.map_cons, DataW.weightsAll, List.mem_append]
    rcases List.mem_cons.1 h with rfl | h
    · left; simp [DataW.weights]
    · right; exact ih s h
set_option maxRecDepth 10000 in
theorem reach_outcome {H : Type} {ts : List TypeId} {ds : List (DataW H)} (h : (DataW.weightsEach Tryd.prog ts ds).all (· ≤ reachBytes) = true) {j : Nat} {d : DataW H} {k : Int} {th : ByteArray} {L : List ByteArray}
    (hz : (L.length = 0 ∨ ∃ ss : List ByteArray, ∃ y3 y4 : DataW H, d = .agg [.lit (.int .i64 k), .lit (.string th.data.toList), .slice (strs L) (strs ss), y3, y4]) ∧ ∃ y2 y3 y4 : DataW H, d = .agg [.lit (.int .i64 k), .lit (.string th.data.toList), y2, y3, y4])
    (ht : ts[j]? = some 34) (hd : ds[j]? = some d) : th.size ≤ 140737488351232 ∧ (∀ s ∈ L, s.size ≤ 140737488351232) := by
  refine ⟨?_, fun s hs => ?_⟩
  · obtain ⟨_, y2, y3, y4, rfl⟩ := hz
    have := List.all_eq_true.1 h _ (DataW.weights_mem_each ht hd th.size (by simp [DataW.weights, DataW.weightsEach, Tryd.underlying34]))
    exact of_decide_eq_true this
  · rcases hz.1 with h0 | ⟨ss, y3, y4, rfl⟩
    · rw [List.eq_nil_of_length_eq_zero h0] at hs; cases hs
    · have hm := strs_weights (H := H) (P := Tryd.prog) (t := 9) L s hs
      have := List.all_eq_true.1 h _ (DataW.weights_mem_each ht hd s.size (by simp [DataW.weights, DataW.weightsEach, Tryd.underlying34, Tryd.underlying32, hm]))
      exact of_decide_eq_true this
end Go.Proofs.YtcphkdooemengaaDoor
