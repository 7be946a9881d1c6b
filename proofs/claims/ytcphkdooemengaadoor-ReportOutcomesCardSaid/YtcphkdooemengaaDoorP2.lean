/- The rows of chapter 19's laws: an output that came in, opened. -/
import Derived.Test.YtcphkdooemengaaDoorP
namespace Go.Proofs.YtcphkdooemengaaDoor
set_option linter.unusedVariables false
set_option linter.unusedSimpArgs false
set_option linter.unnecessarySimpa false
open Go.ChangeShapes Go.WideShapes Go.ChangeAt Go.WideMaps Go.WideElems Go.RowKit Go.Joins
open Go.ChangeMaps (open_string shut_string)
set_option maxRecDepth 10000 in
theorem open_out {H : Type} {enc : TypeId × Value → H} {w : World} {base : Nat} {spare : Nat → Bool} {held : Bool} {r : Reach} {b0 : Nat} {v : Value} {d : DataW H} {p : List MemPlace}
    (hv : Value.okWide Tryd.prog w r b0 25 v) (h : DataW.Trod enc Tryd.prog w base spare held 25 v d p) :
    ∃ (k n : Int) (s : ByteArray), v = .agg #[.int .i64 k, .int .i64 n, .string s] ∧ d = .agg [.lit (.int .i64 k), .lit (.int .i64 n), .lit (.string s.data.toList)] := by
  obtain ⟨v0, v1, v2, y0, y1, y2, m, rfl, rfl, rfl, h0, h1, h2⟩ := open_agg3 Tryd.underlying25 (by kernel_rfl) (by kernel_rfl) hv h
  obtain ⟨k, e0, rfl, w0⟩ := DataW.trod_int Tryd.underlying23 h0
  obtain ⟨n, e1, rfl, w1⟩ := DataW.trod_int Tryd.underlying3 h1
  obtain ⟨s, e2, rfl, w2⟩ := DataW.trod_string Tryd.underlying9 h2
  simp at e0 e1 e2
  subst e0 e1 e2
  exact ⟨k, n, s, rfl, rfl⟩
set_option maxRecDepth 10000 in
theorem reach_out {H : Type} {ts : List TypeId} {ds : List (DataW H)} (h : (DataW.weightsEach Tryd.prog ts ds).all (· ≤ reachBytes) = true) {j : Nat} {d : DataW H} {k n : Int} {s : ByteArray} (hz : d = .agg [.lit (.int .i64 k), .lit (.int .i64 n), .lit (.string s.data.toList)]) (ht : ts[j]? = some 25)
    (hd : ds[j]? = some d) : s.size ≤ 140737488351232 := by
  subst hz
  have := List.all_eq_true.1 h _ (DataW.weights_mem_each ht hd s.size (by simp [DataW.weights, DataW.weightsEach, Tryd.underlying25]))
  exact of_decide_eq_true this
end Go.Proofs.YtcphkdooemengaaDoor
