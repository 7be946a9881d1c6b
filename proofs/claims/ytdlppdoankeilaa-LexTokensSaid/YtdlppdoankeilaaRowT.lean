/- Chapter 2's rows: tokens that came in, opened. -/
import Derived.Test.YtdlppdoankeilaaRowS
import Derived.Test.YtdlppdoankeilaaRd
namespace Go.Proofs.Ytdlppdoankeilaa
set_option linter.unusedVariables false
set_option linter.unusedSimpArgs false
set_option linter.unnecessarySimpa false
open Go.ChangeShapes Go.WideShapes Go.ChangeAt Go.WideMaps Go.WideElems Go.RowKit Go.Joins Go.Deep
theorem open_tok {H : Type} {enc : TypeId × Value → H} {w : World} {base : Nat} {spare : Nat → Bool} {held : Bool} {r : Reach} {b0 : Nat} {v : Value} {d : DataW H} {p : List MemPlace}
    (hv : Value.okWide Try.prog w r b0 33 v) (h : DataW.Trod enc Try.prog w base spare held 33 v d p) :
    ∃ (k a e : Int) (x : ByteArray), v = .agg #[.int .i64 k, .string x, .int .i64 a, .int .i64 e] ∧ x.size ≤ maxLen := by
  obtain ⟨v0, v1, v2, v3, y0, y1, y2, y3, m, rfl, rfl, rfl, h0, h1, h2, h3⟩ := open_agg4 Try.underlying33 (by kernel_rfl) (by kernel_rfl) hv h
  obtain ⟨k, e0, rfl, w0⟩ := DataW.trod_int Try.underlying3 h0
  obtain ⟨x, e1, rfl, w1⟩ := DataW.trod_string Try.underlying9 h1
  obtain ⟨a, e2, rfl, w2⟩ := DataW.trod_int Try.underlying3 h2
  obtain ⟨e, e3, rfl, w3⟩ := DataW.trod_int Try.underlying3 h3
  simp at e0 e1 e2 e3
  subst e0 e1 e2 e3
  exact ⟨k, a, e, x, rfl, w1⟩
/-- A token at a place, its cells as a function. -/
structure TokI where
  k : Int
  x : ByteArray
  a : Int
  e : Int
deriving Inhabited
def TokI.at (t : TokI) : Nat → Value
  | 0 => .int .i64 t.k
  | 1 => .string t.x
  | 2 => .int .i64 t.a
  | _ => .int .i64 t.e
def toksAt (f : Nat → TokI) (m : Nat) : Value := (f (m / 4)).at (m % 4)
theorem cellsTok : Try.prog.cellsOf 33 = 4 := by kernel_rfl
theorem four_at {k a e : Int} {x : ByteArray} (j : Nat) (hj : j < 4) : ([.int .i64 k, .string x, .int .i64 a, .int .i64 e] : List Value)[j]? = some ((⟨k, x, a, e⟩ : TokI).at j) := by
  rcases (show j = 0 ∨ j = 1 ∨ j = 2 ∨ j = 3 by omega) with rfl | rfl | rfl | rfl
  all_goals rfl
theorem list4 {α : Type} {l : List α} (h : l.length = 4) : ∃ c0 c1 c2 c3, l = [c0, c1, c2, c3] := by
  match l, h with
  | [c0, c1, c2, c3], _ => exact ⟨c0, c1, c2, c3, rfl⟩
theorem trod_one4 {H : Type} {enc : TypeId × Value → H} {P : Program} {w : World} {base : Nat} {spare : Nat → Bool} {held : Bool} {t : TypeId} {f0 f1 f2 f3 : Field} {fuel : Nat} {cs : List Value} {x : DataW H × List MemPlace}
    (hs : P.underlying t = some (.struct #[f0, f1, f2, f3])) (hone : oneCellFields P #[f0, f1, f2, f3] = true) (hC : P.cellsOf t = 4) (h : DataW.trod enc P w base spare held fuel t cs = some x) :
    ∃ (v0 v1 v2 v3 : Value) (y0 y1 y2 y3 : DataW H × List MemPlace) (n : Nat), cs = [v0, v1, v2, v3] ∧
      DataW.trod enc P w base spare held n f0.type [v0] = some y0 ∧ DataW.trod enc P w base spare held n f1.type [v1] = some y1 ∧ DataW.trod enc P w base spare held n f2.type [v2] = some y2 ∧ DataW.trod enc P w base spare held n f3.type [v3] = some y3 := by
  obtain ⟨y0, y1, y2, y3, n, _, hlen, h0, h1, h2, h3⟩ := trod_struct4 hs h
  obtain ⟨c0, c1, c2, c3, rfl⟩ := list4 (hlen.trans hC)
  obtain ⟨o0, k0⟩ := hone_of hone 0 f0 rfl
  obtain ⟨o1, k1⟩ := hone_of hone 1 f1 rfl
  obtain ⟨o2, k2⟩ := hone_of hone 2 f2 rfl
  obtain ⟨o3, k3⟩ := hone_of hone 3 f3 rfl
  exact ⟨c0, c1, c2, c3, y0, y1, y2, y3, n, rfl, by simpa [o0, k0] using h0, by simpa [o1, k1] using h1, by simpa [o2, k2] using h2, by simpa [o3, k3] using h3⟩
theorem open_toks {H : Type} {enc : TypeId × Value → H} {w : World} {v : Value} {d : DataW H} {p : List MemPlace} (h : DataW.Trod enc Try.prog w 0 (fun _ => true) true 24 v d p)
    (hval : Value.okWide Try.prog w .any 0 24 v) :
    ∃ (A : Option Addr) (n c : Nat) (f : Nat → TokI), v = .slice A n c ∧ n ≤ c ∧ c ≤ maxLen ∧ Rd w w.heap.size A (n * 4) (toksAt f) := by
  obtain ⟨a1, len, cap, rfl⟩ := okWide_slice Try.underlying24 hval
  obtain ⟨fuel, hf⟩ := h
  rcases open_slice Try.underlying24 hf with ⟨hcs, hx⟩ | ⟨a, len', cap', m, n, D, Pl, hcs, _, hl, hm, hmm, hx, hel⟩
  · simp [Value.cells] at hcs
    obtain ⟨rfl, rfl, rfl⟩ := hcs
    exact ⟨none, 0, 0, fun _ => ⟨0, ⟨#[]⟩, 0, 0⟩, rfl, Nat.le_refl _, by decide, fun j hj => by omega⟩
  · simp [Value.cells] at hcs
    obtain ⟨rfl, rfl, rfl⟩ := hcs
    simp at hmm
    subst hmm
    have key : ∀ i, i < m → ∃ t : TokI, ∀ j, j < 4 → w.cell? (a.add (i * 4 + j)) = some (t.at j) := fun i hi => by
      obtain ⟨cs', h1, h2⟩ := hel i hi
      rw [cellsTok] at h1
      obtain ⟨c0, c1, c2, c3, y0, y1, y2, y3, n', rfl, h0, h3, h4, h5⟩ := trod_one4 Try.underlying33 (by kernel_rfl) (by kernel_rfl) h2
      obtain ⟨_, hl4, hc⟩ := World.cells?_some h1
      obtain ⟨k, e0, rfl, w0⟩ := DataW.trod_int Try.underlying3 h0
      obtain ⟨x, e1, rfl, w1⟩ := DataW.trod_string Try.underlying9 h3
      obtain ⟨b, e2, rfl, w2⟩ := DataW.trod_int Try.underlying3 h4
      obtain ⟨e, e3, rfl, w3⟩ := DataW.trod_int Try.underlying3 h5
      refine ⟨⟨k, x, b, e⟩, fun j hj => ?_⟩
      have hadd : a.add (i * 4 + j) = (a.add (i * 4)).add j := by
        unfold Addr.add
        by_cases q1 : j = 0
        · simp [q1]
        · by_cases q2 : i = 0
          · simp [q1, q2]
          · have q3 : i * 4 ≠ 0 := by omega
            simp [q1, q2, q3, Nat.add_assoc]
      rw [hadd, hc j hj]
      simp at e0 e1 e2 e3
      subst e0 e1 e2 e3
      exact four_at (k := k) (x := x) (a := b) (e := e) j hj
    obtain ⟨f, hf⟩ := choose_lt key
    refine ⟨some a, len, m, f, rfl, hl, hm, fun j hj => ?_⟩
    have hc := hf (j / 4) (by omega) (j % 4) (by omega)
    rw [show j / 4 * 4 + j % 4 = j by omega] at hc
    refine ⟨a, rfl, ?_, hc⟩
    have := cell_addr_lt hc
    rwa [block_add] at this
end Go.Proofs.Ytdlppdoankeilaa
