/- The frame of chapter 2's rows (no card): the call returns true and nothing that was there has turned: then each argument reads as it read. Arguments opened: bytes, numbers. -/
import Derived.Test.YtdlppdoankeilaaRows
import Derived.Test.YtdlppdoankeilaaLexW1
import Derived.Test.YtdlppdoankeilaaRd
import Derived.ProofKit
import Derived.LaidMore
import Derived.OpenShut
import Derived.HandedShaped
import Derived.Shelf.Vars
import Derived.Lib.SmallJoins
import Derived.Deep.Slices
namespace Go.Proofs.Ytdlppdoankeilaa
set_option linter.unusedVariables false
set_option linter.unusedSimpArgs false
set_option linter.unnecessarySimpa false
open Go.ChangeShapes Go.WideShapes Go.ChangeAt Go.WideMaps Go.WideElems Go.RowKit Go.Joins Go.Deep

theorem own : ownKnob Try.prog.godebug = none := by kernel_rfl
theorem laidOut : laidOutB Try.prog = true := by kernel_rfl

section
variable {H : Type} {enc : TypeId × Value → H} {P : Program}
theorem trodAll_later (hl : laidOutB P = true) {W W' : World} (hb : Below W.heap.size W W') : ∀ {ts : List TypeId} {vs : List Value} {ds : List (DataW H)} {ps : List MemPlace},
    (∀ t ∈ ts, P.readableRec t = true ∧ t < P.types.size) → DataW.TrodAll enc P W 0 (fun _ => true) true ts vs ds ps → (∀ x ∈ ps, x.block < W.heap.size) →
    DataW.TrodAll enc P W' 0 (fun b => decide (b < W.heap.size)) true ts vs ds ps
  | [], vs, ds, ps, _, h, _ => by
    obtain ⟨rfl, rfl, rfl⟩ := trodAll_nil h
    exact trodAll_mk0
  | t :: ts, vs, ds, ps, hr, h, hlt => by
    obtain ⟨v, vs', d, ds', p, q, rfl, rfl, rfl, hd, hq⟩ := trodAll_cons h
    have hr0 := hr t (by simp)
    exact trodAll_cons_mk (Below.trod hl hr0.1 hr0.2 hd hb (fun x hx => hlt x (by simp [hx]))) (trodAll_later hl hb (fun t ht => hr t (by simp [ht])) hq (fun x hx => hlt x (by simp [hx])))

/-- The post of a law: it returned true, and what was there stands. -/
theorem law_post {f : Func} {s : ChangeSpec} (hl : laidOutB P = true) (hr : ∀ t ∈ f.params.toList, P.readableRec t = true ∧ t < P.types.size) (hv : s.vars = []) {tb : TypeId} (hrt : f.resultTypes = #[tb]) (htb : P.underlying tb = some .bool)
    {W W' : World} {args : Array Value} {ds gs : List (DataW H)} {before : List MemPlace} (hW : DataW.Whole enc P f.params.toList s.vars false W args.toList ds gs before)
    (h1 : (s.fn H (ds ++ [])).results = [.lit (.bool true)]) (h2 : (s.fn H (ds ++ [])).args = ds) (h3 : (s.fn H (ds ++ [])).vars = []) (hb : Below W.heap.size W W') :
    s.post enc P f false true false false W args (.bool true) W' := by
  have hlt : ∀ p ∈ before, p.block < W.heap.size := fun p hp => hW.lt p hp
  have hW0 := hW
  obtain ⟨p, q, hA, hV, rfl, hz, hn⟩ := hW
  rw [hv] at hV
  obtain ⟨rfl, rfl⟩ := trodVars_none hV
  refine ⟨ds, [], p ++ [], [], p, [], hW0, ?_, ?_, ?_, ?_, fun h => by cases h⟩
  · rw [h1, hrt]
    exact trodAll_mk1 (shut_bool htb true)
  · rw [h2]
    exact trodAll_later hl hb hr hA (fun x hx => hlt x (by simp [hx]))
  · rw [h3, hv]
    rfl
  · exact World.keptBut_mono (fun p hp => ⟨hp, by simpa using hp⟩) (hb.frame (· ∈ p ++ []))
end

theorem cell_addr_lt {W : World} {p : Addr} {v : Value} (h : W.cell? p = some v) : p.block < W.heap.size := by
  rcases Nat.lt_or_ge p.block W.heap.size with hl | hg
  · exact hl
  · simp [World.cell?, Array.getElem?_eq_none hg] at h
theorem cellsU8 : Try.prog.cellsOf 5 = 1 := by kernel_rfl
theorem open_bytes {H : Type} {enc : TypeId × Value → H} {w : World} {v : Value} {d : DataW H} {p : List MemPlace} (h : DataW.Trod enc Try.prog w 0 (fun _ => true) true 22 v d p)
    (hval : Value.okWide Try.prog w .any 0 22 v) :
    ∃ (A : Option Addr) (s : ByteArray) (c : Nat), v = .slice A s.size c ∧ s.size ≤ c ∧ Rd w w.heap.size A s.size (byteC s) ∧ (s.size = 0 ∨ ∃ el sp, d = .slice el sp ∧ el.length = s.size) := by
  obtain ⟨a1, len, cap, rfl⟩ := okWide_slice Try.underlying22 hval
  obtain ⟨fuel, hf⟩ := h
  rcases open_ints Try.underlying22 Try.underlying5 cellsU8 hf with ⟨hcs, hx⟩ | ⟨a, len', cap', zs, hcs, _, hl, hm, hz, hx, hcell, hwz⟩
  · simp [Value.cells] at hcs
    obtain ⟨rfl, rfl, rfl⟩ := hcs
    exact ⟨none, ⟨#[]⟩, 0, rfl, Nat.le_refl _, Rd.none_, .inl rfl⟩
  · simp [Value.cells] at hcs
    obtain ⟨rfl, rfl, rfl⟩ := hcs
    have hz' : zs.length = cap := by simpa using hz
    obtain ⟨s, hs⟩ : ∃ s : ByteArray, s = ⟨((zs.take len).map fun z => UInt8.ofNat z.toNat).toArray⟩ := ⟨_, rfl⟩
    have hsz : s.size = len := by subst hs; simp [ByteArray.size]; omega
    simp only [Prod.mk.injEq] at hx
    refine ⟨some a, s, cap, by rw [hsz], by omega, ?_, .inr ⟨_, _, hx.1, by simp [lits, hsz]; omega⟩⟩
    rw [hsz]
    intro j hj
    have hc := hcell j (by omega)
    have hb : a.block < w.heap.size := by have := cell_addr_lt hc; rwa [block_add] at this
    refine ⟨a, rfl, hb, ?_⟩
    rw [hc]
    have hj2 : j < zs.length := by omega
    have e : zs.getD j 0 = zs[j] := by simp [List.getD, hj2]
    have hw := hwz zs[j] (List.getElem_mem _)
    simp [Lit.wf, IntKind.min, IntKind.max, IntKind.signed, IntKind.bits] at hw
    unfold byteC
    rw [data_at (show j < s.size by omega), e]
    have h1 : (UInt8.ofNat zs[j].toNat).toNat = zs[j].toNat := by rw [UInt8.toNat_ofNat']; omega
    have h2 : s.data.toList[j]'(by simpa using show j < s.size by omega) = UInt8.ofNat zs[j].toNat := by simp [hs]
    rw [h2, h1]
    congr 2
    omega
theorem reach_bytes {H : Type} {ts : List TypeId} {ds : List (DataW H)} {d : DataW H} {s : ByteArray} (hz : s.size = 0 ∨ ∃ el sp, d = .slice el sp ∧ el.length = s.size) (h : (DataW.weightsEach Try.prog ts ds).all (· ≤ reachBytes) = true) {j : Nat} (ht : ts[j]? = some 22)
    (hd : ds[j]? = some d) : s.size ≤ 140737488351232 := by
  rcases hz with h0 | ⟨el, sp, rfl, hl⟩
  · omega
  · have := sized_slice h ht hd Try.underlying22
    have hb : Try.prog.bytesOf 5 = 1 := by kernel_rfl
    have hr : reachBytes = 140737488351232 := rfl
    rw [hb] at this
    omega
theorem wf64 {n : Int} (h : (Lit.int .i64 n).wf = true) : -9223372036854775808 ≤ n ∧ n ≤ 9223372036854775807 := by
  simp [Lit.wf, IntKind.min, IntKind.max, IntKind.signed, IntKind.bits] at h; omega
theorem mx_of_shape {W : World} (h : W.ShapedOpen Try.prog) : Mx W :=
  cell_of_shapedOpen_int (zero := #[.int .i64 0]) (t := 3) h (of_decide_eq_true (by kernel_rfl)) (by kernel_rfl) rfl (by kernel_rfl) (by kernel_rfl) Try.underlying3
theorem open_tok {H : Type} {enc : TypeId × Value → H} {w : World} {base : Nat} {spare : Nat → Bool} {held : Bool} {r : Reach} {b0 : Nat} {v : Value} {d : DataW H} {p : List MemPlace}
    (hv : Value.okWide Try.prog w r b0 33 v) (h : DataW.Trod enc Try.prog w base spare held 33 v d p) :
    ∃ (k a e : Int) (x : ByteArray), v = .agg #[.int .i64 k, .string x, .int .i64 a, .int .i64 e] ∧ x.size ≤ maxLen := by
  obtain ⟨v0, v1, v2, v3, y0, y1, y2, y3, m, rfl, rfl, rfl, h0, h1, h2, h3⟩ := open_agg4 Try.underlying33 (by kernel_rfl) (by kernel_rfl) hv h
  obtain ⟨k, e0, rfl, w0⟩ := DataW.trod_int Try.underlying3 h0
  obtain ⟨x, e1, rfl, w1⟩ := DataW.trod_string Try.underlying9 h1
  obtain ⟨a, e2, rfl, w2⟩ := DataW.trod_int Try.underlying3 h2
  obtain ⟨e, e3, rfl, w3⟩ := DataW.trod_int Try.underlying3 h3
  simp at e0 e1 e2 e3
  subst e0 e1 e2 e3
  exact ⟨k, a, e, x, rfl, w1⟩
/-- A token at a place, its cells as a function. -/
structure TokI where
  k : Int
  x : ByteArray
  a : Int
  e : Int
deriving Inhabited
def TokI.at (t : TokI) : Nat → Value
  | 0 => .int .i64 t.k
  | 1 => .string t.x
  | 2 => .int .i64 t.a
  | _ => .int .i64 t.e
def toksAt (f : Nat → TokI) (m : Nat) : Value := (f (m / 4)).at (m % 4)
theorem cellsTok : Try.prog.cellsOf 33 = 4 := by kernel_rfl
theorem four_at {k a e : Int} {x : ByteArray} (j : Nat) (hj : j < 4) : ([.int .i64 k, .string x, .int .i64 a, .int .i64 e] : List Value)[j]? = some ((⟨k, x, a, e⟩ : TokI).at j) := by
  rcases (show j = 0 ∨ j = 1 ∨ j = 2 ∨ j = 3 by omega) with rfl | rfl | rfl | rfl
  all_goals rfl
theorem list4 {α : Type} {l : List α} (h : l.length = 4) : ∃ c0 c1 c2 c3, l = [c0, c1, c2, c3] := by
  match l, h with
  | [c0, c1, c2, c3], _ => exact ⟨c0, c1, c2, c3, rfl⟩
theorem trod_one4 {H : Type} {enc : TypeId × Value → H} {P : Program} {w : World} {base : Nat} {spare : Nat → Bool} {held : Bool} {t : TypeId} {f0 f1 f2 f3 : Field} {fuel : Nat} {cs : List Value} {x : DataW H × List MemPlace}
    (hs : P.underlying t = some (.struct #[f0, f1, f2, f3])) (hone : oneCellFields P #[f0, f1, f2, f3] = true) (hC : P.cellsOf t = 4) (h : DataW.trod enc P w base spare held fuel t cs = some x) :
    ∃ (v0 v1 v2 v3 : Value) (y0 y1 y2 y3 : DataW H × List MemPlace) (n : Nat), cs = [v0, v1, v2, v3] ∧
      DataW.trod enc P w base spare held n f0.type [v0] = some y0 ∧ DataW.trod enc P w base spare held n f1.type [v1] = some y1 ∧ DataW.trod enc P w base spare held n f2.type [v2] = some y2 ∧ DataW.trod enc P w base spare held n f3.type [v3] = some y3 := by
  obtain ⟨y0, y1, y2, y3, n, _, hlen, h0, h1, h2, h3⟩ := trod_struct4 hs h
  obtain ⟨c0, c1, c2, c3, rfl⟩ := list4 (hlen.trans hC)
  obtain ⟨o0, k0⟩ := hone_of hone 0 f0 rfl
  obtain ⟨o1, k1⟩ := hone_of hone 1 f1 rfl
  obtain ⟨o2, k2⟩ := hone_of hone 2 f2 rfl
  obtain ⟨o3, k3⟩ := hone_of hone 3 f3 rfl
  exact ⟨c0, c1, c2, c3, y0, y1, y2, y3, n, rfl, by simpa [o0, k0] using h0, by simpa [o1, k1] using h1, by simpa [o2, k2] using h2, by simpa [o3, k3] using h3⟩
theorem open_toks {H : Type} {enc : TypeId × Value → H} {w : World} {v : Value} {d : DataW H} {p : List MemPlace} (h : DataW.Trod enc Try.prog w 0 (fun _ => true) true 24 v d p)
    (hval : Value.okWide Try.prog w .any 0 24 v) :
    ∃ (A : Option Addr) (n c : Nat) (f : Nat → TokI), v = .slice A n c ∧ n ≤ c ∧ c ≤ maxLen ∧ Rd w w.heap.size A (n * 4) (toksAt f) := by
  obtain ⟨a1, len, cap, rfl⟩ := okWide_slice Try.underlying24 hval
  obtain ⟨fuel, hf⟩ := h
  rcases open_slice Try.underlying24 hf with ⟨hcs, hx⟩ | ⟨a, len', cap', m, n, D, Pl, hcs, _, hl, hm, hmm, hx, hel⟩
  · simp [Value.cells] at hcs
    obtain ⟨rfl, rfl, rfl⟩ := hcs
    exact ⟨none, 0, 0, fun _ => ⟨0, ⟨#[]⟩, 0, 0⟩, rfl, Nat.le_refl _, by decide, fun j hj => by omega⟩
  · simp [Value.cells] at hcs
    obtain ⟨rfl, rfl, rfl⟩ := hcs
    simp at hmm
    subst hmm
    have key : ∀ i, i < m → ∃ t : TokI, ∀ j, j < 4 → w.cell? (a.add (i * 4 + j)) = some (t.at j) := fun i hi => by
      obtain ⟨cs', h1, h2⟩ := hel i hi
      rw [cellsTok] at h1
      obtain ⟨c0, c1, c2, c3, y0, y1, y2, y3, n', rfl, h0, h3, h4, h5⟩ := trod_one4 Try.underlying33 (by kernel_rfl) (by kernel_rfl) h2
      obtain ⟨_, hl4, hc⟩ := World.cells?_some h1
      obtain ⟨k, e0, rfl, w0⟩ := DataW.trod_int Try.underlying3 h0
      obtain ⟨x, e1, rfl, w1⟩ := DataW.trod_string Try.underlying9 h3
      obtain ⟨b, e2, rfl, w2⟩ := DataW.trod_int Try.underlying3 h4
      obtain ⟨e, e3, rfl, w3⟩ := DataW.trod_int Try.underlying3 h5
      refine ⟨⟨k, x, b, e⟩, fun j hj => ?_⟩
      have hadd : a.add (i * 4 + j) = (a.add (i * 4)).add j := by
        unfold Addr.add
        by_cases q1 : j = 0
        · simp [q1]
        · by_cases q2 : i = 0
          · simp [q1, q2]
          · have q3 : i * 4 ≠ 0 := by omega
            simp [q1, q2, q3, Nat.add_assoc]
      rw [hadd, hc j hj]
      simp at e0 e1 e2 e3
      subst e0 e1 e2 e3
      exact four_at (k := k) (x := x) (a := b) (e := e) j hj
    obtain ⟨f, hf⟩ := choose_lt key
    refine ⟨some a, len, m, f, rfl, hl, hm, fun j hj => ?_⟩
    have hc := hf (j / 4) (by omega) (j % 4) (by omega)
    rw [show j / 4 * 4 + j % 4 = j by omega] at hc
    refine ⟨a, rfl, ?_, hc⟩
    have := cell_addr_lt hc
    rwa [block_add] at this
end Go.Proofs.Ytdlppdoankeilaa
