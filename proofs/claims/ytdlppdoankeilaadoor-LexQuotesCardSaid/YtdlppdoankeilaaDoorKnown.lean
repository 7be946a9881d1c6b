/- The walk of chapter 2's laws' known(): the tokens of one text. -/
import Derived.Test.YtdlppdoankeilaaDoorTokens2
import Derived.Test.YtdlppdoankeilaaDoorKnownP
import Derived.Lib.SlBytesConst
namespace Go.Proofs.YtdlppdoankeilaaDoor
set_option linter.unusedVariables false
set_option linter.unusedSimpArgs false
set_option linter.unnecessarySimpa false
open Go.RowKit
attribute [local go_sem] cell_alloc_add cell_set_add lt_more
theorem tokR_short {s : ByteArray} (h : s.size ≤ 8191) : tokR s = match (toks s 0 []).2 with | some j => ((toks s 0 []).1, j, 3) | none => ((toks s 0 []).1, 0, 0) := by
  have := toks_len s _ 0 [] (Nat.le_refl _) (Nat.zero_le _)
  unfold tokR
  rw [if_pos (by omega)]
  unfold capT
  rw [List.getElem?_eq_none (by omega)]
  cases (toks s 0 []).2 <;> rfl
theorem tokR_ok {s : ByteArray} (h : s.size ≤ 8191) {l : List Tok} (ht : toks s 0 [] = (l, none)) : tokR s = (l, 0, 0) := by
  rw [tokR_short h, ht]
theorem tokR_inv {s : ByteArray} (h : s.size ≤ 8191) (h0 : (tokR s).2.2 = 0) : toks s 0 [] = (tokL s, none) ∧ (tokR s).2.1 = 0 := by
  have e := tokR_short h
  have h1 : tokL s = (tokR s).1 := if_pos h0
  cases hq : (toks s 0 []).2 with
  | some j => rw [hq] at e; rw [e] at h0; cases h0
  | none =>
    rw [hq] at e
    rw [h1, e]
    exact ⟨Prod.ext rfl hq, rfl⟩
theorem toksC_at : ∀ (l : List Tok) (i : Nat) (t : Tok) (j : Nat), l[i]? = some t → j < 4 → (toksC l)[i * 4 + j]? = (tokC t)[j]?
  | [], i, t, j, h, _ => by simp at h
  | x :: l, 0, t, j, h, hj => by
    simp at h; subst h
    show (tokC x ++ toksC l)[0 * 4 + j]? = _
    rw [List.getElem?_append_left (by simp [tokC]; omega)]; simp
  | x :: l, i + 1, t, j, h, hj => by
    show (tokC x ++ toksC l)[(i + 1) * 4 + j]? = _
    rw [List.getElem?_append_right (by simp [tokC]; omega), ← toksC_at l i t j (by simpa using h) hj]
    simp [tokC]; congr 1; omega
theorem own_toks {W : World} {base : Nat} {l : List Tok} {v : Value} (h : W.ownsRow base 29 4 v l.length (toksC l)) :
    ∃ A c, v = .slice A l.length c ∧ l.length ≤ c ∧ (l = [] ∨ ∃ g cur, A = some ⟨g, 0, none⟩ ∧ base ≤ g ∧ Row W g 29 cur ∧ cur.size = c * 4 ∧ ∀ i t, l[i]? = some t → ∀ j, j < 4 → W.cell? ⟨g, i * 4 + j, none⟩ = (tokC t)[j]?) := by
  obtain ⟨hl, hh⟩ := h
  rcases hh with ⟨hv, h0⟩ | ⟨g, cap, cur, hv, hb, hc, h3, h4, h5, h6⟩
  · exact ⟨none, 0, by rw [hv, h0], by omega, .inl (List.length_eq_zero_iff.1 h0)⟩
  · refine ⟨_, _, hv, h3, .inr ⟨g, cur, rfl, hb, hc, h5, fun i t hi j hj => ?_⟩⟩
    have hr : Row W g 29 cur := hc
    have hil : i < l.length := (List.getElem?_eq_some_iff.1 hi).1
    have hcl : cur.toList.length = cap * 4 := by simpa using h5
    rw [hr.cell, ← toksC_at l i t j hi hj, ← h6, List.getElem?_take, if_pos (by omega)]
    simp
theorem Rd.of_row {W : World} {g n : Nat} {t : TypeId} {cs : Array Value} {f : Nat → Value} (h : Row W g t cs) (hf : ∀ j, j < n → cs[j]? = some (f j)) : Rd W W.heap.size (some ⟨g, 0, none⟩) n f := fun j hj => by
  refine ⟨_, rfl, h.lt, ?_⟩
  rw [add_row, h.cell, Nat.zero_add, hf j hj]
theorem k14_cells : ∀ j, j < 14 → (#[.int .u8 108, .int .u8 101, .int .u8 116, .int .u8 32, .int .u8 120, .int .u8 32, .int .u8 61, .int .u8 32, .int .u8 34, .int .u8 97, .int .u8 92, .int .u8 110, .int .u8 34, .int .u8 59] : Array Value)[j]? = some (byteC k14 j) := by
  have e : (#[.int .u8 108, .int .u8 101, .int .u8 116, .int .u8 32, .int .u8 120, .int .u8 32, .int .u8 61, .int .u8 32, .int .u8 34, .int .u8 97, .int .u8 92, .int .u8 110, .int .u8 34, .int .u8 59] : Array Value) = ((List.range 14).map (byteC k14)).toArray := by rfl
  intro j hj
  rw [e]
  simp [hj]
theorem rd_marked (w : World) (C : Array Value) (t : TypeId) (fr : Nat × Nat) {n : Nat} {f : Nat → Value} (h : ∀ j, j < n → C[j]? = some (f j)) : Rd (w.alloc (.cells C t fr)) (w.alloc (.cells C t fr)).heap.size (some ⟨w.heap.size, 0, none⟩) n f := fun j hj =>
  ⟨_, rfl, by simp, by rw [add_row, Nat.zero_add, World.cell?_alloc_mark]; exact h j hj⟩
theorem known_tokens (A : Option Addr) (W : World) (hm : Mx W) (h : Rd W W.heap.size A 14 (byteC k14)) :
    Calls Tryd.prog 4 #[.slice A 14 14] W fun e w' => (∃ v, e = .returned (.tuple #[v, .int .i64 0, .int .i64 0]) ∧ w'.ownsRow W.heap.size 29 4 v 6 (toksC k14L)) ∧ Below W.heap.size W w' := by
  have HR : tokR k14 = (k14L, 0, 0) := tokR_ok (by decide) k14_toks
  have HL : tokL k14 = k14L := by show (if (tokR k14).2.2 = 0 then _ else _) = _; rw [HR]; rfl
  have := Tokens_any k14 A 14 (by decide) W hm h
  rw [HR, HL] at this
  exact this
set_option maxRecDepth 100000 in
set_option maxHeartbeats 4000000 in
theorem known_any (w : World) (hm : Mx w) : Calls Tryd.prog 6 #[] w fun e w' => e = .returned (.bool true) ∧ Below w.heap.size w w' := by
  have h0 : 1 < w.heap.size := by obtain ⟨x, hx⟩ := hm; exact (World.block_lt_of_cell? w ⟨1, 0, none⟩ hx)
  have kc := fun (W : World) (C : Array Value) (n c : Nat) => Lib.run_convert_bytes_const (P := Tryd.prog) W 26 5 C n c Tryd.underlying26 Tryd.underlying5
  go_enter Tryd.func6, Tryd.ntmps6
  go_wp2_with (go_at_call 4; (with_reducible refine (known_tokens (some ⟨w.heap.size, 0, none⟩) _ (hm.below (B := w.heap.size) (by (repeat (first | (with_reducible exact Below.refl _ _) | (with_reducible assumption) | (with_reducible refine Below.setCell ?_ (by first | omega | (simp <;> omega)) _) | (with_reducible refine Below.alloc ?_ (by first | omega | (simp <;> omega)) _) | (with_reducible refine Below.drew ?_) | (with_reducible refine below_drewN ?_ _) | (with_reducible refine Below.trans ?_ (Below.mono (by with_reducible assumption) (by first | omega | (simp <;> omega))))))) h0) (rd_marked w _ _ _ k14_cells)).mono ?_); rintro e w1 ⟨⟨v, rfl, how⟩, b1⟩; obtain ⟨A, c, rfl, hc, hrow⟩ := own_toks (l := k14L) how; obtain ⟨g, cur, rfl, hg, hr, _, hcell⟩ := hrow.resolve_left (by decide); have c0 := hcell 0 _ rfl 0 (by decide); have c1 := hcell 1 _ rfl 1 (by decide); have c2 := hcell 3 _ rfl 1 (by decide); have c3 := hcell 3 _ rfl 3 (by decide); have c4 := hcell 5 _ rfl 0 (by decide); have hlt := hr.lt; simp [tokC] at c0 c1 c2 c3 c4; have hl6 : k14L.length = 6 := rfl; rw [hl6] at hc ⊢)
  all_goals (refine bodyPost_ret (v := .bool true) (by simp [results, Tryd.results6, go_sem]) rfl ⟨rfl, (by (repeat (first | (with_reducible exact Below.refl _ _) | (with_reducible assumption) | (with_reducible refine Below.setCell ?_ (by first | omega | (simp <;> omega)) _) | (with_reducible refine Below.alloc ?_ (by first | omega | (simp <;> omega)) _) | (with_reducible refine Below.drew ?_) | (with_reducible refine below_drewN ?_ _) | (with_reducible refine Below.trans ?_ (Below.mono (by with_reducible assumption) (by first | omega | (simp <;> omega)))))))⟩)
end Go.Proofs.YtdlppdoankeilaaDoor
