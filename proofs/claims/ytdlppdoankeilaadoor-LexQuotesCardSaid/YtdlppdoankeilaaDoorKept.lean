/- Plain: a world behind a scanner's step: all blocks stand but the scanner's own and one row; where a remark ends, by the library's index. No program in sight. -/
import Derived.Test.YtdlppdoankeilaaDoorScan7
namespace Go.Proofs.YtdlppdoankeilaaDoor
set_option linter.unusedVariables false
set_option linter.unusedSimpArgs false
set_option linter.unnecessarySimpa false
open Go.RowKit
/-- All that was there stands, but block g and the row's block. -/
structure Kept (g : Nat) (r : Option Nat) (w w' : World) : Prop where
  os : w'.os = w.os
  tape : w'.tape = w.tape
  output : w'.output = w.output
  size : w.heap.size ≤ w'.heap.size
  block : ∀ k, k < w.heap.size → k ≠ g → some k ≠ r → w'.heap[k]? = w.heap[k]?
section
variable {g : Nat} {r r' : Option Nat} {w w' w2 : World}
theorem Kept.refl (g : Nat) (r : Option Nat) (w : World) : Kept g r w w := ⟨rfl, rfl, rfl, Nat.le_refl _, fun _ _ _ _ => rfl⟩
theorem Kept.of_below (h : Below w.heap.size w w') : Kept g r w w' := ⟨h.os, h.tape, h.output, h.size, fun k hk _ _ => h.block k hk⟩
theorem Kept.trans (h : Kept g r w w') (k : Kept g r' w' w2) (hr : r' = r ∨ ∀ b, r' = some b → w.heap.size ≤ b) : Kept g r w w2 :=
  ⟨k.os.trans h.os, k.tape.trans h.tape, k.output.trans h.output, Nat.le_trans h.size k.size, fun i hi h1 h2 => (k.block i (Nat.lt_of_lt_of_le hi h.size) h1 (by
    rcases hr with rfl | hr
    · exact h2
    · intro e; have := hr i e.symm; omega)).trans (h.block i hi h1 h2)⟩
theorem Kept.below_next (h : Kept g r w w') (k : Below w'.heap.size w' w2) : Kept g r w w2 := h.trans (Kept.of_below (r := r) k) (.inl rfl)
theorem Kept.set (h : Kept g r w w') {p : Addr} (hp : p.block = g) (u : Value) : Kept g r w (w'.setCell p u) :=
  h.trans (r' := r) ⟨rfl, rfl, rfl, by simp [World.setCell], fun k _ h1 _ => Below.heap_setCell _ _ _ _ (by omega)⟩ (.inl rfl)
theorem Kept.grown (h : Kept g r w w') (k : w'.grownBy w2 r') (hr : r' = r ∨ ∀ b, r' = some b → w.heap.size ≤ b) : Kept g r w w2 :=
  h.trans (r' := r') ⟨k.os, k.tape, k.output, k.size, fun i hi _ h2 => k.block i hi h2⟩ hr
theorem Kept.drewN (h : Kept g r w w') (n : Nat) : Kept g r w (w'.drewN n) := ⟨h.os, h.tape, h.output, h.size, h.block⟩
theorem Kept.drew (h : Kept g r w w') : Kept g r w w'.drew := ⟨h.os, h.tape, h.output, h.size, h.block⟩
theorem Kept.below {B : Nat} (h : Kept g r w w') (hB : B ≤ g) (hw : B ≤ w.heap.size) (hr : ∀ b, r = some b → B ≤ b) : Below B w w' :=
  ⟨h.os, h.tape, h.output, h.size, fun k hk => h.block k (by omega) (by omega) (fun e => by have := hr k e.symm; omega)⟩
theorem Kept.row {a : Nat} {t : TypeId} {cs : Array Value} (h : Kept g r w w') (hr : Row w a t cs) (h1 : a ≠ g) (h2 : some a ≠ r) : Row w' a t cs := (h.block a hr.lt h1 h2).trans hr
theorem Kept.rd {B n : Nat} {A : Option Addr} {f : Nat → Value} (h : Kept g r w w') (hr : Rd w B A n f) (hB : B ≤ g) (hw : B ≤ w.heap.size) (h2 : ∀ b, r = some b → B ≤ b) : Rd w' B A n f := hr.below (h.below hB hw h2)
theorem Kept.mx (h : Kept g r w w') (hm : Mx w) (hg : 1 < g) (h2 : r ≠ some 1) : Mx w' := by
  obtain ⟨m, hm⟩ := hm
  have hl : 1 < w.heap.size := World.block_lt_of_cell? w ⟨1, 0, none⟩ hm
  exact ⟨m, (World.cell?_of_block (w := w) (a := ⟨1, 0, none⟩) (h.block 1 hl (by omega) (fun e => h2 e.symm))).trans hm⟩
theorem Kept.own {base : Nat} {e : TypeId} {size n : Nat} {v : Value} {xs : List Value} (h : Kept g r w w') (ho : w.ownsRow base e size v n xs) (h1 : v.ownBlock ≠ some g) (h2 : v.ownBlock = none ∨ v.ownBlock ≠ r) : w'.ownsRow base e size v n xs := by
  obtain ⟨hl, hh⟩ := ho
  refine ⟨hl, ?_⟩
  rcases hh with hh | ⟨b, cap, cur, hv, hb, hc, h3, h4, h5, h6⟩
  · exact .inl hh
  · have hob : v.ownBlock = some b := by rw [hv]; rfl
    refine .inr ⟨b, cap, cur, hv, hb, ?_, h3, h4, h5, h6⟩
    rw [h.block b (by rcases Nat.lt_or_ge b w.heap.size with q | q; · exact q
                      · rw [Array.getElem?_eq_none q] at hc; cases hc) (fun e => h1 (by rw [hob, e])) (fun e => by
      rcases h2 with h2 | h2
      · rw [hob] at h2; cases h2
      · exact h2 (hob.trans e))]
    exact hc
end
/-- Where a remark ends. -/
theorem remEnd_spec (s : ByteArray) : ∀ (n i : Nat), s.size - i ≤ n → (∀ j, i ≤ j → j < remEnd s i → ¬ (bt s j = 42 ∧ bt s (j + 1) = 47)) ∧ (remEnd s i + 1 < s.size → bt s (remEnd s i) = 42 ∧ bt s (remEnd s i + 1) = 47) := by
  intro n
  induction n with
  | zero => intro i h; rw [remEnd_stop (by omega)]; exact ⟨fun j h1 h2 => by omega, fun h1 => by omega⟩
  | succ n ih =>
    intro i h
    by_cases c : i + 1 < s.size ∧ ¬ (bt s i = 42 ∧ bt s (i + 1) = 47)
    · rw [remEnd_go c.1 c.2]
      have := ih (i + 1) (by omega)
      refine ⟨fun j h1 h2 => ?_, this.2⟩
      by_cases e : j = i
      · rw [e]; exact c.2
      · exact this.1 j (by omega) h2
    · rw [remEnd_stop c]
      refine ⟨fun j h1 h2 => by omega, fun h1 => ?_⟩
      by_cases h2 : bt s i = 42 ∧ bt s (i + 1) = 47
      · exact h2
      · exact absurd ⟨h1, h2⟩ c
theorem occ_two (t : ByteArray) (p : Nat) : Lib.occAt t.data.toList [42, 47] p = true ↔ p + 1 < t.size ∧ bt t p = 42 ∧ bt t (p + 1) = 47 := by
  unfold Lib.occAt
  have hlen : t.data.toList.length = t.size := by simp
  by_cases h : p + 1 < t.size
  · have d1 : t.data.toList.drop p = (t.data.toList[p]'(by omega)) :: (t.data.toList[p + 1]'(by omega)) :: t.data.toList.drop (p + 2) := by
      rw [List.drop_eq_getElem_cons (by omega), List.drop_eq_getElem_cons (by omega)]
    rw [d1, data_at (show p < t.size by omega), data_at h]
    simp only [List.isPrefixOf, Bool.and_true, Bool.and_eq_true, beq_iff_eq]
    constructor
    · rintro ⟨e1, e2⟩; rw [← e1, ← e2]; exact ⟨h, rfl, rfl⟩
    · rintro ⟨_, e1, e2⟩; exact ⟨(UInt8.toNat_inj.1 e1).symm, (UInt8.toNat_inj.1 e2).symm⟩
  · constructor
    · intro e
      have := (List.isPrefixOf_iff_prefix.1 e).length_le
      rw [List.length_drop, hlen] at this
      simp at this
      omega
    · intro e; omega
theorem rem_index (s : ByteArray) (k : Nat) (hk : k ≤ s.size) : Lib.index (s.extract k s.size).data.toList [42, 47] = if remEnd s k + 1 < s.size then ((remEnd s k - k : Nat) : Int) else -1 := by
  have hsz : (s.extract k s.size).size = s.size - k := by rw [ByteArray.size_extract]; omega
  have hlen : (s.extract k s.size).data.toList.length = s.size - k := by rw [← hsz]; simp
  have hat : ∀ j, j < s.size - k → bt (s.extract k s.size) j = bt s (k + j) := fun j hj => bt_extract hj (Nat.le_refl _)
  obtain ⟨h1, h2⟩ := remEnd_spec s _ k (Nat.le_refl _)
  have hge := remEnd_ge s _ k (Nat.le_refl _)
  by_cases c : remEnd s k + 1 < s.size
  · rw [if_pos c]
    have ho : Lib.occAt (s.extract k s.size).data.toList [42, 47] (remEnd s k - k) = true := (occ_two _ _).2 ⟨by omega, by rw [hat _ (by omega), show k + (remEnd s k - k) = remEnd s k by omega]; exact (h2 c).1, by rw [hat _ (by omega), show k + (remEnd s k - k + 1) = remEnd s k + 1 by omega]; exact (h2 c).2⟩
    rcases Lib.index_spec (s.extract k s.size).data.toList [42, 47] with ⟨_, e⟩ | ⟨i, e, hi, hi2, hno⟩
    · rw [e _ (by omega)] at ho; cases ho
    · rw [e]
      have hii := (occ_two _ _).1 hi2
      rw [hsz] at hii
      have hni : ¬ i < remEnd s k - k := fun hlt => h1 (k + i) (by omega) (by omega) ⟨by rw [← hat i (by omega)]; exact hii.2.1, by rw [Nat.add_assoc, ← hat (i + 1) (by omega)]; exact hii.2.2⟩
      have hnr : ¬ remEnd s k - k < i := fun hlt => by rw [hno _ hlt] at ho; cases ho
      have : i = remEnd s k - k := by omega
      rw [this]
  · rw [if_neg c]
    rcases Lib.index_spec (s.extract k s.size).data.toList [42, 47] with ⟨e, _⟩ | ⟨i, e, hi, hi2, hno⟩
    · exact e
    · have hii := (occ_two _ _).1 hi2
      rw [hsz] at hii
      have hlt : k + i < remEnd s k := by omega
      exact absurd ⟨by rw [← hat i (by omega)]; exact hii.2.1, by rw [Nat.add_assoc, ← hat (i + 1) (by omega)]; exact hii.2.2⟩ (h1 (k + i) (by omega) hlt)
/-- The byte that a scanner at g stands at, out of its cell. -/
def atOf (w : World) (g : Nat) : Nat := match w.cell? ⟨g, 1, none⟩ with
  | some v => (intOf v).toNat
  | none => 0
theorem atOf_scn {w : World} {g n c i : Nat} {A : Option Addr} {hv : Value} (h : Scn w g A n c i hv) : atOf w g = i := by
  have := h.cell 1
  unfold atOf
  rw [this]
  rfl
theorem Scn.set {w : World} {g n c i : Nat} {A : Option Addr} {hv : Value} (h : Scn w g A n c i hv) (k : Nat) : Scn (w.setCell ⟨g, 1, none⟩ (.int .i64 (k : Int))) g A n c k hv := Row.put h 1 _
theorem Scn.kept {w w' : World} {g g' n c i : Nat} {r : Option Nat} {A : Option Addr} {hv : Value} (h : Scn w g A n c i hv) (k : Kept g' r w w') (h1 : g ≠ g') (h2 : some g ≠ r) : Scn w' g A n c i hv := k.row h h1 h2
end Go.Proofs.YtdlppdoankeilaaDoor
