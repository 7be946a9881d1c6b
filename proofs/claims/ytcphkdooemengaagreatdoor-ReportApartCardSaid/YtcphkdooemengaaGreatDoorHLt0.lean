/- Plain: a tree that is lent: in rows of the call's own, with marked room behind them. No text of the program in sight. -/
import Derived.Test.YtcphkdooemengaaGreatDoorHBZ25
import Derived.Deep.Slices
namespace Go.Proofs.YtcphkdooemengaaGreatDoor
set_option linter.unusedVariables false
set_option linter.unusedSimpArgs false
set_option linter.unnecessarySimpa false
open Go.RowKit Go.Deep
def markN : NdV := (⟨171, ⟨#[]⟩, 0, [], 0⟩, .slice none 0 0)
/-- A slice of numbers with marked room behind it. -/
def LentK (W : World) (base : Nat) (p : NdV) : Prop := ∃ K kc, p.2 = .slice K p.1.ks.length kc ∧ W.ownsRow base 3 1 (.slice K (p.1.ks.length + 1) kc) (p.1.ks.length + 1) (intsC (p.1.ks ++ [171]))
/-- A slice of numbers as it came in. -/
def KeptK (W : World) (B : Nat) (p : NdV) : Prop := ∃ K kc, p.2 = .slice K p.1.ks.length kc ∧ Rd W B K p.1.ks.length (ksV p.1.ks) ∧ p.1.ks.length ≤ kc ∧ kc ≤ maxLen
/-- A lent tree. -/
structure LentT (W : World) (base : Nat) (v : Value) (l : List NdV) : Prop where
  row : ∃ A c, v = .slice A l.length c ∧ W.ownsRow base 36 5 (.slice A (l.length + 1) c) (l.length + 1) (ndsC (l ++ [markN]))
  kids : ∀ p ∈ l, LentK W base p
  wide : ∀ p ∈ l, wideY p.1
section
variable {W W' : World} {base B : Nat} {v : Value} {l : List NdV}
theorem LentK.below {p : NdV} (h : LentK W base p) (hb : Below W.heap.size W W') : LentK W' base p := by
  obtain ⟨K, kc, e, ho⟩ := h
  exact ⟨K, kc, e, own_below ho hb⟩
theorem LentT.below (h : LentT W base v l) (hb : Below W.heap.size W W') : LentT W' base v l := by
  obtain ⟨A, c, e, ho⟩ := h.row
  exact ⟨⟨A, c, e, own_below ho hb⟩, fun p hp => (h.kids p hp).below hb, h.wide⟩
theorem LentT.mono {b : Nat} (h : LentT W base v l) (hb : b ≤ base) : LentT W b v l := by
  obtain ⟨A, c, e, ho⟩ := h.row
  exact ⟨⟨A, c, e, own_mono ho hb⟩, fun p hp => by
    obtain ⟨K, kc, e, ho⟩ := h.kids p hp
    exact ⟨K, kc, e, own_mono ho hb⟩, h.wide⟩
theorem ndsC_take {l : List NdV} {p : NdV} {j : Nat} (h : l[j]? = some p) (i : Nat) (hi : i < 5) (m : List NdV) : (ndsC (l ++ m))[j * 5 + i]? = (ndC p)[i]? := by
  have hj : j < l.length := (List.getElem?_eq_some_iff.1 h).1
  exact ndsC_at (l ++ m) j p (by rw [List.getElem?_append_left hj]; exact h) i hi
theorem lentK_rd {p : NdV} (h : LentK W base p) : ∃ K kc, p.2 = .slice K p.1.ks.length kc ∧ Rd W W.heap.size K p.1.ks.length (ksV p.1.ks) ∧ p.1.ks.length + 1 ≤ kc ∧ kc ≤ maxLen ∧ ∃ g, K = some ⟨g, 0, none⟩ ∧ W.cell? ⟨g, p.1.ks.length, none⟩ = some (.int .i64 171) := by
  obtain ⟨K, kc, e, ho⟩ := h
  obtain ⟨g, cap, hv, hb, hl⟩ := ho.form (by omega)
  injection hv with hK _ hc
  subst hK hc
  have hlen : (intsC (p.1.ks ++ [171])).length = p.1.ks.length + 1 := by simp [intsC]
  refine ⟨_, _, e, fun j hj => ⟨_, rfl, hl, ?_⟩, ?_, ?_, g, rfl, ?_⟩
  · have := ho.cells (g := g) rfl j (ksV p.1.ks j) (by rw [intsC, List.map_append, List.getElem?_append_left (by simpa using hj)]; exact ksV_get hj)
    exact this
  · rcases ho.2 with ⟨h1, h2⟩ | ⟨g', cap', cur, h1, _, _, h3, h4, _⟩
    · omega
    · injection h1 with _ _ h5
      omega
  · rcases ho.2 with ⟨h1, h2⟩ | ⟨g', cap', cur, h1, _, _, h3, h4, _⟩
    · omega
    · injection h1 with _ _ h5
      omega
  · have := ho.cellAt p.1.ks.length (by omega)
    rw [this]
    simp [intsC]
/-- A lent tree, as a tree. -/
theorem LentT.tree (h : LentT W base v l) : ∃ A c, v = .slice A l.length c ∧ l.length + 1 ≤ c ∧ c ≤ maxLen ∧ TreeAt W W.heap.size A (l.map (·.1)) ∧ ∃ g, A = some ⟨g, 0, none⟩ ∧ W.cell? ⟨g, l.length * 5, none⟩ = some (.int .i64 171) := by
  obtain ⟨A, c, rfl, ho⟩ := h.row
  obtain ⟨g, cap, hv, hb, hlt⟩ := ho.form (by omega)
  injection hv with hA _ hc
  subst hA hc
  have hcap : l.length + 1 ≤ c ∧ c ≤ maxLen := by
    rcases ho.2 with ⟨h1, h2⟩ | ⟨g', cap', cur, h1, _, _, h3, h4, _⟩
    · omega
    · injection h1 with _ _ h5
      omega
  refine ⟨_, _, rfl, hcap.1, hcap.2, fun j hj => ?_, g, rfl, ?_⟩
  · rw [List.length_map] at hj
    obtain ⟨p, hp⟩ : ∃ p, l[j]? = some p := ⟨l[j], List.getElem?_eq_getElem hj⟩
    have hpl : p ∈ l := List.mem_of_getElem? hp
    have hy : nd (l.map (·.1)) j = p.1 := by
      have := nd_get (L := l.map (·.1)) (j := j) (by rw [List.length_map]; exact hj)
      rw [List.getElem?_map, hp] at this
      simpa using this.symm
    rw [hy]
    have hc : ∀ i, i < 5 → W.cell? ⟨g, j * 5 + i, none⟩ = (ndC p)[i]? := fun i hi => by
      rw [← ndsC_take hp i hi [markN]]
      exact ho.cellAt (j * 5 + i) (by omega)
    refine ⟨⟨g, 0, none⟩, rfl, ?_⟩
    rw [add_row, Nat.zero_add]
    obtain ⟨K, kc, hK, hr, k1, k2, _⟩ := lentK_rd (h.kids p hpl)
    exact ⟨hlt, hc 0 (by omega), hc 1 (by omega), hc 2 (by omega), hc 4 (by omega), (h.wide p hpl).1, (h.wide p hpl).2, K, kc, (hc 3 (by omega)).trans (by show some p.2 = _; rw [hK]), hr, by omega, k2⟩
  · rw [ho.cellAt (l.length * 5) (by omega)]
    have := ndsC_at (l ++ [markN]) l.length markN (by simp) 0 (by omega)
    rw [Nat.add_zero] at this
    rw [this]; rfl
/-- The nodes of a tree, each with its slice. -/
theorem kept_of {A : Option Addr} {L : List Nd} (h : TreeAt W B A L) : ∃ r : List NdV, r.map (·.1) = L ∧ (∀ p ∈ r, KeptK W B p ∧ wideY p.1) ∧ ∀ ad, A = some ad → ∀ j u, (ndsC r)[j]? = some u → W.cell? (ad.add j) = some u := by
  have key : ∀ j, j < L.length → ∃ K kc, ∃ ad, A = some ad ∧ NodeAt W B (ad.add (j * 5)) (nd L j) ∧ W.cell? ⟨(ad.add (j * 5)).block, (ad.add (j * 5)).off + 3, none⟩ = some (.slice K (nd L j).ks.length kc) ∧ Rd W B K (nd L j).ks.length (ksV (nd L j).ks) ∧ (nd L j).ks.length ≤ kc ∧ kc ≤ maxLen := fun j hj => by
    obtain ⟨ad, e, n⟩ := h j hj
    obtain ⟨K, kc, h3, hr, h4, h5⟩ := n.c3
    exact ⟨K, kc, ad, e, n, h3, hr, h4, h5⟩
  have key2 : ∀ j, j < L.length → ∃ s : Value, ∃ K kc, s = .slice K (nd L j).ks.length kc ∧ ∃ ad, A = some ad ∧ NodeAt W B (ad.add (j * 5)) (nd L j) ∧ W.cell? ⟨(ad.add (j * 5)).block, (ad.add (j * 5)).off + 3, none⟩ = some (.slice K (nd L j).ks.length kc) ∧ Rd W B K (nd L j).ks.length (ksV (nd L j).ks) ∧ (nd L j).ks.length ≤ kc ∧ kc ≤ maxLen := fun j hj => by
    obtain ⟨K, kc, h⟩ := key j hj
    exact ⟨_, K, kc, rfl, h⟩
  haveI : Inhabited Value := ⟨.bool false⟩
  obtain ⟨f, hf⟩ := choose_lt key2
  have hlen : ((List.range L.length).map fun (j : Nat) => ((nd L j, f j) : NdV)).length = L.length := by simp
  refine ⟨(List.range L.length).map fun (j : Nat) => ((nd L j, f j) : NdV), ?_, ?_, ?_⟩
  · apply List.ext_getElem?
    intro j
    rw [List.getElem?_map, List.getElem?_map]
    by_cases hj : j < L.length
    · rw [List.getElem?_range hj, nd_get hj]; rfl
    · rw [List.getElem?_eq_none (by simp; omega), List.getElem?_eq_none (by omega)]; rfl
  · intro p hp
    obtain ⟨j, hj, rfl⟩ := List.mem_map.1 hp
    have hj := List.mem_range.1 hj
    obtain ⟨K, kc, e, ad, _, n, h3, h4, h5, h6⟩ := hf j hj
    exact ⟨⟨K, kc, e, h4, h5, h6⟩, n.wm, n.wk⟩
  · intro ad hA i u hu
    have hi : i < L.length * 5 := by
      have := (List.getElem?_eq_some_iff.1 hu).1
      rw [ndsC_len, hlen] at this
      exact this
    have hj : i / 5 < L.length := by omega
    obtain ⟨K, kc, e, ad', hA', n, h3, h4, h5, h6⟩ := hf (i / 5) hj
    rw [hA] at hA'
    injection hA' with hA'
    subst hA'
    have hat := ndsC_at ((List.range L.length).map fun (j : Nat) => ((nd L j, f j) : NdV)) (i / 5) (nd L (i / 5 : Nat), f (i / 5)) (by rw [List.getElem?_map, List.getElem?_range hj]; rfl) (i % 5) (by omega)
    rw [show i / 5 * 5 + i % 5 = i by omega, hu] at hat
    have hadd : ad.add i = (ad.add (i / 5 * 5)).add (i % 5) := by rw [add_add, show i / 5 * 5 + i % 5 = i by omega]
    rw [hadd]
    rcases (show i % 5 = 0 ∨ i % 5 = 1 ∨ i % 5 = 2 ∨ i % 5 = 3 ∨ i % 5 = 4 by omega) with h0 | h0 | h0 | h0 | h0
    all_goals
      rw [h0] at hat ⊢
      simp [ndC] at hat
      subst hat
    · rw [add_zero]; exact n.c0
    · have := n.c1; simpa [Addr.add] using this
    · have := n.c2; simpa [Addr.add] using this
    · rw [e]; simpa [Addr.add] using h3
    · have := n.c4; simpa [Addr.add] using this
theorem intsC_app (a b : List Int) : intsC (a ++ b) = intsC a ++ intsC b := by simp [intsC]
/-- One node more has its own slice, behind a store. -/
theorem lent_round {W0 W : World} {base : Nat} {l1 r : List NdV} {y : Nd} {s : Value} {q n g g25 m c25 c1 : Nat}
    (hl : l1.length = q) (hm : l1.map (·.1) = (r.take q).map (·.1)) (ht : (r.take (q + 1)).map (·.1) = (r.take q).map (·.1) ++ [y])
    (hk : ∀ p ∈ l1, LentK W0 base p ∧ wideY p.1) (hb : Below W0.heap.size W0 W) (hy : wideY y) (hym : y.ks.length = m)
    (ho : W.ownsRow base 36 5 (.slice (some ⟨g, 0, none⟩) n c1) n (ndsC (l1 ++ (y, s) :: r.drop (q + 1))))
    (hi : W.ownsRow base 3 1 (.slice (some ⟨g25, 0, none⟩) (m + 1) c25) (m + 1) (intsC y.ks ++ [.int .i64 171])) :
    ∃ l2 : List NdV, l2.length = q + 1 ∧ l2.map (·.1) = (r.take (q + 1)).map (·.1) ∧ (W.setCell ⟨g, q * 5 + 3, none⟩ (.slice (some ⟨g25, 0, none⟩) m c25)).ownsRow base 36 5 (.slice (some ⟨g, 0, none⟩) n c1) n (ndsC (l2 ++ r.drop (q + 1))) ∧ ∀ p ∈ l2, LentK (W.setCell ⟨g, q * 5 + 3, none⟩ (.slice (some ⟨g25, 0, none⟩) m c25)) base p ∧ wideY p.1 := by
  refine ⟨l1 ++ [(y, .slice (some ⟨g25, 0, none⟩) m c25)], by simp [hl], by rw [List.map_append, hm, ht]; rfl, ?_, ?_⟩
  · have h2 := (ho.stored (q * 5 + 3) (.slice (some ⟨g25, 0, none⟩) m c25)).1
    rw [ndsC_set _ q (y, s) _ (by rw [List.getElem?_append_right (by omega), hl, Nat.sub_self]; rfl), List.set_append, if_neg (by omega), hl, Nat.sub_self] at h2
    rw [List.append_assoc]
    exact h2
  · have hset : ∀ {u : Value} {m2 : Nat} {zs : List Value}, W.ownsRow base 3 1 u m2 zs → (W.setCell ⟨g, q * 5 + 3, none⟩ (.slice (some ⟨g25, 0, none⟩) m c25)).ownsRow base 3 1 u m2 zs := fun h => ownsRow_setCell_other h (fun e => own_two ho h ne_ND g e (by simp [Value.ownBlock])) _
    intro p hp
    rcases List.mem_append.1 hp with hp | hp
    · obtain ⟨⟨K, kc, e, h⟩, h5⟩ := hk p hp
      exact ⟨⟨K, kc, e, hset (own_below h hb)⟩, h5⟩
    · rw [List.mem_singleton] at hp
      subst hp
      refine ⟨⟨some ⟨g25, 0, none⟩, c25, by rw [hym], ?_⟩, hy⟩
      rw [hym, intsC_app]
      exact hset hi
theorem LentT.set_row1 {W : World} {base g i : Nat} {v : Value} {l : List NdV} {t : TypeId} {cs : Array Value} (h : LentT W base v l) (hr : Row W g t cs) (h1 : (36 : TypeId) ≠ t) (h2 : (3 : TypeId) ≠ t) (u : Value) : LentT (W.setCell ⟨g, i, none⟩ u) base v l := by
  obtain ⟨A, c, e, ho⟩ := h.row
  exact ⟨⟨A, c, e, ownsRow_setCell_other ho (row_ne hr ho h1) u⟩, fun p hp => by
    obtain ⟨K, kc, e, ho⟩ := h.kids p hp
    exact ⟨K, kc, e, ownsRow_setCell_other ho (row_ne hr ho h2) u⟩, h.wide⟩
end
end Go.Proofs.YtcphkdooemengaaGreatDoor
