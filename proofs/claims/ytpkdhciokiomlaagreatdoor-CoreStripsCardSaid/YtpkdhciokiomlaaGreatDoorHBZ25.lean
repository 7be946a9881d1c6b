/- Some texts of this claim, put together. -/
import Derived.Test.YtpkdhciokiomlaaGreatDoorHBZ17
import Derived.Deep.Slices
import Derived.Test.YtpkdhciokiomlaaGreatDoorHBZ26
import Derived.Test.YtpkdhciokiomlaaGreatDoorHBZ27
namespace Go.Proofs.YtpkdhciokiomlaaGreatDoor
section
set_option linter.unusedVariables false
set_option linter.unusedSimpArgs false
set_option linter.unnecessarySimpa false
open Go.RowKit Go.Deep
def markN : NdV := (⟨171, ⟨#[]⟩, 0, [], 0⟩, .slice none 0 0)
/-- A slice of numbers with marked room behind it. -/
def LentK (W : World) (base : Nat) (p : NdV) : Prop := ∃ K kc, p.2 = .slice K p.1.ks.length kc ∧ W.ownsRow base 3 1 (.slice K (p.1.ks.length + 1) kc) (p.1.ks.length + 1) (intsC (p.1.ks ++ [171]))
/-- A slice of numbers as it came in. -/
def KeptK (W : World) (B : Nat) (p : NdV) : Prop := ∃ K kc, p.2 = .slice K p.1.ks.length kc ∧ Rd W B K p.1.ks.length (ksV p.1.ks) ∧ p.1.ks.length ≤ kc ∧ kc ≤ maxLen
/-- A lent tree. -/
structure LentT (W : World) (base : Nat) (v : Value) (l : List NdV) : Prop where
  row : ∃ A c, v = .slice A l.length c ∧ W.ownsRow base 37 5 (.slice A (l.length + 1) c) (l.length + 1) (ndsC (l ++ [markN]))
  kids : ∀ p ∈ l, LentK W base p
  wide : ∀ p ∈ l, wideY p.1
section
variable {W W' : World} {base B : Nat} {v : Value} {l : List NdV}
theorem LentK.below {p : NdV} (h : LentK W base p) (hb : Below W.heap.size W W') : LentK W' base p := by
  obtain ⟨K, kc, e, ho⟩ := h
  exact ⟨K, kc, e, own_below ho hb⟩
theorem LentT.below (h : LentT W base v l) (hb : Below W.heap.size W W') : LentT W' base v l := by
  obtain ⟨A, c, e, ho⟩ := h.row
  exact ⟨⟨A, c, e, own_below ho hb⟩, fun p hp => (h.kids p hp).below hb, h.wide⟩
theorem LentT.mono {b : Nat} (h : LentT W base v l) (hb : b ≤ base) : LentT W b v l := by
  obtain ⟨A, c, e, ho⟩ := h.row
  exact ⟨⟨A, c, e, own_mono ho hb⟩, fun p hp => by
    obtain ⟨K, kc, e, ho⟩ := h.kids p hp
    exact ⟨K, kc, e, own_mono ho hb⟩, h.wide⟩
theorem ndsC_take {l : List NdV} {p : NdV} {j : Nat} (h : l[j]? = some p) (i : Nat) (hi : i < 5) (m : List NdV) : (ndsC (l ++ m))[j * 5 + i]? = (ndC p)[i]? := by
  have hj : j < l.length := (List.getElem?_eq_some_iff.1 h).1
  exact ndsC_at (l ++ m) j p (by rw [List.getElem?_append_left hj]; exact h) i hi
theorem lentK_rd {p : NdV} (h : LentK W base p) : ∃ K kc, p.2 = .slice K p.1.ks.length kc ∧ Rd W W.heap.size K p.1.ks.length (ksV p.1.ks) ∧ p.1.ks.length + 1 ≤ kc ∧ kc ≤ maxLen ∧ ∃ g, K = some ⟨g, 0, none⟩ ∧ W.cell? ⟨g, p.1.ks.length, none⟩ = some (.int .i64 171) := by
  obtain ⟨K, kc, e, ho⟩ := h
  obtain ⟨g, cap, hv, hb, hl⟩ := ho.form (by omega)
  injection hv with hK _ hc
  subst hK hc
  have hlen : (intsC (p.1.ks ++ [171])).length = p.1.ks.length + 1 := by simp [intsC]
  refine ⟨_, _, e, fun j hj => ⟨_, rfl, hl, ?_⟩, ?_, ?_, g, rfl, ?_⟩
  · have := ho.cells (g := g) rfl j (ksV p.1.ks j) (by rw [intsC, List.map_append, List.getElem?_append_left (by simpa using hj)]; exact ksV_get hj)
    exact this
  · rcases ho.2 with ⟨h1, h2⟩ | ⟨g', cap', cur, h1, _, _, h3, h4, _⟩
    · omega
    · injection h1 with _ _ h5
      omega
  · rcases ho.2 with ⟨h1, h2⟩ | ⟨g', cap', cur, h1, _, _, h3, h4, _⟩
    · omega
    · injection h1 with _ _ h5
      omega
  · have := ho.cellAt p.1.ks.length (by omega)
    rw [this]
    simp [intsC]
/-- A lent tree, as a tree. -/
theorem LentT.tree (h : LentT W base v l) : ∃ A c, v = .slice A l.length c ∧ l.length + 1 ≤ c ∧ c ≤ maxLen ∧ TreeAt W W.heap.size A (l.map (·.1)) ∧ ∃ g, A = some ⟨g, 0, none⟩ ∧ W.cell? ⟨g, l.length * 5, none⟩ = some (.int .i64 171) := by
  obtain ⟨A, c, rfl, ho⟩ := h.row
  obtain ⟨g, cap, hv, hb, hlt⟩ := ho.form (by omega)
  injection hv with hA _ hc
  subst hA hc
  have hcap : l.length + 1 ≤ c ∧ c ≤ maxLen := by
    rcases ho.2 with ⟨h1, h2⟩ | ⟨g', cap', cur, h1, _, _, h3, h4, _⟩
    · omega
    · injection h1 with _ _ h5
      omega
  refine ⟨_, _, rfl, hcap.1, hcap.2, fun j hj => ?_, g, rfl, ?_⟩
  · rw [List.length_map] at hj
    obtain ⟨p, hp⟩ : ∃ p, l[j]? = some p := ⟨l[j], List.getElem?_eq_getElem hj⟩
    have hpl : p ∈ l := List.mem_of_getElem? hp
    have hy : nd (l.map (·.1)) j = p.1 := by
      have := nd_get (L := l.map (·.1)) (j := j) (by rw [List.length_map]; exact hj)
      rw [List.getElem?_map, hp] at this
      simpa using this.symm
    rw [hy]
    have hc : ∀ i, i < 5 → W.cell? ⟨g, j * 5 + i, none⟩ = (ndC p)[i]? := fun i hi => by
      rw [← ndsC_take hp i hi [markN]]
      exact ho.cellAt (j * 5 + i) (by omega)
    refine ⟨⟨g, 0, none⟩, rfl, ?_⟩
    rw [add_row, Nat.zero_add]
    obtain ⟨K, kc, hK, hr, k1, k2, _⟩ := lentK_rd (h.kids p hpl)
    exact ⟨hlt, hc 0 (by omega), hc 1 (by omega), hc 2 (by omega), hc 4 (by omega), (h.wide p hpl).1, (h.wide p hpl).2, K, kc, (hc 3 (by omega)).trans (by show some p.2 = _; rw [hK]), hr, by omega, k2⟩
  · rw [ho.cellAt (l.length * 5) (by omega)]
    have := ndsC_at (l ++ [markN]) l.length markN (by simp) 0 (by omega)
    rw [Nat.add_zero] at this
    rw [this]; rfl
/-- The nodes of a tree, each with its slice. -/
theorem kept_of {A : Option Addr} {L : List Nd} (h : TreeAt W B A L) : ∃ r : List NdV, r.map (·.1) = L ∧ (∀ p ∈ r, KeptK W B p ∧ wideY p.1) ∧ ∀ ad, A = some ad → ∀ j u, (ndsC r)[j]? = some u → W.cell? (ad.add j) = some u := by
  have key : ∀ j, j < L.length → ∃ K kc, ∃ ad, A = some ad ∧ NodeAt W B (ad.add (j * 5)) (nd L j) ∧ W.cell? ⟨(ad.add (j * 5)).block, (ad.add (j * 5)).off + 3, none⟩ = some (.slice K (nd L j).ks.length kc) ∧ Rd W B K (nd L j).ks.length (ksV (nd L j).ks) ∧ (nd L j).ks.length ≤ kc ∧ kc ≤ maxLen := fun j hj => by
    obtain ⟨ad, e, n⟩ := h j hj
    obtain ⟨K, kc, h3, hr, h4, h5⟩ := n.c3
    exact ⟨K, kc, ad, e, n, h3, hr, h4, h5⟩
  have key2 : ∀ j, j < L.length → ∃ s : Value, ∃ K kc, s = .slice K (nd L j).ks.length kc ∧ ∃ ad, A = some ad ∧ NodeAt W B (ad.add (j * 5)) (nd L j) ∧ W.cell? ⟨(ad.add (j * 5)).block, (ad.add (j * 5)).off + 3, none⟩ = some (.slice K (nd L j).ks.length kc) ∧ Rd W B K (nd L j).ks.length (ksV (nd L j).ks) ∧ (nd L j).ks.length ≤ kc ∧ kc ≤ maxLen := fun j hj => by
    obtain ⟨K, kc, h⟩ := key j hj
    exact ⟨_, K, kc, rfl, h⟩
  haveI : Inhabited Value := ⟨.bool false⟩
  obtain ⟨f, hf⟩ := choose_lt key2
  have hlen : ((List.range L.length).map fun (j : Nat) => ((nd L j, f j) : NdV)).length = L.length := by simp
  refine ⟨(List.range L.length).map fun (j : Nat) => ((nd L j, f j) : NdV), ?_, ?_, ?_⟩
  · apply List.ext_getElem?
    intro j
    rw [List.getElem?_map, List.getElem?_map]
    by_cases hj : j < L.length
    · rw [List.getElem?_range hj, nd_get hj]; rfl
    · rw [List.getElem?_eq_none (by simp; omega), List.getElem?_eq_none (by omega)]; rfl
  · intro p hp
    obtain ⟨j, hj, rfl⟩ := List.mem_map.1 hp
    have hj := List.mem_range.1 hj
    obtain ⟨K, kc, e, ad, _, n, h3, h4, h5, h6⟩ := hf j hj
    exact ⟨⟨K, kc, e, h4, h5, h6⟩, n.wm, n.wk⟩
  · intro ad hA i u hu
    have hi : i < L.length * 5 := by
      have := (List.getElem?_eq_some_iff.1 hu).1
      rw [ndsC_len, hlen] at this
      exact this
    have hj : i / 5 < L.length := by omega
    obtain ⟨K, kc, e, ad', hA', n, h3, h4, h5, h6⟩ := hf (i / 5) hj
    rw [hA] at hA'
    injection hA' with hA'
    subst hA'
    have hat := ndsC_at ((List.range L.length).map fun (j : Nat) => ((nd L j, f j) : NdV)) (i / 5) (nd L (i / 5 : Nat), f (i / 5)) (by rw [List.getElem?_map, List.getElem?_range hj]; rfl) (i % 5) (by omega)
    rw [show i / 5 * 5 + i % 5 = i by omega, hu] at hat
    have hadd : ad.add i = (ad.add (i / 5 * 5)).add (i % 5) := by rw [add_add, show i / 5 * 5 + i % 5 = i by omega]
    rw [hadd]
    rcases (show i % 5 = 0 ∨ i % 5 = 1 ∨ i % 5 = 2 ∨ i % 5 = 3 ∨ i % 5 = 4 by omega) with h0 | h0 | h0 | h0 | h0
    all_goals
      rw [h0] at hat ⊢
      simp [ndC] at hat
      subst hat
    · rw [add_zero]; exact n.c0
    · have := n.c1; simpa [Addr.add] using this
    · have := n.c2; simpa [Addr.add] using this
    · rw [e]; simpa [Addr.add] using h3
    · have := n.c4; simpa [Addr.add] using this
theorem intsC_app (a b : List Int) : intsC (a ++ b) = intsC a ++ intsC b := by simp [intsC]
/-- One node more has its own slice, behind a store. -/
theorem lent_round {W0 W : World} {base : Nat} {l1 r : List NdV} {y : Nd} {s : Value} {q n g g25 m c25 c1 : Nat}
    (hl : l1.length = q) (hm : l1.map (·.1) = (r.take q).map (·.1)) (ht : (r.take (q + 1)).map (·.1) = (r.take q).map (·.1) ++ [y])
    (hk : ∀ p ∈ l1, LentK W0 base p ∧ wideY p.1) (hb : Below W0.heap.size W0 W) (hy : wideY y) (hym : y.ks.length = m)
    (ho : W.ownsRow base 37 5 (.slice (some ⟨g, 0, none⟩) n c1) n (ndsC (l1 ++ (y, s) :: r.drop (q + 1))))
    (hi : W.ownsRow base 3 1 (.slice (some ⟨g25, 0, none⟩) (m + 1) c25) (m + 1) (intsC y.ks ++ [.int .i64 171])) :
    ∃ l2 : List NdV, l2.length = q + 1 ∧ l2.map (·.1) = (r.take (q + 1)).map (·.1) ∧ (W.setCell ⟨g, q * 5 + 3, none⟩ (.slice (some ⟨g25, 0, none⟩) m c25)).ownsRow base 37 5 (.slice (some ⟨g, 0, none⟩) n c1) n (ndsC (l2 ++ r.drop (q + 1))) ∧ ∀ p ∈ l2, LentK (W.setCell ⟨g, q * 5 + 3, none⟩ (.slice (some ⟨g25, 0, none⟩) m c25)) base p ∧ wideY p.1 := by
  refine ⟨l1 ++ [(y, .slice (some ⟨g25, 0, none⟩) m c25)], by simp [hl], by rw [List.map_append, hm, ht]; rfl, ?_, ?_⟩
  · have h2 := (ho.stored (q * 5 + 3) (.slice (some ⟨g25, 0, none⟩) m c25)).1
    rw [ndsC_set _ q (y, s) _ (by rw [List.getElem?_append_right (by omega), hl, Nat.sub_self]; rfl), List.set_append, if_neg (by omega), hl, Nat.sub_self] at h2
    rw [List.append_assoc]
    exact h2
  · have hset : ∀ {u : Value} {m2 : Nat} {zs : List Value}, W.ownsRow base 3 1 u m2 zs → (W.setCell ⟨g, q * 5 + 3, none⟩ (.slice (some ⟨g25, 0, none⟩) m c25)).ownsRow base 3 1 u m2 zs := fun h => ownsRow_setCell_other h (fun e => own_two ho h ne_ND g e (by simp [Value.ownBlock])) _
    intro p hp
    rcases List.mem_append.1 hp with hp | hp
    · obtain ⟨⟨K, kc, e, h⟩, h5⟩ := hk p hp
      exact ⟨⟨K, kc, e, hset (own_below h hb)⟩, h5⟩
    · rw [List.mem_singleton] at hp
      subst hp
      refine ⟨⟨some ⟨g25, 0, none⟩, c25, by rw [hym], ?_⟩, hy⟩
      rw [hym, intsC_app]
      exact hset hi
theorem LentT.set_row1 {W : World} {base g i : Nat} {v : Value} {l : List NdV} {t : TypeId} {cs : Array Value} (h : LentT W base v l) (hr : Row W g t cs) (h1 : (37 : TypeId) ≠ t) (h2 : (3 : TypeId) ≠ t) (u : Value) : LentT (W.setCell ⟨g, i, none⟩ u) base v l := by
  obtain ⟨A, c, e, ho⟩ := h.row
  exact ⟨⟨A, c, e, ownsRow_setCell_other ho (row_ne hr ho h1) u⟩, fun p hp => by
    obtain ⟨K, kc, e, ho⟩ := h.kids p hp
    exact ⟨K, kc, e, ownsRow_setCell_other ho (row_ne hr ho h2) u⟩, h.wide⟩
end
end
section
set_option linter.unusedVariables false
set_option linter.unusedSimpArgs false
set_option linter.unnecessarySimpa false
open Go.RowKit
attribute [local go_sem] cell_alloc_add cell_set_add lt_more
set_option maxRecDepth 100000 in
set_option maxHeartbeats 16000000 in
theorem back_any (l : List NdV) (L : List Nd) (hlL : l.map (·.1) = L) (g n c base : Nat) (hn : l.length = n) (hnb : n ≤ 1000000) (hks : ∀ p ∈ l, p.1.ks.length ≤ 1000000000000) (A2 : Option Addr) (c2 : Nat) (hc2 : n ≤ c2) (hm2 : c2 ≤ maxLen) (w : World) (h : LentT w base (.slice (some ⟨g, 0, none⟩) n c) l) (h2 : TreeAt w w.heap.size A2 L) :
    Calls Tryz.prog 10 #[.agg #[.slice (some ⟨g, 0, none⟩) n c], .agg #[.slice A2 n c2]] w fun e w' => e = .returned (.bool true) ∧ Below w.heap.size w w' := by
  obtain ⟨wa, hwa⟩ : ∃ wa : World, wa = (w.alloc (.cells #[.slice (some ⟨g, 0, none⟩) n c] 24)).alloc (.cells #[.slice A2 n c2] 24) := ⟨_, rfl⟩
  have bA : Below w.heap.size w wa := by rw [hwa]; exact (by (exact bl))
  have zA : w.heap.size + 1 < wa.heap.size := by rw [hwa]; simp
  have rA : Row wa w.heap.size 24 #[.slice (some ⟨g, 0, none⟩) n c] := by rw [hwa]; exact (row_new rfl).alloc _
  have rB : Row wa (w.heap.size + 1) 24 #[.slice A2 n c2] := by rw [hwa]; exact row_new (by simp)
  obtain ⟨A', c', e, hc1, hm1, hT, g', e2, hmk⟩ := h.tree
  injection e with e1 ex e3
  clear ex
  subst e3
  rw [e2] at e1; injection e1 with e1; injection e1 with e1
  subst e1
  rw [hn] at hc1 hmk
  have hgl : g < w.heap.size := World.block_lt_of_cell? w _ hmk
  have hmk2 : wa.cell? ⟨g, n * 5, none⟩ = some (.int .i64 171) := (bA.cell (p := ⟨g, n * 5, none⟩) hgl).trans hmk
  have hl : Hid (LentT w base (.slice (some ⟨g, 0, none⟩) n c) l) := Lib.hid h
  have HN := Lib.hid hn
  have HLL := Lib.hid hlL
  have HKS := Lib.hid hks
  have HT2 := Lib.hid h2
  have a0 := rA.cell 0
  have b0 := rB.cell 0
  simp at a0 b0
  unfold maxLen at hm1 hm2
  have hwr : IntKind.i64.wrap ((n : Int) + 1) = ((n + 1 : Nat) : Int) := by rw [IntKind.wrap_i64]; omega
  have hcc : ((n + 1 : Nat) : Int) ≤ (c : Int) := by omega
  have hnn : ((n : Int) != (n : Int)) = false := by simp
  have hni : (n : Int) < ((n + 1 : Nat) : Int) := by omega
  clear h h2 hlL hks hn hT hmk e2
  go_enter Tryz.func10, Tryz.ntmps10
  go_upto_region 1 with fail
  rw [← hwa]
  clear hwa
  go_quiet (fail)
  go_wp2
  go_loopw [5] (fun t wr => ∃ q : Nat, t = .int .i64 (q : Int) ∧ q ≤ n ∧ Row wr w.heap.size 24 #[.slice (some ⟨g, 0, none⟩) n c] ∧ Row wr (w.heap.size + 1) 24 #[.slice A2 n c2] ∧ Below w.heap.size w wr) (fun t _ => n - (intOf t).toNat)
  case atStart => exact ⟨0, rfl, Nat.zero_le _, rA, rB, below_drewN bA _⟩
  case round =>
    obtain ⟨q, rfl, hq, rA, rB, hb⟩ := hrel
    clear hmk2 a0 b0 bA zA
    generalize hwo : wr = wo at *
    clear hwo
    have hz := Below.size hb
    have lA := rA.lt
    have lB := rB.lt
    have a0 := rA.cell 0
    have b0 := rB.cell 0
    simp at a0 b0
    by_cases hlt : q < n
    · have hql : q < l.length := by rw [HN.out]; exact hlt
      rcases hp0 : l[q] with ⟨y, S⟩
      have hat : l[q]? = some (y, S) := by rw [List.getElem?_eq_getElem hql, hp0]
      have hpl : (y, S) ∈ l := List.mem_of_getElem? hat
      obtain ⟨A', c', e, ho⟩ := hl.out.row
      injection e with e1 ex e3
      clear ex
      subst e1 e3
      have hnd : nd L q = y := by
        have h1 : L[q]? = some y := by rw [← HLL.out, List.getElem?_map, hat]; rfl
        have hqL : q < L.length := (List.getElem?_eq_some_iff.1 h1).1
        rw [nd_get hqL] at h1
        exact Option.some.inj h1
      have hqL : q < L.length := by rw [← HLL.out, List.length_map]; exact hql
      obtain ⟨K, kc, eS, hrK, hk1, hk2, gK, eK, hmK⟩ := lentK_rd (hl.out.kids (y, S) hpl)
      simp only at eS hrK hk1 hmK
      subst eS eK
      have hks0 := HKS.out _ hpl
      simp only at hks0
      have nc : ∀ i, i < 5 → wo.cell? ⟨g, q * 5 + i, none⟩ = (ndC (y, Value.slice (some ⟨gK, 0, none⟩) y.ks.length kc))[i]? := fun i hi =>
        (hb.cell (p := ⟨g, q * 5 + i, none⟩) hgl).trans ((ho.cellAt (q * 5 + i) (by rw [HN.out]; omega)).trans (ndsC_take hat i hi [markN]))
      have n0 := nc 0 (by omega)
      have n1 := nc 1 (by omega)
      have n2 := nc 2 (by omega)
      have n3 := nc 3 (by omega)
      have n4 := nc 4 (by omega)
      simp only [ndC, Nat.add_zero] at n0 n1 n2 n3 n4
      have hgK : gK < w.heap.size := World.block_lt_of_cell? w _ hmK
      have mK : wo.cell? ⟨gK, y.ks.length, none⟩ = some (.int .i64 171) := (hb.cell (p := ⟨gK, y.ks.length, none⟩) hgK).trans hmK
      obtain ⟨ad, rfl, hn⟩ := HT2.out q hqL
      rw [hnd] at hn
      have hn' := hn.keep (W' := wo) (fun p hp => hb.cell hp)
      have hbq : (ad.add (q * 5)).block < wo.heap.size := Nat.lt_of_lt_of_le hn.blk hz
      have hba : ad.block < wo.heap.size := by rw [block_add] at hbq; exact hbq
      obtain ⟨K2, kc2, c0, c1, c2', c3, c4, hK2, hkk2, hkm2⟩ := node_open hn'
      have hgo : g < wo.heap.size := by omega
      have hgKo : gK < wo.heap.size := by omega
      have HRK := Lib.hid ((hrK.below hb).more hz)
      have HRK2 := Lib.hid (hK2.more hz)
      clear hat hpl hp0 ho hnd hn hn' hrK hK2 hmK nc
      obtain ⟨yk, yx, ym, yks, yp⟩ := y
      simp only at n0 n1 n2 n3 n4 mK c0 c1 c2' c3 c4 hks0 hk1 hk2 hkk2 HRK HRK2
      have HI := Lib.hid (fun W (hb2 : Below wo.heap.size wo W) => ints_any yks yks (some ⟨gK, 0, none⟩) K2 yks.length kc yks.length kc2 rfl rfl (by omega) hkk2 hk2 hkm2 W ((HRK.out.below hb2).more hb2.size) ((HRK2.out.below hb2).more hb2.size))
      rw [show eqI yks yks = true from by simp [eqI]] at HI
      generalize yks.length = m at *
      unfold maxLen at hk2 hkm2
      have hqi : (q : Int) < (n : Int) := by omega
      have hwm : IntKind.i64.wrap ((m : Int) + 1) = ((m + 1 : Nat) : Int) := by rw [IntKind.wrap_i64]; omega
      have hmc : ((m + 1 : Nat) : Int) ≤ (kc : Int) := by omega
      have hmi : (m : Int) < ((m + 1 : Nat) : Int) := by omega
      clear hwr hcc hnn hni
      obtain ⟨wb, hwb⟩ : ∃ wb : World, wb = wo.alloc (.cells #[.int .i64 yk, .string yx, .int .i64 ym, .slice K2 m kc2, .int .i64 yp] 37) := ⟨_, rfl⟩
      go_upto_region 8 with fail
      rw [← hwb]
      obtain ⟨gY, hgY⟩ : ∃ gY, gY = wo.heap.size := ⟨_, rfl⟩
      have bB : Below wo.heap.size wo wb := by rw [hwb]; exact (Below.refl _ _).alloc (Nat.le_refl _) _
      have rY : Row wb gY 37 #[.int .i64 yk, .string yx, .int .i64 ym, .slice K2 m kc2, .int .i64 yp] := by rw [hwb]; exact row_new hgY
      rw [← hgY]
      have lY := rY.lt
      have rA' := rA.below bB lA
      have rB' := rB.below bB lB
      have lA' := rA'.lt
      have lB' := rB'.lt
      have gl : g < wb.heap.size := by have := bB.size; omega
      have gKl : gK < wb.heap.size := by have := bB.size; omega
      have hbb := hb.trans (bB.mono hz)
      have hzb := Below.size hbb
      have KI := Lib.hid (fun x : Later wb => HI.out x.w (bB.trans (x.h.mono bB.size)))
      have La : ∀ x : Later wb, x.w.cell? ⟨w.heap.size, 0, none⟩ = some (.slice (some ⟨g, 0, none⟩) n c) := fun x => (x.cell lA').trans (rA'.cell 0)
      have Lb : ∀ x : Later wb, x.w.cell? ⟨w.heap.size + 1, 0, none⟩ = some (.slice (some ad) n c2) := fun x => (x.cell lB').trans (rB'.cell 0)
      have L0 : ∀ x : Later wb, x.w.cell? ⟨g, q * 5, none⟩ = some (.int .i64 yk) := fun x => (x.cell gl).trans ((bB.cell (p := ⟨g, q * 5, none⟩) hgo).trans n0)
      have L1 : ∀ x : Later wb, x.w.cell? ⟨g, q * 5 + 1, none⟩ = some (.string yx) := fun x => (x.cell gl).trans ((bB.cell (p := ⟨g, q * 5 + 1, none⟩) hgo).trans n1)
      have L2 : ∀ x : Later wb, x.w.cell? ⟨g, q * 5 + 2, none⟩ = some (.int .i64 ym) := fun x => (x.cell gl).trans ((bB.cell (p := ⟨g, q * 5 + 2, none⟩) hgo).trans n2)
      have L4 : ∀ x : Later wb, x.w.cell? ⟨g, q * 5 + 4, none⟩ = some (.int .i64 yp) := fun x => (x.cell gl).trans ((bB.cell (p := ⟨g, q * 5 + 4, none⟩) hgo).trans n4)
      have LK : ∀ x : Later wb, x.w.cell? ⟨gK, m, none⟩ = some (.int .i64 171) := fun x => (x.cell gKl).trans ((bB.cell (p := ⟨gK, m, none⟩) hgKo).trans mK)
      have Y0 : ∀ x : Later wb, x.w.cell? ⟨gY, 0, none⟩ = some (.int .i64 yk) := fun x => (x.cell lY).trans (rY.cell 0)
      have Y1 : ∀ x : Later wb, x.w.cell? ⟨gY, 1, none⟩ = some (.string yx) := fun x => (x.cell lY).trans (rY.cell 1)
      have Y2 : ∀ x : Later wb, x.w.cell? ⟨gY, 2, none⟩ = some (.int .i64 ym) := fun x => (x.cell lY).trans (rY.cell 2)
      have Y3 : ∀ x : Later wb, x.w.cell? ⟨gY, 3, none⟩ = some (.slice K2 m kc2) := fun x => (x.cell lY).trans (rY.cell 3)
      have Y4 : ∀ x : Later wb, x.w.cell? ⟨gY, 4, none⟩ = some (.int .i64 yp) := fun x => (x.cell lY).trans (rY.cell 4)
      have LW : Below wb.heap.size wb wb := Below.refl _ _
      clear hwb hgY n0 n1 n2 n3 n4 mK c0 c1 c2' c3 c4 a0 b0
      refine wp_region_later wb LW (by kernel_rfl) (by kernel_rfl) ?_
      repeat (first | go_big_quiet_step (with_reducible exact Later.call (KI.out _)) | quiet_step (with_reducible exact Later.call (KI.out _)))
      refine wpQuiet_nil ?_
      intro _ hw'
      obtain ⟨xq, hw''⟩ := hw'
      subst hw''
      go_wp2
      exact ⟨⟨q + 1, by go_num, by omega, rA'.below xq.h lA', rB'.below xq.h lB', hbb.trans (xq.h.mono hzb)⟩, by simp [intOf]; omega⟩
    · obtain rfl : q = n := by omega
      go_wp2
      go_ret
      exact ⟨rfl, hb⟩
end
end Go.Proofs.YtpkdhciokiomlaaGreatDoor
