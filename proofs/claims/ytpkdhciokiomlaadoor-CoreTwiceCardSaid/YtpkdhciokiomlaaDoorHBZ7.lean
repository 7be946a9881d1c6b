/- Some texts of this claim, put together. -/
import Derived.Test.YtpkdhciokiomlaaDoorHBZ11
import Derived.Test.YtpkdhciokiomlaaDoorHBZ6
import Derived.Test.YtpkdhciokiomlaaDoorHBZ4
namespace Go.Proofs.YtpkdhciokiomlaaDoor
section
set_option linter.unusedVariables false
set_option linter.unusedSimpArgs false
set_option linter.unnecessarySimpa false
open Go.RowKit
/-- A node, and the slice of its kids. -/
abbrev NdV := Nd × Value
def ndC (p : NdV) : List Value := [.int .i64 p.1.k, .string p.1.x, .int .i64 p.1.m, p.2, .int .i64 p.1.p]
def ndsC (l : List NdV) : List Value := l.flatMap ndC
def intsC (l : List Int) : List Value := l.map (Value.int .i64)
theorem ndsC_len : ∀ l : List NdV, (ndsC l).length = l.length * 5
  | [] => rfl
  | p :: l => by
    have := ndsC_len l
    simp only [ndsC, List.flatMap_cons, List.length_append, List.length_cons] at this ⊢
    rw [this]; simp [ndC]; omega
theorem ndsC_snoc (l : List NdV) (p : NdV) : ndsC (l ++ [p]) = ndsC l ++ ndC p := by simp [ndsC]
theorem ndsC_app (l m : List NdV) : ndsC (l ++ m) = ndsC l ++ ndsC m := by simp [ndsC]
theorem ndsC_at : ∀ (l : List NdV) (j : Nat) (p : NdV), l[j]? = some p → ∀ i, i < 5 → (ndsC l)[j * 5 + i]? = (ndC p)[i]?
  | [], j, p, h, i, hi => by simp at h
  | q :: l, 0, p, h, i, hi => by
    simp at h; subst h
    show (ndC q ++ ndsC l)[0 * 5 + i]? = _
    rw [List.getElem?_append_left (by simp [ndC]; omega)]; simp
  | q :: l, j + 1, p, h, i, hi => by
    simp at h
    show (ndC q ++ ndsC l)[(j + 1) * 5 + i]? = _
    rw [List.getElem?_append_right (by simp [ndC]; omega)]
    have e : (j + 1) * 5 + i - (ndC q).length = j * 5 + i := by simp [ndC]; omega
    rw [e]; exact ndsC_at l j p h i hi
theorem ndsC_set : ∀ (l : List NdV) (j : Nat) (p : NdV) (v : Value), l[j]? = some p → (ndsC l).set (j * 5 + 3) v = ndsC (l.set j (p.1, v))
  | [], j, p, v, h => by simp at h
  | q :: l, 0, p, v, h => by
    simp at h; subst h
    simp [ndsC, ndC]
  | q :: l, j + 1, p, v, h => by
    simp at h
    show (ndC q ++ ndsC l).set ((j + 1) * 5 + 3) v = ndC q ++ ndsC (l.set j (p.1, v))
    rw [← ndsC_set l j p v h, List.set_append, if_neg (by simp [ndC]; omega)]
    congr 2
    simp [ndC]; omega
def wideY (y : Nd) : Prop := (-9223372036854775808 ≤ y.m ∧ y.m ≤ 9223372036854775807) ∧ ∀ k ∈ y.ks, -9223372036854775808 ≤ k ∧ k ≤ 9223372036854775807
/-- Each node's kids lie in a row of their own. -/
structure Kids (W : World) (base : Nat) (l : List NdV) : Prop where
  row : ∀ p ∈ l, W.ownsRow base 3 1 p.2 p.1.ks.length (intsC p.1.ks)
  apart : l.Pairwise fun p q => ∀ g, p.2.ownBlock = some g → q.2.ownBlock ≠ some g
  wide : ∀ p ∈ l, wideY p.1
structure OwnT (W : World) (base : Nat) (v : Value) (l : List NdV) : Prop where
  row : W.ownsRow base 35 5 v l.length (ndsC l)
  kids : Kids W base l
theorem own_mono {W : World} {base B size n : Nat} {e : TypeId} {v : Value} {xs : List Value} (h : W.ownsRow base e size v n xs) (hB : B ≤ base) : W.ownsRow B e size v n xs := by
  obtain ⟨hl, hh⟩ := h
  refine ⟨hl, ?_⟩
  rcases hh with hh | ⟨b, cap, cur, hv, hb, hc, h3, h4, h5, h6⟩
  · exact .inl hh
  · exact .inr ⟨b, cap, cur, hv, by omega, hc, h3, h4, h5, h6⟩
theorem Kids.nil (W : World) (base : Nat) : Kids W base [] := ⟨(fun p h => by cases h), List.Pairwise.nil, (fun p h => by cases h)⟩
section
variable {W W' : World} {base : Nat} {l : List NdV} {v : Value}
theorem Kids.below (h : Kids W base l) (hb : Below W.heap.size W W') : Kids W' base l := ⟨fun p hp => own_below (h.row p hp) hb, h.apart, h.wide⟩
theorem Kids.grown {row : Option Nat} (h : Kids W base l) (hg : W.grownBy W' row) (hne : ∀ p ∈ l, ∀ g, p.2.ownBlock = some g → row ≠ some g) : Kids W' base l := ⟨fun p hp => own_grown (h.row p hp) hg (hne p hp), h.apart, h.wide⟩
theorem ne_ND : (35 : TypeId) ≠ 3 := by decide
theorem Kids.grown_nd {b n : Nat} {u : Value} {xs : List Value} (h : Kids W base l) (ho : W.ownsRow b 35 5 u n xs) (hg : W.grownBy W' u.ownBlock) : Kids W' base l :=
  h.grown hg fun p hp g hv hu => own_two ho (h.row p hp) ne_ND g hv hu
theorem Kids.mono {b : Nat} (h : Kids W base l) (hb : b ≤ base) : Kids W b l := ⟨fun p hp => own_mono (h.row p hp) hb, h.apart, h.wide⟩
theorem Kids.app {m : List NdV} {B : Nat} (h : Kids W base l) (k : Kids W base m) (h1 : ∀ p ∈ l, ∀ g, p.2.ownBlock = some g → g < B) (h2 : ∀ p ∈ m, ∀ g, p.2.ownBlock = some g → B ≤ g) : Kids W base (l ++ m) :=
  ⟨fun p hp => (List.mem_append.1 hp).elim (h.row p) (k.row p), List.pairwise_append.2 ⟨h.apart, k.apart, fun p hp q hq g e1 e2 => by have := h1 p hp g e1; have := h2 q hq g e2; omega⟩, fun p hp => (List.mem_append.1 hp).elim (h.wide p) (k.wide p)⟩
theorem Kids.one {y : Nd} (h : W.ownsRow base 3 1 v y.ks.length (intsC y.ks)) (hw : wideY y) : Kids W base [(y, v)] :=
  ⟨fun p hp => by simp at hp; subst hp; exact h, by simp, fun p hp => by simp at hp; subst hp; exact hw⟩
theorem Kids.lt (h : Kids W base l) : ∀ p ∈ l, ∀ g, p.2.ownBlock = some g → g < W.heap.size := fun p hp => own_lt (h.row p hp)
theorem Kids.ge (h : Kids W base l) : ∀ p ∈ l, ∀ g, p.2.ownBlock = some g → base ≤ g := fun p hp => own_ge (h.row p hp)
theorem OwnT.below (h : OwnT W base v l) (hb : Below W.heap.size W W') : OwnT W' base v l := ⟨own_below h.row hb, h.kids.below hb⟩
theorem OwnT.mono {b : Nat} (h : OwnT W base v l) (hb : b ≤ base) : OwnT W b v l := ⟨own_mono h.row hb, h.kids.mono hb⟩
theorem ksV_get {ks : List Int} {j : Nat} (hj : j < ks.length) : (intsC ks)[j]? = some (ksV ks j) := by simp [intsC, ksV, hj, List.getD]
theorem own_slice {e : TypeId} {size n : Nat} {xs : List Value} (h : W.ownsRow base e size v n xs) : ∃ A c, v = .slice A n c ∧ n ≤ c ∧ c ≤ maxLen := by
  rcases h.2 with ⟨rfl, rfl⟩ | ⟨g, cap, cur, rfl, _, _, h1, h2, _⟩
  · exact ⟨none, 0, rfl, Nat.le_refl _, Nat.zero_le _⟩
  · exact ⟨_, _, rfl, h1, h2⟩
theorem own_ints {ks : List Int} (h : W.ownsRow base 3 1 v ks.length (intsC ks)) : ∃ K kc, v = .slice K ks.length kc ∧ Rd W W.heap.size K ks.length (ksV ks) ∧ ks.length ≤ kc ∧ kc ≤ maxLen := by
  obtain ⟨A, c, rfl, h1, h2⟩ := own_slice h
  refine ⟨A, c, rfl, Rd.of_own h (fun j hj => ksV_get hj), h1, h2⟩
theorem nd_get {L : List Nd} {j : Nat} (hj : j < L.length) : L[j]? = some (nd L j) := by
  rw [nd_nat, List.getD_eq_getElem?_getD, List.getElem?_eq_getElem hj]; rfl
theorem OwnT.tree (h : OwnT W base v l) : ∃ A c, v = .slice A l.length c ∧ l.length ≤ c ∧ c ≤ maxLen ∧ TreeAt W W.heap.size A (l.map (·.1)) := by
  obtain ⟨A, c, rfl, h1, h2⟩ := own_slice h.row
  refine ⟨A, c, rfl, h1, h2, fun j hj => ?_⟩
  rw [List.length_map] at hj
  obtain ⟨g, cap, hv, _, hlt⟩ := h.row.form (by omega)
  injection hv with hA _ _
  subst hA
  obtain ⟨p, hp⟩ : ∃ p, l[j]? = some p := ⟨l[j], List.getElem?_eq_getElem hj⟩
  have hpl : p ∈ l := List.mem_of_getElem? hp
  have hy : nd (l.map (·.1)) j = p.1 := by
    have := nd_get (L := l.map (·.1)) (j := j) (by rw [List.length_map]; exact hj)
    rw [List.getElem?_map, hp] at this
    simpa using this.symm
  rw [hy]
  have hc : ∀ i, i < 5 → W.cell? ⟨g, j * 5 + i, none⟩ = (ndC p)[i]? := fun i hi => by
    rw [← ndsC_at l j p hp i hi]
    have := h.row.cells (g := g) rfl (j * 5 + i)
    have hl := ndsC_len l
    have hlt2 : j * 5 + i < (ndsC l).length := by omega
    rw [List.getElem?_eq_getElem hlt2]
    have h3 := this _ (List.getElem?_eq_getElem hlt2)
    rwa [add_row, Nat.zero_add] at h3
  refine ⟨⟨g, 0, none⟩, rfl, ?_⟩
  rw [add_row, Nat.zero_add]
  obtain ⟨K, kc, hK, hr, k1, k2⟩ := own_ints (h.kids.row p hpl)
  exact ⟨hlt, hc 0 (by omega), hc 1 (by omega), hc 2 (by omega), hc 4 (by omega), (h.kids.wide p hpl).1, (h.kids.wide p hpl).2, K, kc, (hc 3 (by omega)).trans (by show some p.2 = _; rw [hK]), hr, k1, k2⟩
/-- One node more, behind an append. -/
theorem OwnT.snoc {p : NdV} {v' : Value} (h : OwnT W base v l) (h2 : W'.ownsRow base 35 5 v' (l.length + 1) (ndsC l ++ ndC p)) (hg : W.grownBy W' v.ownBlock) (hp : W.ownsRow base 3 1 p.2 p.1.ks.length (intsC p.1.ks)) (hw : wideY p.1)
    (hap : ∀ q ∈ l, ∀ g, q.2.ownBlock = some g → p.2.ownBlock ≠ some g) : OwnT W' base v' (l ++ [p]) := by
  have hk : Kids W base (l ++ [p]) := ⟨fun q hq => by
      rcases List.mem_append.1 hq with hq | hq
      · exact h.kids.row q hq
      · simp at hq; subst hq; exact hp, List.pairwise_append.2 ⟨h.kids.apart, by simp, fun q hq r hr g e => by simp at hr; subst hr; exact hap q hq g e⟩, fun q hq => by
      rcases List.mem_append.1 hq with hq | hq
      · exact h.kids.wide q hq
      · simp at hq; subst hq; exact hw⟩
  exact ⟨by rw [List.length_append, ndsC_snoc]; exact h2, hk.grown_nd h.row hg⟩
end
/-- A node whose kids' numbers are so much later. -/
def shN (z : Int) (y : Nd) : Nd := { y with ks := y.ks.map fun k => IntKind.i64.wrap (k + z) }
theorem wrap_wide (z : Int) : -9223372036854775808 ≤ IntKind.i64.wrap z ∧ IntKind.i64.wrap z ≤ 9223372036854775807 := by
  rw [IntKind.wrap_i64]; omega
theorem shN_wide {y : Nd} (z : Int) (h : -9223372036854775808 ≤ y.m ∧ y.m ≤ 9223372036854775807) : wideY (shN z y) := ⟨h, fun k hk => by
  obtain ⟨a, _, rfl⟩ := List.mem_map.1 hk
  exact wrap_wide _⟩
end
section
set_option linter.unusedVariables false
set_option linter.unusedSimpArgs false
set_option linter.unnecessarySimpa false
open Go.RowKit
/-- The root's kids and the nodes behind the root, once these trees are laid behind the others. -/
def mkA : List Int → List Nd → List (List Nd) → List Int × List Nd
  | ks, acc, [] => (ks, acc)
  | ks, acc, l :: ls => if l.length = 0 then mkA ks acc ls else mkA (ks ++ [((acc.length + 1 : Nat) : Int)]) (acc ++ l.map (shN ((acc.length + 1 : Nat) : Int))) ls
def mkL (y : Nd) (Ls : List (List Nd)) : List Nd := ⟨y.k, y.x, y.m, (mkA [] [] Ls).1, y.p⟩ :: (mkA [] [] Ls).2
def sumL (Ls : List (List Nd)) : Nat := (Ls.map List.length).sum
theorem mkA_nil (ks : List Int) (acc : List Nd) : mkA ks acc [] = (ks, acc) := rfl
theorem mkA_skip {ks : List Int} {acc : List Nd} {l : List Nd} {ls : List (List Nd)} (h : l.length = 0) : mkA ks acc (l :: ls) = mkA ks acc ls := by
  show (if l.length = 0 then _ else _) = _; rw [if_pos h]
theorem mkA_step {ks : List Int} {acc : List Nd} {l : List Nd} {ls : List (List Nd)} (h : l.length ≠ 0) : mkA ks acc (l :: ls) = mkA (ks ++ [((acc.length + 1 : Nat) : Int)]) (acc ++ l.map (shN ((acc.length + 1 : Nat) : Int))) ls := by
  show (if l.length = 0 then _ else _) = _; rw [if_neg h]
theorem drop_L {α : Type} {Ls : List α} {q : Nat} (d : α) (h : q < Ls.length) : Ls.drop q = Ls.getD q d :: Ls.drop (q + 1) := by
  rw [List.drop_eq_getElem_cons h]; congr 1; simp [List.getD, h]
theorem sumL_cons (l : List Nd) (ls : List (List Nd)) : sumL (l :: ls) = l.length + sumL ls := by simp [sumL]
/-- A row of trees lies at K. -/
def Forest (W : World) (B : Nat) (K : Option Addr) (Ls : List (List Nd)) : Prop :=
  ∀ j, j < Ls.length → ∃ ad A c, K = some ad ∧ ad.block < B ∧ W.cell? (ad.add j) = some (.slice A (Ls.getD j []).length c) ∧ (Ls.getD j []).length ≤ c ∧ c ≤ maxLen ∧ TreeAt W B A (Ls.getD j [])
section
variable {W W' : World} {B B' : Nat} {K : Option Addr} {Ls : List (List Nd)}
theorem Forest.keep (h : Forest W B K Ls) (hk : ∀ p : Addr, p.block < B → W'.cell? p = W.cell? p) : Forest W' B K Ls := fun j hj => by
  obtain ⟨ad, A, c, e, hb, hc, h1, h2, h3⟩ := h j hj
  exact ⟨ad, A, c, e, hb, (hk _ (by rw [block_add]; exact hb)).trans hc, h1, h2, h3.keep hk⟩
theorem Forest.more (h : Forest W B K Ls) (hB : B ≤ B') : Forest W B' K Ls := fun j hj => by
  obtain ⟨ad, A, c, e, hb, hc, h1, h2, h3⟩ := h j hj
  exact ⟨ad, A, c, e, by omega, hc, h1, h2, h3.more hB⟩
theorem Forest.below (h : Forest W B K Ls) (hb : Below B W W') : Forest W' B K Ls := h.keep fun _ hp => hb.cell hp
theorem Forest.later (h : Forest W W.heap.size K Ls) (hb : Below W.heap.size W W') : Forest W' W'.heap.size K Ls := (h.below hb).more hb.size
end
section
variable {W W' : World} {base : Nat} {l : List NdV} {v : Value}
theorem row_ne {g b size n : Nat} {t e : TypeId} {cs : Array Value} {xs : List Value} (h : Row W g t cs) (ho : W.ownsRow b e size v n xs) (hne : e ≠ t) : v.ownBlock ≠ some g := fun hv => by
  obtain ⟨cur, fr, hh⟩ := own_type ho hv
  unfold Row at h
  rw [h] at hh
  injection hh with hh
  injection hh with _ hh _
  exact hne hh.symm
theorem own_form5 {n c : Nat} {A : Option Addr} {xs : List Value} {e : TypeId} {size : Nat} (h : W.ownsRow base e size (.slice A n c) n xs) (hn : 0 < n) : ∃ g, A = some ⟨g, 0, none⟩ ∧ base ≤ g ∧ g < W.heap.size := by
  obtain ⟨g, cap, hv, h1, h2⟩ := h.form hn
  injection hv with hA _ _
  exact ⟨g, hA, h1, h2⟩
/-- The root's kids, one more, behind an append and a store. -/
theorem OwnT.head {y : Nd} {S S' : Value} {ks : List Int} {g n c : Nat} (h : OwnT W base (.slice (some ⟨g, 0, none⟩) n c) ((y, S) :: l)) (hn : n = l.length + 1) (hr : W'.ownsRow base 3 1 S' ks.length (intsC ks)) (hg : W.grownBy W' S.ownBlock) (hob : S'.ownBlock = S.ownBlock ∨ S'.ownBlock = some W.heap.size)
    (hw : ∀ k ∈ ks, -9223372036854775808 ≤ k ∧ k ≤ 9223372036854775807) : OwnT (W'.setCell ⟨g, 3, none⟩ S') base (.slice (some ⟨g, 0, none⟩) n c) ((⟨y.k, y.x, y.m, ks, y.p⟩, S') :: l) := by
  have hne : ∀ b, S.ownBlock = some b → (Value.slice (some ⟨g, 0, none⟩) n c).ownBlock ≠ some b := own_two h.row (h.kids.row (y, S) (by simp)) ne_ND
  have h0 := h.row
  rw [show ((y, S) :: l).length = n by rw [List.length_cons]; omega] at h0
  have h1 : W'.ownsRow base 35 5 (.slice (some ⟨g, 0, none⟩) n c) n (ndsC ((y, S) :: l)) := own_grown h0 hg (fun b e e2 => hne b e2 e)
  have h2 := (h1.stored 3 S').1
  rw [show (3 : Nat) = 0 * 5 + 3 from rfl, ndsC_set ((y, S) :: l) 0 (y, S) S' (by simp)] at h2
  have hap := List.pairwise_cons.1 h.kids.apart
  have hk : ∀ p ∈ l, W'.ownsRow base 3 1 p.2 p.1.ks.length (intsC p.1.ks) := fun p hp => own_grown (h.kids.row p (by simp [hp])) hg (fun b e e2 => hap.1 p hp b e2 e)
  have hset : ∀ {u : Value} {m : Nat} {zs : List Value}, W'.ownsRow base 3 1 u m zs → (W'.setCell ⟨g, 3, none⟩ S').ownsRow base 3 1 u m zs := fun ho => ownsRow_setCell_other ho (fun e => own_two h1 ho ne_ND g e (by simp [Value.ownBlock])) _
  refine ⟨?_, ⟨?_, ?_, ?_⟩⟩
  · rw [show ((⟨y.k, y.x, y.m, ks, y.p⟩, S') :: l : List NdV).length = n by rw [List.length_cons]; omega]
    exact h2
  · intro p hp
    rcases List.mem_cons.1 hp with rfl | hp
    · exact hset hr
    · exact hset (hk p hp)
  · refine List.pairwise_cons.2 ⟨fun p hp b e => ?_, hap.2⟩
    rcases hob with hob | hob
    · exact hap.1 p hp b (hob ▸ e)
    · intro e2
      have := h.kids.lt p (by simp [hp]) b e2
      have hb : b = W.heap.size := by rw [hob] at e; injection e with e; exact e.symm
      omega
  · intro p hp
    rcases List.mem_cons.1 hp with rfl | hp
    · exact ⟨(h.kids.wide (y, S) (by simp)).1, hw⟩
    · exact h.kids.wide p (by simp [hp])
/-- Many nodes more, behind an append of what another call made. -/
theorem OwnT.app {m : List NdV} {v2 v' : Value} {B : Nat} (h : OwnT W base v l) (k : OwnT W B v2 m) (hB : base ≤ B) (h1 : ∀ p ∈ l, ∀ g, p.2.ownBlock = some g → g < B) (h2 : W'.ownsRow base 35 5 v' (l.length + m.length) (ndsC l ++ ndsC m)) (hg : W.grownBy W' v.ownBlock) : OwnT W' base v' (l ++ m) := by
  have hk := h.kids.app (k.kids.mono hB) h1 (k.kids.ge)
  exact ⟨by rw [List.length_append, ndsC_app]; exact h2, hk.grown_nd h.row hg⟩
theorem ndsC_one (h : Kids W base l) : ∀ u ∈ ndsC l, u.oneCell' = true := by
  intro u hu
  obtain ⟨p, hp, hu⟩ := List.mem_flatMap.1 hu
  obtain ⟨A, c, e, _⟩ := own_slice (h.row p hp)
  simp [ndC] at hu
  rcases hu with rfl | rfl | rfl | rfl | rfl
  all_goals first | rfl | (rw [e]; rfl)
end
theorem ndsC_3 (p : NdV) (l : List NdV) : (ndsC (p :: l))[3]? = some p.2 := by
  have := ndsC_at (p :: l) 0 p rfl 3 (by omega)
  simpa [ndC] using this
theorem OwnT.set_row {W : World} {base g i : Nat} {v : Value} {l : List NdV} {t : TypeId} {cs : Array Value} (h : OwnT W base v l) (hr : Row W g t cs) (h1 : (35 : TypeId) ≠ t) (h2 : (3 : TypeId) ≠ t) (u : Value) : OwnT (W.setCell ⟨g, i, none⟩ u) base v l :=
  ⟨ownsRow_setCell_other h.row (row_ne hr h.row h1) u, ⟨fun p hp => ownsRow_setCell_other (h.kids.row p hp) (row_ne hr (h.kids.row p hp) h2) u, h.kids.apart, h.kids.wide⟩⟩
theorem OwnT.far {W : World} {base : Nat} {v : Value} {l : List NdV} (h : OwnT W base v l) {a : Addr} (ha : a.block < base) (u : Value) : OwnT (W.setCell a u) base v l :=
  ⟨ownsRow_setCell_below h.row ha u, ⟨fun p hp => ownsRow_setCell_below (h.kids.row p hp) ha u, h.kids.apart, h.kids.wide⟩⟩
end
section
set_option linter.unusedVariables false
set_option linter.unusedSimpArgs false
set_option linter.unnecessarySimpa false
open Go.RowKit
/-- Which kid of a kind is emptied. -/
def emptied (k : Int) (i : Nat) : Bool :=
  if k = 22 ∨ k = 43 ∨ k = 40 ∨ k = 44 ∨ k = 66 then i == 0 else if k = 27 ∨ k = 28 then i == 1 else if k = 41 ∨ k = 45 ∨ k = 42 then i == 0 || i == 2 else false
/-- A node that is left out of a row. -/
def leftB (L : List Nd) : Nat → Int → Bool
  | 0, _ => false
  | f + 1, n => if (nd L n).k = 51 ∨ (nd L n).k = 52 then true else if (nd L n).k = 50 then leftB L f ((nd L n).ks.getD 0 0) else if (nd L n).k = 44 then (nd L ((nd L n).ks.getD 1 0)).k == 1 else false
/-- The marks that stay. -/
def normN (x : Nd) : Nd := if x.k = 44 then { x with m := 0 } else if x.k = 66 then { x with m := if 2 ≤ x.m then 2 else 0 } else x
/-- A node without kids in the place of another one. -/
def oneN (y : Nd) : Nd := ⟨if y.k = 2 then 2 else 1, ⟨#[]⟩, 0, [], y.p⟩
/-- The parts that a row of kids leaves, each kid by its number in the row. -/
def partsL (P : Nat → Int → List (List Nd)) : Nat → List Int → List (List Nd)
  | _, [] => []
  | i, y :: ks => P i y ++ partsL P (i + 1) ks
/-- What a kid of a node leaves: an emptied one, nothing, or itself, stripped. -/
def stepS (L : List Nd) (g : Int → List Nd) (k : Int) (i : Nat) (y : Int) : List (List Nd) := if emptied k i then [[oneN (nd L y)]] else if leftB L L.length y then [] else [g y]
/-- A node and all beneath it, stripped. -/
def stripL (L : List Nd) : Nat → Int → List Nd
  | 0, _ => []
  | f + 1, n => if (nd L n).k = 33 ∨ (nd L n).k = 34 then stripL L f ((nd L n).ks.getD 0 0) else mkL (normN (nd L n)) (partsL (stepS L (stripL L f) (nd L n).k) 0 (nd L n).ks)
/-- What Strip answers. -/
def stripT (L : List Nd) : List Nd × Int := if (chk L).2 = 0 ∧ ((nd L 0).k = 3 ∨ exprK (nd L 0).k = true) then (stripL L L.length 0, 0) else ([], 7)
theorem each_at {L : List Nd} {ps : List Plc} : ∀ (ks : List Int) (i : Nat), eachP L ps i ks = true → ∀ q, q < ks.length → (ps.getD (min (i + q) (ps.length - 1)) anyP) L (ks.getD q 0) = true
  | [], _, _, q, hq => absurd hq (by simp)
  | k :: ks, i, h, q, hq => by
    have h' := Bool.and_eq_true_iff.1 (show ((ps.getD (min i (ps.length - 1)) anyP) L k && eachP L ps (i + 1) ks) = true from h)
    cases q with
    | zero => simpa using h'.1
    | succ q =>
      have := each_at ks (i + 1) h'.2 q (by simpa using hq)
      rw [show i + 1 + q = i + (q + 1) by omega] at this
      simpa using this
theorem kid0 {L : List Nd} {n : Int} (h : fitsB L n = true) (hk : (nd L n).k = 33 ∨ (nd L n).k = 34) : 0 < (nd L n).ks.length := by
  have h1 := (Bool.and_eq_true_iff.1 (show (saidB (nd L n) && kidsP L (nd L n)) = true from h)).2
  unfold kidsP at h1
  have h2 := (Bool.and_eq_true_iff.1 h1).2
  rw [if_neg (by omega), if_neg (by omega)] at h2
  rcases hk with hk | hk
  · rw [hk, show tab 33 = some ([exprP, typeP], false) by simp [tab]] at h2
    simp at h2; omega
  · rw [hk, show tab 34 = some ([exprP], false) by simp [tab]] at h2
    simp at h2; omega
theorem export_kid {L : List Nd} {n : Int} (h : fitsB L n = true) (hk : (nd L n).k = 50) : (nd L n).ks.length = 1 ∧ expK (nd L ((nd L n).ks.getD 0 0)) = true := by
  have h1 := (Bool.and_eq_true_iff.1 (show (saidB (nd L n) && kidsP L (nd L n)) = true from h)).2
  unfold kidsP at h1
  have h2 := (Bool.and_eq_true_iff.1 h1).2
  rw [if_neg (by omega), if_neg (by omega), hk, show tab 50 = some ([expP], false) by simp [tab]] at h2
  simp only [Bool.and_eq_true, Bool.false_or, decide_eq_true_eq, List.length_cons, List.length_nil] at h2
  have h3 := each_at _ _ h2.1.2 0 (by omega)
  exact ⟨h2.1.1.symm, by simpa [expP] using h3⟩
end
end Go.Proofs.YtpkdhciokiomlaaDoor
