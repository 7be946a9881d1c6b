/- Some texts of this claim, put together. -/
import Derived.Test.YtpkdhciokiomlaaGreatDoorHBZ5
import Derived.Test.YtpkdhciokiomlaaGreatDoorHBZ18
import Derived.Test.YtpkdhciokiomlaaGreatDoorProg
import Derived.RegionTactic
import Derived.Deep.DeepCutAuto
namespace Go.Proofs.YtpkdhciokiomlaaGreatDoor
section
set_option linter.unusedVariables false
set_option linter.unusedSimpArgs false
set_option linter.unnecessarySimpa false
open Go.RowKit
/-- A node, and the slice of its kids. -/
abbrev NdV := Nd × Value
def ndC (p : NdV) : List Value := [.int .i64 p.1.k, .string p.1.x, .int .i64 p.1.m, p.2, .int .i64 p.1.p]
def ndsC (l : List NdV) : List Value := l.flatMap ndC
def intsC (l : List Int) : List Value := l.map (Value.int .i64)
theorem ndsC_len : ∀ l : List NdV, (ndsC l).length = l.length * 5
  | [] => rfl
  | p :: l => by
    have := ndsC_len l
    simp only [ndsC, List.flatMap_cons, List.length_append, List.length_cons] at this ⊢
    rw [this]; simp [ndC]; omega
theorem ndsC_snoc (l : List NdV) (p : NdV) : ndsC (l ++ [p]) = ndsC l ++ ndC p := by simp [ndsC]
theorem ndsC_app (l m : List NdV) : ndsC (l ++ m) = ndsC l ++ ndsC m := by simp [ndsC]
theorem ndsC_at : ∀ (l : List NdV) (j : Nat) (p : NdV), l[j]? = some p → ∀ i, i < 5 → (ndsC l)[j * 5 + i]? = (ndC p)[i]?
  | [], j, p, h, i, hi => by simp at h
  | q :: l, 0, p, h, i, hi => by
    simp at h; subst h
    show (ndC q ++ ndsC l)[0 * 5 + i]? = _
    rw [List.getElem?_append_left (by simp [ndC]; omega)]; simp
  | q :: l, j + 1, p, h, i, hi => by
    simp at h
    show (ndC q ++ ndsC l)[(j + 1) * 5 + i]? = _
    rw [List.getElem?_append_right (by simp [ndC]; omega)]
    have e : (j + 1) * 5 + i - (ndC q).length = j * 5 + i := by simp [ndC]; omega
    rw [e]; exact ndsC_at l j p h i hi
theorem ndsC_set : ∀ (l : List NdV) (j : Nat) (p : NdV) (v : Value), l[j]? = some p → (ndsC l).set (j * 5 + 3) v = ndsC (l.set j (p.1, v))
  | [], j, p, v, h => by simp at h
  | q :: l, 0, p, v, h => by
    simp at h; subst h
    simp [ndsC, ndC]
  | q :: l, j + 1, p, v, h => by
    simp at h
    show (ndC q ++ ndsC l).set ((j + 1) * 5 + 3) v = ndC q ++ ndsC (l.set j (p.1, v))
    rw [← ndsC_set l j p v h, List.set_append, if_neg (by simp [ndC]; omega)]
    congr 2
    simp [ndC]; omega
def wideY (y : Nd) : Prop := (-9223372036854775808 ≤ y.m ∧ y.m ≤ 9223372036854775807) ∧ ∀ k ∈ y.ks, -9223372036854775808 ≤ k ∧ k ≤ 9223372036854775807
/-- Each node's kids lie in a row of their own. -/
structure Kids (W : World) (base : Nat) (l : List NdV) : Prop where
  row : ∀ p ∈ l, W.ownsRow base 3 1 p.2 p.1.ks.length (intsC p.1.ks)
  apart : l.Pairwise fun p q => ∀ g, p.2.ownBlock = some g → q.2.ownBlock ≠ some g
  wide : ∀ p ∈ l, wideY p.1
structure OwnT (W : World) (base : Nat) (v : Value) (l : List NdV) : Prop where
  row : W.ownsRow base 37 5 v l.length (ndsC l)
  kids : Kids W base l
theorem own_mono {W : World} {base B size n : Nat} {e : TypeId} {v : Value} {xs : List Value} (h : W.ownsRow base e size v n xs) (hB : B ≤ base) : W.ownsRow B e size v n xs := by
  obtain ⟨hl, hh⟩ := h
  refine ⟨hl, ?_⟩
  rcases hh with hh | ⟨b, cap, cur, hv, hb, hc, h3, h4, h5, h6⟩
  · exact .inl hh
  · exact .inr ⟨b, cap, cur, hv, by omega, hc, h3, h4, h5, h6⟩
theorem Kids.nil (W : World) (base : Nat) : Kids W base [] := ⟨(fun p h => by cases h), List.Pairwise.nil, (fun p h => by cases h)⟩
section
variable {W W' : World} {base : Nat} {l : List NdV} {v : Value}
theorem Kids.below (h : Kids W base l) (hb : Below W.heap.size W W') : Kids W' base l := ⟨fun p hp => own_below (h.row p hp) hb, h.apart, h.wide⟩
theorem Kids.grown {row : Option Nat} (h : Kids W base l) (hg : W.grownBy W' row) (hne : ∀ p ∈ l, ∀ g, p.2.ownBlock = some g → row ≠ some g) : Kids W' base l := ⟨fun p hp => own_grown (h.row p hp) hg (hne p hp), h.apart, h.wide⟩
theorem ne_ND : (37 : TypeId) ≠ 3 := by decide
theorem Kids.grown_nd {b n : Nat} {u : Value} {xs : List Value} (h : Kids W base l) (ho : W.ownsRow b 37 5 u n xs) (hg : W.grownBy W' u.ownBlock) : Kids W' base l :=
  h.grown hg fun p hp g hv hu => own_two ho (h.row p hp) ne_ND g hv hu
theorem Kids.mono {b : Nat} (h : Kids W base l) (hb : b ≤ base) : Kids W b l := ⟨fun p hp => own_mono (h.row p hp) hb, h.apart, h.wide⟩
theorem Kids.app {m : List NdV} {B : Nat} (h : Kids W base l) (k : Kids W base m) (h1 : ∀ p ∈ l, ∀ g, p.2.ownBlock = some g → g < B) (h2 : ∀ p ∈ m, ∀ g, p.2.ownBlock = some g → B ≤ g) : Kids W base (l ++ m) :=
  ⟨fun p hp => (List.mem_append.1 hp).elim (h.row p) (k.row p), List.pairwise_append.2 ⟨h.apart, k.apart, fun p hp q hq g e1 e2 => by have := h1 p hp g e1; have := h2 q hq g e2; omega⟩, fun p hp => (List.mem_append.1 hp).elim (h.wide p) (k.wide p)⟩
theorem Kids.one {y : Nd} (h : W.ownsRow base 3 1 v y.ks.length (intsC y.ks)) (hw : wideY y) : Kids W base [(y, v)] :=
  ⟨fun p hp => by simp at hp; subst hp; exact h, by simp, fun p hp => by simp at hp; subst hp; exact hw⟩
theorem Kids.lt (h : Kids W base l) : ∀ p ∈ l, ∀ g, p.2.ownBlock = some g → g < W.heap.size := fun p hp => own_lt (h.row p hp)
theorem Kids.ge (h : Kids W base l) : ∀ p ∈ l, ∀ g, p.2.ownBlock = some g → base ≤ g := fun p hp => own_ge (h.row p hp)
theorem OwnT.below (h : OwnT W base v l) (hb : Below W.heap.size W W') : OwnT W' base v l := ⟨own_below h.row hb, h.kids.below hb⟩
theorem OwnT.mono {b : Nat} (h : OwnT W base v l) (hb : b ≤ base) : OwnT W b v l := ⟨own_mono h.row hb, h.kids.mono hb⟩
theorem ksV_get {ks : List Int} {j : Nat} (hj : j < ks.length) : (intsC ks)[j]? = some (ksV ks j) := by simp [intsC, ksV, hj, List.getD]
theorem own_slice {e : TypeId} {size n : Nat} {xs : List Value} (h : W.ownsRow base e size v n xs) : ∃ A c, v = .slice A n c ∧ n ≤ c ∧ c ≤ maxLen := by
  rcases h.2 with ⟨rfl, rfl⟩ | ⟨g, cap, cur, rfl, _, _, h1, h2, _⟩
  · exact ⟨none, 0, rfl, Nat.le_refl _, Nat.zero_le _⟩
  · exact ⟨_, _, rfl, h1, h2⟩
theorem own_ints {ks : List Int} (h : W.ownsRow base 3 1 v ks.length (intsC ks)) : ∃ K kc, v = .slice K ks.length kc ∧ Rd W W.heap.size K ks.length (ksV ks) ∧ ks.length ≤ kc ∧ kc ≤ maxLen := by
  obtain ⟨A, c, rfl, h1, h2⟩ := own_slice h
  refine ⟨A, c, rfl, Rd.of_own h (fun j hj => ksV_get hj), h1, h2⟩
theorem nd_get {L : List Nd} {j : Nat} (hj : j < L.length) : L[j]? = some (nd L j) := by
  rw [nd_nat, List.getD_eq_getElem?_getD, List.getElem?_eq_getElem hj]; rfl
theorem OwnT.tree (h : OwnT W base v l) : ∃ A c, v = .slice A l.length c ∧ l.length ≤ c ∧ c ≤ maxLen ∧ TreeAt W W.heap.size A (l.map (·.1)) := by
  obtain ⟨A, c, rfl, h1, h2⟩ := own_slice h.row
  refine ⟨A, c, rfl, h1, h2, fun j hj => ?_⟩
  rw [List.length_map] at hj
  obtain ⟨g, cap, hv, _, hlt⟩ := h.row.form (by omega)
  injection hv with hA _ _
  subst hA
  obtain ⟨p, hp⟩ : ∃ p, l[j]? = some p := ⟨l[j], List.getElem?_eq_getElem hj⟩
  have hpl : p ∈ l := List.mem_of_getElem? hp
  have hy : nd (l.map (·.1)) j = p.1 := by
    have := nd_get (L := l.map (·.1)) (j := j) (by rw [List.length_map]; exact hj)
    rw [List.getElem?_map, hp] at this
    simpa using this.symm
  rw [hy]
  have hc : ∀ i, i < 5 → W.cell? ⟨g, j * 5 + i, none⟩ = (ndC p)[i]? := fun i hi => by
    rw [← ndsC_at l j p hp i hi]
    have := h.row.cells (g := g) rfl (j * 5 + i)
    have hl := ndsC_len l
    have hlt2 : j * 5 + i < (ndsC l).length := by omega
    rw [List.getElem?_eq_getElem hlt2]
    have h3 := this _ (List.getElem?_eq_getElem hlt2)
    rwa [add_row, Nat.zero_add] at h3
  refine ⟨⟨g, 0, none⟩, rfl, ?_⟩
  rw [add_row, Nat.zero_add]
  obtain ⟨K, kc, hK, hr, k1, k2⟩ := own_ints (h.kids.row p hpl)
  exact ⟨hlt, hc 0 (by omega), hc 1 (by omega), hc 2 (by omega), hc 4 (by omega), (h.kids.wide p hpl).1, (h.kids.wide p hpl).2, K, kc, (hc 3 (by omega)).trans (by show some p.2 = _; rw [hK]), hr, k1, k2⟩
/-- One node more, behind an append. -/
theorem OwnT.snoc {p : NdV} {v' : Value} (h : OwnT W base v l) (h2 : W'.ownsRow base 37 5 v' (l.length + 1) (ndsC l ++ ndC p)) (hg : W.grownBy W' v.ownBlock) (hp : W.ownsRow base 3 1 p.2 p.1.ks.length (intsC p.1.ks)) (hw : wideY p.1)
    (hap : ∀ q ∈ l, ∀ g, q.2.ownBlock = some g → p.2.ownBlock ≠ some g) : OwnT W' base v' (l ++ [p]) := by
  have hk : Kids W base (l ++ [p]) := ⟨fun q hq => by
      rcases List.mem_append.1 hq with hq | hq
      · exact h.kids.row q hq
      · simp at hq; subst hq; exact hp, List.pairwise_append.2 ⟨h.kids.apart, by simp, fun q hq r hr g e => by simp at hr; subst hr; exact hap q hq g e⟩, fun q hq => by
      rcases List.mem_append.1 hq with hq | hq
      · exact h.kids.wide q hq
      · simp at hq; subst hq; exact hw⟩
  exact ⟨by rw [List.length_append, ndsC_snoc]; exact h2, hk.grown_nd h.row hg⟩
end
/-- A node whose kids' numbers are so much later. -/
def shN (z : Int) (y : Nd) : Nd := { y with ks := y.ks.map fun k => IntKind.i64.wrap (k + z) }
theorem wrap_wide (z : Int) : -9223372036854775808 ≤ IntKind.i64.wrap z ∧ IntKind.i64.wrap z ≤ 9223372036854775807 := by
  rw [IntKind.wrap_i64]; omega
theorem shN_wide {y : Nd} (z : Int) (h : -9223372036854775808 ≤ y.m ∧ y.m ≤ 9223372036854775807) : wideY (shN z y) := ⟨h, fun k hk => by
  obtain ⟨a, _, rfl⟩ := List.mem_map.1 hk
  exact wrap_wide _⟩
end
section
set_option linter.unusedVariables false
set_option linter.unusedSimpArgs false
set_option linter.unnecessarySimpa false
open Go.RowKit
attribute [local go_sem] cell_alloc_add cell_set_add lt_more
theorem within_any (A : Option Addr) (n c : Nat) (i : Int) (w : World) (hn : n ≤ c) (hm : c ≤ maxLen) : Calls Tryz.prog 33 #[.agg #[.slice A n c], .int .i64 i] w fun e w' => e = .returned (.bool (decide (0 ≤ i) && decide (i < (n : Int)))) ∧ Below w.heap.size w w' := by
  unfold maxLen at hm
  go_enter Tryz.func33, Tryz.ntmps33
  go_wp2
  all_goals go_ret
  all_goals (refine ⟨ret_bool ?_, (by (exact bl))⟩; rw [Bool.eq_iff_iff]; simp <;> omega)
set_option maxHeartbeats 1000000 in
theorem isExpr_any (A : Option Addr) (L : List Nd) (c i : Nat) (w : World) (h : TreeAt w w.heap.size A L) (hc : L.length ≤ c) (hm : c ≤ maxLen) (hi : i < L.length) : Calls Tryz.prog 35 #[.agg #[.slice A L.length c], .int .i64 (i : Int)] w fun e w' => e = .returned (.bool (exprP L i)) ∧ Below w.heap.size w w' := by
  obtain ⟨ad, rfl, hn⟩ := h i hi; have hb2 := hn.blk; have hb1 : ad.block < w.heap.size := (by rw [block_add] at hb2; exact hb2); have c0 := hn.c0; have c2 := hn.c2; unfold maxLen at hm; obtain ⟨k, hk⟩ : ∃ k, k = (nd L i).k := ⟨_, rfl⟩; obtain ⟨m, hkm⟩ : ∃ m, m = (nd L i).m := ⟨_, rfl⟩; have wm := hn.wm; rw [← hkm] at wm; rw [← hk] at c0; rw [← hkm] at c2; clear h hn
  have H := Lib.hid (show exprP L i = (decide (10 ≤ k) && decide (k ≤ 34) && !(k == 21)) by rw [hk]; rfl)
  clear hk hkm
  rw [H.out]
  go_enter Tryz.func35, Tryz.ntmps35
  go_wp2
  all_goals go_ret
  all_goals (refine ⟨ret_bool ?_, (by (exact bl))⟩; rw [Bool.eq_iff_iff]; simp <;> omega)
set_option maxHeartbeats 1000000 in
theorem isType_any (A : Option Addr) (L : List Nd) (c i : Nat) (w : World) (h : TreeAt w w.heap.size A L) (hc : L.length ≤ c) (hm : c ≤ maxLen) (hi : i < L.length) : Calls Tryz.prog 38 #[.agg #[.slice A L.length c], .int .i64 (i : Int)] w fun e w' => e = .returned (.bool (typeP L i)) ∧ Below w.heap.size w w' := by
  obtain ⟨ad, rfl, hn⟩ := h i hi; have hb2 := hn.blk; have hb1 : ad.block < w.heap.size := (by rw [block_add] at hb2; exact hb2); have c0 := hn.c0; have c2 := hn.c2; unfold maxLen at hm; obtain ⟨k, hk⟩ : ∃ k, k = (nd L i).k := ⟨_, rfl⟩; obtain ⟨m, hkm⟩ : ∃ m, m = (nd L i).m := ⟨_, rfl⟩; have wm := hn.wm; rw [← hkm] at wm; rw [← hk] at c0; rw [← hkm] at c2; clear h hn
  have H := Lib.hid (show typeP L i = (decide (80 ≤ k) && decide (k ≤ 87) && !(k == 85)) by rw [hk]; rfl)
  clear hk hkm
  rw [H.out]
  go_enter Tryz.func38, Tryz.ntmps38
  go_wp2
  all_goals go_ret
  all_goals (refine ⟨ret_bool ?_, (by (exact bl))⟩; rw [Bool.eq_iff_iff]; simp <;> omega)
set_option maxHeartbeats 4000000 in
theorem isStmt_any (A : Option Addr) (L : List Nd) (c i : Nat) (w : World) (h : TreeAt w w.heap.size A L) (hc : L.length ≤ c) (hm : c ≤ maxLen) (hi : i < L.length) : Calls Tryz.prog 57 #[.agg #[.slice A L.length c], .int .i64 (i : Int)] w fun e w' => e = .returned (.bool (stmtP L i)) ∧ Below w.heap.size w w' := by
  obtain ⟨ad, rfl, hn⟩ := h i hi; have hb2 := hn.blk; have hb1 : ad.block < w.heap.size := (by rw [block_add] at hb2; exact hb2); have c0 := hn.c0; have c2 := hn.c2; unfold maxLen at hm; obtain ⟨k, hk⟩ : ∃ k, k = (nd L i).k := ⟨_, rfl⟩; obtain ⟨m, hkm⟩ : ∃ m, m = (nd L i).m := ⟨_, rfl⟩; have wm := hn.wm; rw [← hkm] at wm; rw [← hk] at c0; rw [← hkm] at c2; clear h hn
  have H := Lib.hid (show stmtP L i = stmtK k by rw [hk]; rfl)
  clear hk hkm
  rw [H.out]
  go_enter Tryz.func57, Tryz.ntmps57
  go_wp2
  all_goals go_ret
  all_goals (refine ⟨ret_bool ?_, (by (exact bl))⟩; (try simp only [beq_iff_eq, beq_eq_false_iff_ne, bne_iff_ne, bne_eq_false_iff_eq, ne_eq, decide_eq_true_eq, decide_eq_false_iff_not, Bool.and_eq_true, Bool.or_eq_true, Bool.not_eq_true, Bool.not_eq_false, Bool.false_eq_true, Decidable.not_not, Bool.not_eq_eq_eq_not, Bool.not_true, Bool.not_false] at *); simp [stmtK, *])
set_option maxHeartbeats 4000000 in
theorem isPlain_any (A : Option Addr) (L : List Nd) (c i : Nat) (w : World) (h : TreeAt w w.heap.size A L) (hc : L.length ≤ c) (hm : c ≤ maxLen) (hi : i < L.length) : Calls Tryz.prog 52 #[.agg #[.slice A L.length c], .int .i64 (i : Int)] w fun e w' => e = .returned (.bool (plainP L i)) ∧ Below w.heap.size w w' := by
  obtain ⟨ad, rfl, hn⟩ := h i hi; have hb2 := hn.blk; have hb1 : ad.block < w.heap.size := (by rw [block_add] at hb2; exact hb2); have c0 := hn.c0; have c2 := hn.c2; unfold maxLen at hm; obtain ⟨k, hk⟩ : ∃ k, k = (nd L i).k := ⟨_, rfl⟩; obtain ⟨m, hkm⟩ : ∃ m, m = (nd L i).m := ⟨_, rfl⟩; have wm := hn.wm; rw [← hkm] at wm; rw [← hk] at c0; rw [← hkm] at c2; clear h hn
  have H := Lib.hid (show plainP L i = (k == 66 && (m == 0 || m == 1)) by rw [hk, hkm]; rfl)
  have HB := Lib.hid (not1 wm)
  clear hk hkm
  rw [H.out]
  go_enter Tryz.func52, Tryz.ntmps52
  go_wp2
  all_goals go_ret
  · exact ⟨ret_bool (by rw [HB.out]; simp [*]), (by (exact bl))⟩
  all_goals (refine ⟨ret_bool ?_, (by (exact bl))⟩; simp [*])
set_option maxHeartbeats 4000000 in
theorem isLet_any (A : Option Addr) (L : List Nd) (c i : Nat) (w : World) (h : TreeAt w w.heap.size A L) (hc : L.length ≤ c) (hm : c ≤ maxLen) (hi : i < L.length) : Calls Tryz.prog 74 #[.agg #[.slice A L.length c], .int .i64 (i : Int)] w fun e w' => e = .returned (.bool (letP L i)) ∧ Below w.heap.size w w' := by
  obtain ⟨ad, rfl, hn⟩ := h i hi; have hb2 := hn.blk; have hb1 : ad.block < w.heap.size := (by rw [block_add] at hb2; exact hb2); have c0 := hn.c0; have c2 := hn.c2; unfold maxLen at hm; obtain ⟨k, hk⟩ : ∃ k, k = (nd L i).k := ⟨_, rfl⟩; obtain ⟨m, hkm⟩ : ∃ m, m = (nd L i).m := ⟨_, rfl⟩; have wm := hn.wm; rw [← hkm] at wm; rw [← hk] at c0; rw [← hkm] at c2; clear h hn
  have H := Lib.hid (show letP L i = (k == 40 && (m == 0)) by rw [hk, hkm]; rfl)
  clear hk hkm
  rw [H.out]
  go_enter Tryz.func74, Tryz.ntmps74
  go_wp2
  all_goals go_ret
  all_goals (refine ⟨ret_bool ?_, (by (exact bl))⟩; simp [*])
theorem any_any (A : Option Addr) (L : List Nd) (c i : Nat) (w : World) (h : TreeAt w w.heap.size A L) (hc : L.length ≤ c) (hm : c ≤ maxLen) (hi : i < L.length) : Calls Tryz.prog 56 #[.agg #[.slice A L.length c], .int .i64 (i : Int)] w fun e w' => e = .returned (.bool (anyP L i)) ∧ Below w.heap.size w w' := by
  go_enter Tryz.func56, Tryz.ntmps56
  go_wp2
  all_goals go_ret
  exact ⟨rfl, (by (exact bl))⟩
end
section
set_option linter.unusedVariables false
set_option linter.unusedSimpArgs false
set_option linter.unnecessarySimpa false
open Go.RowKit
attribute [local go_sem] cell_alloc_add cell_set_add lt_more
/-- Nodes, kids and bytes of a tree. -/
def wt (L : List Nd) : Nat := (L.map fun y => 1 + y.ks.length + y.x.size).sum
theorem wt_cons (y : Nd) (L : List Nd) : wt (y :: L) = (1 + y.ks.length + y.x.size) + wt L := by simp [wt]
theorem wt_app (L M : List Nd) : wt (L ++ M) = wt L + wt M := by simp [wt]
theorem wt_take {L : List Nd} {q : Nat} (h : q < L.length) : wt (L.take (q + 1)) = wt (L.take q) + (1 + (nd L q).ks.length + (nd L q).x.size) := by
  rw [List.take_succ_eq_append_getElem h, wt_app]
  have := nd_get h
  rw [List.getElem?_eq_getElem h] at this
  injection this with this
  rw [this, wt_cons]
  simp [wt]
theorem wt_le (L : List Nd) (q : Nat) : wt (L.take q) ≤ wt L := by
  have : wt L = wt (L.take q) + wt (L.drop q) := by rw [← wt_app, List.take_append_drop]
  omega
theorem wt_len (L : List Nd) : L.length ≤ wt L := by
  induction L with
  | nil => exact Nat.zero_le _
  | cons y L ih => rw [wt_cons, List.length_cons]; omega
theorem wt_nd (L : List Nd) (j : Nat) : (nd L j).ks.length + (nd L j).x.size ≤ wt L := by
  rcases Nat.lt_or_ge j L.length with h | h
  · have h1 := wt_take h
    have h2 := wt_le L (j + 1)
    omega
  · rw [nd_nat, List.getD_eq_getElem?_getD, List.getElem?_eq_none h]
    exact Nat.zero_le _
set_option maxRecDepth 100000 in
set_option maxHeartbeats 4000000 in
theorem great_any (A : Option Addr) (L : List Nd) (c : Nat) (hc : L.length ≤ c) (hm : c ≤ maxLen) (hx : ∀ j : Nat, (nd L j).ks.length ≤ 1000000000000000 ∧ (nd L j).x.size ≤ 1000000000000000) (w : World) (h : TreeAt w w.heap.size A L) :
    Calls Tryz.prog 4 #[.agg #[.slice A L.length c]] w fun e w' => e = .returned (.bool (decide (3000 < wt L))) ∧ Below w.heap.size w w' := by
  have hT := Lib.hid h
  have HX := Lib.hid hx
  have HT := Lib.hid (fun q (hq : q < L.length) => wt_take hq)
  have HL := Lib.hid (fun q => wt_le L q)
  have HE := Lib.hid (show wt (L.take L.length) = wt L by rw [List.take_length])
  have H0 := Lib.hid (show wt (L.take 0) = 0 from rfl)
  obtain ⟨wa, hwa⟩ : ∃ wa : World, wa = w.alloc (.cells #[.slice A L.length c] 24) := ⟨_, rfl⟩
  have bA : Below w.heap.size w wa := by rw [hwa]; exact (by (exact bl))
  have zA : w.heap.size < wa.heap.size := by rw [hwa]; simp
  have rT : Row wa w.heap.size 24 #[.slice A L.length c] := by rw [hwa]; exact row_new rfl
  have t0 := rT.cell 0
  simp at t0
  clear h hx
  unfold maxLen at hm
  go_enter Tryz.func4, Tryz.ntmps4
  go_upto_region 1 with fail
  rw [← hwa]
  clear hwa
  go_wp2
  go_loopw [3, 4] (fun v t wr => ∃ q : Nat, q ≤ L.length ∧ t = .int .i64 (q : Int) ∧ v = .int .i64 (wt (L.take q) : Int) ∧ (∃ d, wr = wa.drewN d) ∧ wt (L.take q) ≤ 2000000000003001) (fun _ t _ => L.length - (intOf t).toNat)
  case atStart => exact ⟨0, Nat.zero_le _, rfl, by rw [H0.out]; rfl, ⟨0, rfl⟩, by rw [H0.out]; omega⟩
  case round =>
    obtain ⟨q, hq, rfl, rfl, ⟨d, rfl⟩, hwb⟩ := hrel
    have HLq := HL.out q
    by_cases hlt : q < L.length
    · obtain ⟨ad, rfl, hn⟩ := hT.out q hlt
      have hn2 := hn.keep (W' := wa) (fun p hp => bA.cell hp)
      have hb1 := hn2.blk
      have hbq : (ad.add (q * 5)).block < wa.heap.size := Nat.lt_of_lt_of_le hb1 bA.size
      have hba : ad.block < wa.heap.size := by rw [block_add] at hbq; exact hbq
      obtain ⟨K0, kc0, c0, c1, c2, c3, c4, hK0, hkk, hkm⟩ := node_open hn2
      have HTq := Lib.hid (HT.out q hlt)
      obtain ⟨x1, x2⟩ := HX.out q
      unfold maxLen at hkm
      clear hn hn2 hK0 c0 c2 c4 hb1
      by_cases hw : wt (L.take q) ≤ 3000
      · have hwi : ((wt (L.take q) : Nat) : Int) ≤ 3000 := by omega
        generalize hW : wt (L.take q) = W at *
        generalize nd L q = y at *
        obtain ⟨k, x, m, ks, p⟩ := y
        simp only at c1 c3 hkk x1 x2 HTq
        have hqi : (q : Int) < (L.length : Int) := by omega
        go_wp2
        go_quiet (fail)
        go_wp2
        exact ⟨⟨q + 1, by omega, by go_num, by rw [HTq.out]; go_num, ⟨_, rfl⟩, by rw [HTq.out]; omega⟩, by simp [intOf]; omega⟩
      · have hwi : ¬ ((wt (L.take q) : Nat) : Int) ≤ 3000 := by omega
        have hWq : 3000 < wt (L.take q) := by omega
        generalize wt (L.take q) = W at *
        go_wp2
        go_ret
        exact ⟨ret_bool (decide_eq_true (p := 3000 < wt L) (by omega)).symm, (by (exact bl))⟩
    · obtain rfl : q = L.length := by omega
      rw [HE.out]
      rw [HE.out] at hwb
      go_wp2
      go_ret
      exact ⟨ret_bool (by rw [decide_eq_decide]; constructor <;> intro _ <;> omega), (by (exact bl))⟩
end
end Go.Proofs.YtpkdhciokiomlaaGreatDoor
