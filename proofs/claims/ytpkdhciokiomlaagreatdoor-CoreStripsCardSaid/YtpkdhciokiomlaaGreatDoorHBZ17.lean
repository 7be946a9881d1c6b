/- Some texts of this claim, put together. -/
import Derived.Test.YtpkdhciokiomlaaGreatDoorHBZ6
import Derived.Lib.SliceRun
import Derived.RegionTactic
import Derived.Deep.DeepCutAuto
import Derived.Deep.CutBlock
import Derived.Deep.RegionLaw
import Derived.Deep.CutRange
import Derived.Test.YtpkdhciokiomlaaGreatDoorHBZ18
import Derived.Test.YtpkdhciokiomlaaGreatDoorHBZ4
namespace Go.Proofs.YtpkdhciokiomlaaGreatDoor
section
set_option linter.unusedVariables false
set_option linter.unusedSimpArgs false
set_option linter.unnecessarySimpa false
open Go.RowKit
/-- The root's kids and the nodes behind the root, once these trees are laid behind the others. -/
def mkA : List Int → List Nd → List (List Nd) → List Int × List Nd
  | ks, acc, [] => (ks, acc)
  | ks, acc, l :: ls => if l.length = 0 then mkA ks acc ls else mkA (ks ++ [((acc.length + 1 : Nat) : Int)]) (acc ++ l.map (shN ((acc.length + 1 : Nat) : Int))) ls
def mkL (y : Nd) (Ls : List (List Nd)) : List Nd := ⟨y.k, y.x, y.m, (mkA [] [] Ls).1, y.p⟩ :: (mkA [] [] Ls).2
def sumL (Ls : List (List Nd)) : Nat := (Ls.map List.length).sum
theorem mkA_nil (ks : List Int) (acc : List Nd) : mkA ks acc [] = (ks, acc) := rfl
theorem mkA_skip {ks : List Int} {acc : List Nd} {l : List Nd} {ls : List (List Nd)} (h : l.length = 0) : mkA ks acc (l :: ls) = mkA ks acc ls := by
  show (if l.length = 0 then _ else _) = _; rw [if_pos h]
theorem mkA_step {ks : List Int} {acc : List Nd} {l : List Nd} {ls : List (List Nd)} (h : l.length ≠ 0) : mkA ks acc (l :: ls) = mkA (ks ++ [((acc.length + 1 : Nat) : Int)]) (acc ++ l.map (shN ((acc.length + 1 : Nat) : Int))) ls := by
  show (if l.length = 0 then _ else _) = _; rw [if_neg h]
theorem drop_L {α : Type} {Ls : List α} {q : Nat} (d : α) (h : q < Ls.length) : Ls.drop q = Ls.getD q d :: Ls.drop (q + 1) := by
  rw [List.drop_eq_getElem_cons h]; congr 1; simp [List.getD, h]
theorem sumL_cons (l : List Nd) (ls : List (List Nd)) : sumL (l :: ls) = l.length + sumL ls := by simp [sumL]
/-- A row of trees lies at K. -/
def Forest (W : World) (B : Nat) (K : Option Addr) (Ls : List (List Nd)) : Prop :=
  ∀ j, j < Ls.length → ∃ ad A c, K = some ad ∧ ad.block < B ∧ W.cell? (ad.add j) = some (.slice A (Ls.getD j []).length c) ∧ (Ls.getD j []).length ≤ c ∧ c ≤ maxLen ∧ TreeAt W B A (Ls.getD j [])
section
variable {W W' : World} {B B' : Nat} {K : Option Addr} {Ls : List (List Nd)}
theorem Forest.keep (h : Forest W B K Ls) (hk : ∀ p : Addr, p.block < B → W'.cell? p = W.cell? p) : Forest W' B K Ls := fun j hj => by
  obtain ⟨ad, A, c, e, hb, hc, h1, h2, h3⟩ := h j hj
  exact ⟨ad, A, c, e, hb, (hk _ (by rw [block_add]; exact hb)).trans hc, h1, h2, h3.keep hk⟩
theorem Forest.more (h : Forest W B K Ls) (hB : B ≤ B') : Forest W B' K Ls := fun j hj => by
  obtain ⟨ad, A, c, e, hb, hc, h1, h2, h3⟩ := h j hj
  exact ⟨ad, A, c, e, by omega, hc, h1, h2, h3.more hB⟩
theorem Forest.below (h : Forest W B K Ls) (hb : Below B W W') : Forest W' B K Ls := h.keep fun _ hp => hb.cell hp
theorem Forest.later (h : Forest W W.heap.size K Ls) (hb : Below W.heap.size W W') : Forest W' W'.heap.size K Ls := (h.below hb).more hb.size
end
section
variable {W W' : World} {base : Nat} {l : List NdV} {v : Value}
theorem row_ne {g b size n : Nat} {t e : TypeId} {cs : Array Value} {xs : List Value} (h : Row W g t cs) (ho : W.ownsRow b e size v n xs) (hne : e ≠ t) : v.ownBlock ≠ some g := fun hv => by
  obtain ⟨cur, fr, hh⟩ := own_type ho hv
  unfold Row at h
  rw [h] at hh
  injection hh with hh
  injection hh with _ hh _
  exact hne hh.symm
theorem own_form5 {n c : Nat} {A : Option Addr} {xs : List Value} {e : TypeId} {size : Nat} (h : W.ownsRow base e size (.slice A n c) n xs) (hn : 0 < n) : ∃ g, A = some ⟨g, 0, none⟩ ∧ base ≤ g ∧ g < W.heap.size := by
  obtain ⟨g, cap, hv, h1, h2⟩ := h.form hn
  injection hv with hA _ _
  exact ⟨g, hA, h1, h2⟩
/-- The root's kids, one more, behind an append and a store. -/
theorem OwnT.head {y : Nd} {S S' : Value} {ks : List Int} {g n c : Nat} (h : OwnT W base (.slice (some ⟨g, 0, none⟩) n c) ((y, S) :: l)) (hn : n = l.length + 1) (hr : W'.ownsRow base 3 1 S' ks.length (intsC ks)) (hg : W.grownBy W' S.ownBlock) (hob : S'.ownBlock = S.ownBlock ∨ S'.ownBlock = some W.heap.size)
    (hw : ∀ k ∈ ks, -9223372036854775808 ≤ k ∧ k ≤ 9223372036854775807) : OwnT (W'.setCell ⟨g, 3, none⟩ S') base (.slice (some ⟨g, 0, none⟩) n c) ((⟨y.k, y.x, y.m, ks, y.p⟩, S') :: l) := by
  have hne : ∀ b, S.ownBlock = some b → (Value.slice (some ⟨g, 0, none⟩) n c).ownBlock ≠ some b := own_two h.row (h.kids.row (y, S) (by simp)) ne_ND
  have h0 := h.row
  rw [show ((y, S) :: l).length = n by rw [List.length_cons]; omega] at h0
  have h1 : W'.ownsRow base 37 5 (.slice (some ⟨g, 0, none⟩) n c) n (ndsC ((y, S) :: l)) := own_grown h0 hg (fun b e e2 => hne b e2 e)
  have h2 := (h1.stored 3 S').1
  rw [show (3 : Nat) = 0 * 5 + 3 from rfl, ndsC_set ((y, S) :: l) 0 (y, S) S' (by simp)] at h2
  have hap := List.pairwise_cons.1 h.kids.apart
  have hk : ∀ p ∈ l, W'.ownsRow base 3 1 p.2 p.1.ks.length (intsC p.1.ks) := fun p hp => own_grown (h.kids.row p (by simp [hp])) hg (fun b e e2 => hap.1 p hp b e2 e)
  have hset : ∀ {u : Value} {m : Nat} {zs : List Value}, W'.ownsRow base 3 1 u m zs → (W'.setCell ⟨g, 3, none⟩ S').ownsRow base 3 1 u m zs := fun ho => ownsRow_setCell_other ho (fun e => own_two h1 ho ne_ND g e (by simp [Value.ownBlock])) _
  refine ⟨?_, ⟨?_, ?_, ?_⟩⟩
  · rw [show ((⟨y.k, y.x, y.m, ks, y.p⟩, S') :: l : List NdV).length = n by rw [List.length_cons]; omega]
    exact h2
  · intro p hp
    rcases List.mem_cons.1 hp with rfl | hp
    · exact hset hr
    · exact hset (hk p hp)
  · refine List.pairwise_cons.2 ⟨fun p hp b e => ?_, hap.2⟩
    rcases hob with hob | hob
    · exact hap.1 p hp b (hob ▸ e)
    · intro e2
      have := h.kids.lt p (by simp [hp]) b e2
      have hb : b = W.heap.size := by rw [hob] at e; injection e with e; exact e.symm
      omega
  · intro p hp
    rcases List.mem_cons.1 hp with rfl | hp
    · exact ⟨(h.kids.wide (y, S) (by simp)).1, hw⟩
    · exact h.kids.wide p (by simp [hp])
/-- Many nodes more, behind an append of what another call made. -/
theorem OwnT.app {m : List NdV} {v2 v' : Value} {B : Nat} (h : OwnT W base v l) (k : OwnT W B v2 m) (hB : base ≤ B) (h1 : ∀ p ∈ l, ∀ g, p.2.ownBlock = some g → g < B) (h2 : W'.ownsRow base 37 5 v' (l.length + m.length) (ndsC l ++ ndsC m)) (hg : W.grownBy W' v.ownBlock) : OwnT W' base v' (l ++ m) := by
  have hk := h.kids.app (k.kids.mono hB) h1 (k.kids.ge)
  exact ⟨by rw [List.length_append, ndsC_app]; exact h2, hk.grown_nd h.row hg⟩
theorem ndsC_one (h : Kids W base l) : ∀ u ∈ ndsC l, u.oneCell' = true := by
  intro u hu
  obtain ⟨p, hp, hu⟩ := List.mem_flatMap.1 hu
  obtain ⟨A, c, e, _⟩ := own_slice (h.row p hp)
  simp [ndC] at hu
  rcases hu with rfl | rfl | rfl | rfl | rfl
  all_goals first | rfl | (rw [e]; rfl)
end
theorem ndsC_3 (p : NdV) (l : List NdV) : (ndsC (p :: l))[3]? = some p.2 := by
  have := ndsC_at (p :: l) 0 p rfl 3 (by omega)
  simpa [ndC] using this
theorem OwnT.set_row {W : World} {base g i : Nat} {v : Value} {l : List NdV} {t : TypeId} {cs : Array Value} (h : OwnT W base v l) (hr : Row W g t cs) (h1 : (37 : TypeId) ≠ t) (h2 : (3 : TypeId) ≠ t) (u : Value) : OwnT (W.setCell ⟨g, i, none⟩ u) base v l :=
  ⟨ownsRow_setCell_other h.row (row_ne hr h.row h1) u, ⟨fun p hp => ownsRow_setCell_other (h.kids.row p hp) (row_ne hr (h.kids.row p hp) h2) u, h.kids.apart, h.kids.wide⟩⟩
theorem OwnT.far {W : World} {base : Nat} {v : Value} {l : List NdV} (h : OwnT W base v l) {a : Addr} (ha : a.block < base) (u : Value) : OwnT (W.setCell a u) base v l :=
  ⟨ownsRow_setCell_below h.row ha u, ⟨fun p hp => ownsRow_setCell_below (h.kids.row p hp) ha u, h.kids.apart, h.kids.wide⟩⟩
end
section
set_option linter.unusedVariables false
set_option linter.unusedSimpArgs false
set_option linter.unnecessarySimpa false
open Go.RowKit
attribute [local go_sem] cell_alloc_add cell_set_add lt_more
theorem infoInt : (Tryz.prog.info? 3).map (fun i => (i.zero, i.size, i.bytes)) = some (some (.int .i64 0), 1, 8) := by kernel_rfl
theorem infoNode : (Tryz.prog.info? 37).map (fun i => (i.zero, i.size, i.bytes)) = some (some (.agg #[.int .i64 0, .string ⟨#[]⟩, .int .i64 0, .slice none 0 0, .int .i64 0]), 5, 64) := by kernel_rfl
theorem firsts_ks (ks : List Int) : firsts (ksV ks) ks.length = intsC ks := by
  apply List.ext_getElem?
  intro j
  by_cases hj : j < ks.length
  · rw [firsts_at hj, ksV_get hj]
  · rw [List.getElem?_eq_none (by rw [firsts_len]; omega), List.getElem?_eq_none (by simp [intsC]; omega)]
theorem row5_lies {w : World} {g : Nat} {t : TypeId} {a b c d e : Value} (h : Row w g t #[a, b, c, d, e]) : ∀ j u, [a, b, c, d, e][j]? = some u → w.cell? ((⟨g, 0, none⟩ : Addr).add j) = some u := fun j u hj => by
  rw [add_row, h.cell, Nat.zero_add, ← hj]; simp
theorem ndC_one (p : NdV) (h : p.2.oneCell' = true) : ∀ u ∈ ndC p, u.oneCell' = true := by
  intro u hu; simp [ndC] at hu; rcases hu with rfl | rfl | rfl | rfl | rfl <;> first | rfl | exact h
theorem own_one {W : World} {base n : Nat} {e : TypeId} {size : Nat} {v : Value} {xs : List Value} (h : W.ownsRow base e size v n xs) : v.oneCell' = true := by
  obtain ⟨A, c, rfl, _⟩ := own_slice h; rfl
end
section
set_option linter.unusedVariables false
set_option linter.unusedSimpArgs false
set_option linter.unnecessarySimpa false
open Go.RowKit
attribute [local go_sem] cell_alloc_add cell_set_add lt_more
theorem step_append_own {P : Program} {ops : Array Oper} {o : Oper} {a : Act} {w : World} {K : Act → World → Prop} {Q : Exit → Act → World → Prop} {E : Prop} (hgd : o.guard = none) (s x : Operand) (t : TypeId)
    (ho : o.op = .call { callee := .builtin .append, args := #[s, x], argTypes := #[t, t] })
    (base : Nat) (e : TypeId) (i : TypeInfo) (z : Value) (size bytes : Nat) (ht : P.underlying t = some (.slice e)) (hi : P.info? e = some i) (hz : i.zero = some z)
    (hsize : i.size = size) (hby : i.bytes = bytes) (hzs : z.cells.size = size) (hsz : 0 < size)
    (v : Value) (n : Nat) (xs : List Value) (hs : a.eval s = v) (hown : w.ownsRow base e size v n xs)
    (ad : Addr) (m c : Nat) (news : List Value) (hx : a.eval x = .slice (some ad) m c) (hl : news.length = m * size) (hnews : ∀ j u, news[j]? = some u → w.cell? (ad.add j) = some u) (h1 : ∀ u ∈ news, u.oneCell' = true)
    (h63 : n + m ≤ maxLen) (hbytes : (n + m) * bytes ≤ 140737488355328) (hbase : base ≤ w.heap.size)
    (h : ∀ v' w', w'.ownsRow base e size v' (n + m) (xs ++ news) → w.grownBy w' v.ownBlock → (v'.ownBlock = v.ownBlock ∨ v'.ownBlock = some w.heap.size) → K (a.put o.dst v') w') : if Region.wanted o (yielded ops a.tmps) = true then Oper.wp P o a w K Q else E := by
  rw [if_pos (by simp [Region.wanted, hgd])]
  obtain ⟨v', w', hr, h2, h3, _, h5⟩ := run_append_own_at (P := P) w base t o.type e i z size bytes ht hi hz hsize hby hzs hsz v n xs hown ad m c news hl hnews h1 h63 hbytes hbase
  unfold Oper.wp execOp
  simp only [ho, resolve, invoke, builtin, Sem.run_bind, Sem.run_pure, Result.andThen_ok, List.map_toArray, List.map_cons, List.map_nil, hs, hx, hr]
  exact h v' w' h2 h3 h5
end
section
set_option linter.unusedVariables false
set_option linter.unusedSimpArgs false
set_option linter.unnecessarySimpa false
open Go.RowKit
theorem infoTree : (Tryz.prog.info? 24).map (fun i => (i.zero, i.size, i.bytes)) = some (some (.agg #[.slice none 0 0]), 1, 24) := by kernel_rfl
theorem OwnT.grown_tr {W W' : World} {base b n : Nat} {v v8 : Value} {l : List NdV} {xs : List Value} (h : OwnT W base v l) (ho : W.ownsRow b 24 1 v8 n xs) (hg : W.grownBy W' v8.ownBlock) : OwnT W' base v l :=
  ⟨own_grown h.row hg (fun g e e2 => own_two h.row ho (by decide) g e2 e), ⟨fun p hp => own_grown (h.kids.row p hp) hg (fun g e e2 => own_two (h.kids.row p hp) ho (by decide) g e2 e), h.kids.apart, h.kids.wide⟩⟩
/-- A row of trees that a call has made. -/
structure Grove (W : World) (base : Nat) (v : Value) (p : Nat) (Ls : List (List Nd)) : Prop where
  len : Ls.length = p
  row : ∃ xs : List Value, W.ownsRow base 24 1 v p xs ∧ ∀ j, j < p → ∃ A c l, xs[j]? = some (.slice A (l : List NdV).length c) ∧ OwnT W base (.slice A l.length c) l ∧ l.map (·.1) = Ls.getD j []
theorem Grove.nil (W : World) (base : Nat) : Grove W base (.slice none 0 0) 0 [] := ⟨rfl, [], World.ownsRow_nil _ _ _ _, fun j hj => by omega⟩
theorem Grove.below {W W' : World} {base p : Nat} {v : Value} {Ls : List (List Nd)} (h : Grove W base v p Ls) (hb : Below W.heap.size W W') : Grove W' base v p Ls := by
  obtain ⟨xs, ho, ht⟩ := h.row
  exact ⟨h.len, xs, own_below ho hb, fun j hj => by
    obtain ⟨A, c, l, e, h1, h2⟩ := ht j hj
    exact ⟨A, c, l, e, h1.below hb, h2⟩⟩
theorem Grove.forest {W : World} {base p : Nat} {A : Option Addr} {c : Nat} {Ls : List (List Nd)} (h : Grove W base (.slice A p c) p Ls) : Forest W W.heap.size A Ls := fun j hj => by
  obtain ⟨xs, ho, ht⟩ := h.row
  rw [h.len] at hj
  obtain ⟨A', c', l, e, h1, h2⟩ := ht j hj
  obtain ⟨g, hA, hg1, hg2⟩ := own_form5 ho (by omega)
  subst hA
  obtain ⟨A2, c2, e2, h3, h4, h5⟩ := h1.tree
  injection e2 with e21 _ e22
  subst e21 e22
  rw [h2] at h5
  have hl : (Ls.getD j []).length = l.length := by rw [← h2, List.length_map]
  refine ⟨_, A', c', rfl, hg2, ?_, by rw [hl]; exact h3, h4, h5⟩
  rw [hl, add_row, Nat.zero_add, ho.cellAt j (by omega), e]
theorem grove_snoc {W W' : World} {base p : Nat} {v v' : Value} {Ls : List (List Nd)} {xs : List Value} {A : Option Addr} {c : Nat} {l : List NdV} {K : List Nd} (hlen : Ls.length = p) (ho : W.ownsRow base 24 1 v p xs)
    (ht : ∀ j, j < p → ∃ A c l, xs[j]? = some (.slice A (l : List NdV).length c) ∧ OwnT W base (.slice A l.length c) l ∧ l.map (·.1) = Ls.getD j []) (hl : OwnT W base (.slice A l.length c) l) (hK : l.map (·.1) = K)
    (ho' : W'.ownsRow base 24 1 v' (p + 1) (xs ++ [.slice A l.length c])) (hg : W.grownBy W' v.ownBlock) : Grove W' base v' (p + 1) (Ls ++ [K]) := by
  have hx : xs.length = p := by have := ho.1; simpa using this
  refine ⟨by simp [hlen], _, ho', fun j hj => ?_⟩
  rcases Nat.lt_or_ge j p with h1 | h1
  · obtain ⟨A', c', l', e, h3, h4⟩ := ht j h1
    refine ⟨A', c', l', by rw [List.getElem?_append_left (by omega)]; exact e, h3.grown_tr ho hg, ?_⟩
    rw [List.getD_eq_getElem?_getD, List.getElem?_append_left (by rw [hlen]; exact h1), ← List.getD_eq_getElem?_getD]; exact h4
  · obtain rfl : j = p := by omega
    refine ⟨A, c, l, by rw [List.getElem?_append_right (by omega), hx, Nat.sub_self]; rfl, hl.grown_tr ho hg, ?_⟩
    rw [List.getD_eq_getElem?_getD, List.getElem?_append_right (by rw [hlen]; exact Nat.le_refl _), hlen, Nat.sub_self]
    exact hK
end
section
set_option linter.unusedVariables false
set_option linter.unusedSimpArgs false
set_option linter.unnecessarySimpa false
open Go.RowKit
/-- Which kid of a kind is emptied. -/
def emptied (k : Int) (i : Nat) : Bool :=
  if k = 22 ∨ k = 43 ∨ k = 40 ∨ k = 44 ∨ k = 66 then i == 0 else if k = 27 ∨ k = 28 then i == 1 else if k = 41 ∨ k = 45 ∨ k = 42 then i == 0 || i == 2 else false
/-- A node that is left out of a row. -/
def leftB (L : List Nd) : Nat → Int → Bool
  | 0, _ => false
  | f + 1, n => if (nd L n).k = 51 ∨ (nd L n).k = 52 then true else if (nd L n).k = 50 then leftB L f ((nd L n).ks.getD 0 0) else if (nd L n).k = 44 then (nd L ((nd L n).ks.getD 1 0)).k == 1 else false
/-- The marks that stay. -/
def normN (x : Nd) : Nd := if x.k = 44 then { x with m := 0 } else if x.k = 66 then { x with m := if 2 ≤ x.m then 2 else 0 } else x
/-- A node without kids in the place of another one. -/
def oneN (y : Nd) : Nd := ⟨if y.k = 2 then 2 else 1, ⟨#[]⟩, 0, [], y.p⟩
/-- The parts that a row of kids leaves, each kid by its number in the row. -/
def partsL (P : Nat → Int → List (List Nd)) : Nat → List Int → List (List Nd)
  | _, [] => []
  | i, y :: ks => P i y ++ partsL P (i + 1) ks
/-- What a kid of a node leaves: an emptied one, nothing, or itself, stripped. -/
def stepS (L : List Nd) (g : Int → List Nd) (k : Int) (i : Nat) (y : Int) : List (List Nd) := if emptied k i then [[oneN (nd L y)]] else if leftB L L.length y then [] else [g y]
/-- A node and all beneath it, stripped. -/
def stripL (L : List Nd) : Nat → Int → List Nd
  | 0, _ => []
  | f + 1, n => if (nd L n).k = 33 ∨ (nd L n).k = 34 then stripL L f ((nd L n).ks.getD 0 0) else mkL (normN (nd L n)) (partsL (stepS L (stripL L f) (nd L n).k) 0 (nd L n).ks)
/-- What Strip answers. -/
def stripT (L : List Nd) : List Nd × Int := if (chk L).2 = 0 ∧ ((nd L 0).k = 3 ∨ exprK (nd L 0).k = true) then (stripL L L.length 0, 0) else ([], 7)
theorem each_at {L : List Nd} {ps : List Plc} : ∀ (ks : List Int) (i : Nat), eachP L ps i ks = true → ∀ q, q < ks.length → (ps.getD (min (i + q) (ps.length - 1)) anyP) L (ks.getD q 0) = true
  | [], _, _, q, hq => absurd hq (by simp)
  | k :: ks, i, h, q, hq => by
    have h' := Bool.and_eq_true_iff.1 (show ((ps.getD (min i (ps.length - 1)) anyP) L k && eachP L ps (i + 1) ks) = true from h)
    cases q with
    | zero => simpa using h'.1
    | succ q =>
      have := each_at ks (i + 1) h'.2 q (by simpa using hq)
      rw [show i + 1 + q = i + (q + 1) by omega] at this
      simpa using this
theorem kid0 {L : List Nd} {n : Int} (h : fitsB L n = true) (hk : (nd L n).k = 33 ∨ (nd L n).k = 34) : 0 < (nd L n).ks.length := by
  have h1 := (Bool.and_eq_true_iff.1 (show (saidB (nd L n) && kidsP L (nd L n)) = true from h)).2
  unfold kidsP at h1
  have h2 := (Bool.and_eq_true_iff.1 h1).2
  rw [if_neg (by omega), if_neg (by omega)] at h2
  rcases hk with hk | hk
  · rw [hk, show tab 33 = some ([exprP, typeP], false) by simp [tab]] at h2
    simp at h2; omega
  · rw [hk, show tab 34 = some ([exprP], false) by simp [tab]] at h2
    simp at h2; omega
theorem export_kid {L : List Nd} {n : Int} (h : fitsB L n = true) (hk : (nd L n).k = 50) : (nd L n).ks.length = 1 ∧ expK (nd L ((nd L n).ks.getD 0 0)) = true := by
  have h1 := (Bool.and_eq_true_iff.1 (show (saidB (nd L n) && kidsP L (nd L n)) = true from h)).2
  unfold kidsP at h1
  have h2 := (Bool.and_eq_true_iff.1 h1).2
  rw [if_neg (by omega), if_neg (by omega), hk, show tab 50 = some ([expP], false) by simp [tab]] at h2
  simp only [Bool.and_eq_true, Bool.false_or, decide_eq_true_eq, List.length_cons, List.length_nil] at h2
  have h3 := each_at _ _ h2.1.2 0 (by omega)
  exact ⟨h2.1.1.symm, by simpa [expP] using h3⟩
end
end Go.Proofs.YtpkdhciokiomlaaGreatDoor
