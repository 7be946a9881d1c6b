/- Some texts of this claim, put together. -/
import Derived.Test.YtpkdhciokiomlaaDoorHBZ21
import Derived.Test.YtpkdhciokiomlaaDoorHBZ5
namespace Go.Proofs.YtpkdhciokiomlaaDoor
section
set_option linter.unusedVariables false
set_option linter.unusedSimpArgs false
set_option linter.unnecessarySimpa false
open Go.RowKit
/-- All stands but block b, and the block that the row v lies in; v' lies there too, or is new. -/
structure Fr (b : Nat) (v v' : Value) (w w' : World) : Prop where
  bw : Below b w w'
  st : ∀ g, g < w.heap.size → g ≠ b → v.ownBlock ≠ some g → w'.heap[g]? = w.heap[g]?
  nx : ∀ g, v'.ownBlock = some g → v.ownBlock = some g ∨ w.heap.size ≤ g
section
variable {b : Nat} {v v1 v2 : Value} {w w1 w2 : World}
theorem Fr.refl (b : Nat) (v : Value) (w : World) : Fr b v v w w := ⟨Below.refl _ _, fun _ _ _ _ => rfl, fun _ h => .inl h⟩
theorem Fr.trans (h : Fr b v v1 w w1) (k : Fr b v1 v2 w1 w2) : Fr b v v2 w w2 := by
  have hz := h.bw.size
  refine ⟨h.bw.trans k.bw, fun g h1 h2 h3 => ?_, fun g h1 => ?_⟩
  · refine (k.st g (by omega) h2 (fun e => ?_)).trans (h.st g h1 h2 h3)
    rcases h.nx g e with e | e
    · exact h3 e
    · omega
  · rcases k.nx g h1 with e | e
    · exact h.nx g e
    · right; omega
/-- What else a call makes. -/
theorem Fr.new (h : Fr b v v1 w w1) (hk : Below w1.heap.size w1 w2) (hb : b ≤ w1.heap.size) : Fr b v v1 w w2 := by
  have hz := h.bw.size
  exact ⟨h.bw.trans (hk.mono hb), fun g h1 h2 h3 => (hk.block g (by omega)).trans (h.st g h1 h2 h3), h.nx⟩
theorem Fr.alloc (h : Fr b v v1 w w1) (hb : b ≤ w1.heap.size) (o : Obj) : Fr b v v1 w (w1.alloc o) := h.new ((Below.refl _ _).alloc (Nat.le_refl _) o) hb
theorem Fr.drew (h : Fr b v v1 w w1) (hb : b ≤ w1.heap.size) : Fr b v v1 w w1.drew := h.new (Below.drew (Below.refl _ _)) hb
/-- A row that has grown, which is no older than w. -/
theorem Fr.grown {r : Option Nat} (h : Fr b v v1 w w1) (hg : w1.grownBy w2 r) (hb : b < w.heap.size) (hr : ∀ k, r = some k → w.heap.size ≤ k) : Fr b v v1 w w2 := by
  have hz := h.bw.size
  exact ⟨h.bw.grown hg (by omega) (fun k e => by have := hr k e; omega), fun g h1 h2 h3 => (hg.block g (by omega) (fun e => by have := hr g e.symm; omega)).trans (h.st g h1 h2 h3), h.nx⟩
/-- The row itself has grown. -/
theorem Fr.grow (h : Fr b v v1 w w1) (hg : w1.grownBy w2 v1.ownBlock) (hb : b ≤ w1.heap.size) (hr : ∀ k, v1.ownBlock = some k → b ≤ k) (ho : v2.ownBlock = v1.ownBlock ∨ v2.ownBlock = some w1.heap.size) : Fr b v v2 w w2 := by
  have hz := h.bw.size
  refine ⟨h.bw.grown hg hb hr, fun g h1 h2 h3 => (hg.block g (by omega) (fun e => ?_)).trans (h.st g h1 h2 h3), fun g e => ?_⟩
  · rcases h.nx g e.symm with e | e
    · exact h3 e
    · omega
  · rcases ho with ho | ho
    · exact h.nx g (ho ▸ e)
    · right
      rw [ho] at e
      injection e with e
      omega
/-- A store into the struct, into the row, or into what is no older than w. -/
theorem Fr.put (h : Fr b v v1 w w1) {p : Addr} (hp : p.block = b ∨ (b ≤ p.block ∧ (v1.ownBlock = some p.block ∨ w.heap.size ≤ p.block))) (u : Value) : Fr b v v1 w (w1.setCell p u) := by
  have hz := h.bw.size
  refine ⟨h.bw.setCell (by omega) u, fun g h1 h2 h3 => (Below.heap_setCell w1 p u g (fun e => ?_)).trans (h.st g h1 h2 h3), h.nx⟩
  subst e
  rcases hp with hp | ⟨_, hp | hp⟩
  · exact h2 hp
  · rcases h.nx _ hp with e | e
    · exact h3 e
    · omega
  · omega
theorem Fr.row {g : Nat} {t : TypeId} {cs : Array Value} (h : Fr b v v1 w w1) (hr : Row w g t cs) (h1 : g ≠ b) (h2 : v.ownBlock ≠ some g) : Row w1 g t cs := (h.st g hr.lt h1 h2).trans hr
theorem Fr.own {base size n : Nat} {e : TypeId} {u : Value} {xs : List Value} (h : Fr b v v1 w w1) (ho : w.ownsRow base e size u n xs) (h1 : ∀ g, u.ownBlock = some g → g ≠ b ∧ v.ownBlock ≠ some g) : w1.ownsRow base e size u n xs := by
  have hl := own_lt ho
  obtain ⟨h5, hh⟩ := ho
  refine ⟨h5, ?_⟩
  rcases hh with hh | ⟨g, cap, cur, rfl, hb, hc, h6⟩
  · exact .inl hh
  · exact .inr ⟨g, cap, cur, rfl, hb, (h.st g (hl g rfl) (h1 g rfl).1 (h1 g rfl).2).trans hc, h6⟩
end
/-- A node's kids set. -/
theorem OwnT.putk {W : World} {base g n c : Nat} {l : List NdV} {j : Nat} {y : Nd} {s S' : Value} {ks : List Int} (h : OwnT W base (.slice (some ⟨g, 0, none⟩) n c) l) (hn : l.length = n) (hj : l[j]? = some (y, s)) (hr : W.ownsRow base 3 1 S' ks.length (intsC ks)) (hap : ∀ p ∈ l, ∀ b, p.2.ownBlock = some b → S'.ownBlock ≠ some b)
    (hw : ∀ k ∈ ks, -9223372036854775808 ≤ k ∧ k ≤ 9223372036854775807) : OwnT (W.setCell ⟨g, j * 5 + 3, none⟩ S') base (.slice (some ⟨g, 0, none⟩) n c) (l.set j (⟨y.k, y.x, y.m, ks, y.p⟩, S')) := by
  have hrow := h.row
  rw [hn] at hrow
  have hlt : j < l.length := (List.getElem?_eq_some_iff.1 hj).1
  have hset : ∀ {u : Value} {m : Nat} {zs : List Value}, W.ownsRow base 3 1 u m zs → (W.setCell ⟨g, j * 5 + 3, none⟩ S').ownsRow base 3 1 u m zs := fun ho => ownsRow_setCell_other ho (fun e => own_two hrow ho ne_ND g e (by simp [Value.ownBlock])) _
  refine ⟨?_, ⟨?_, ?_, ?_⟩⟩
  · have h2 := (hrow.stored (j * 5 + 3) S').1
    rw [ndsC_set l j (y, s) S' hj] at h2
    rw [List.length_set, hn]
    have e : ndsC (l.set j (⟨y.k, y.x, y.m, ks, y.p⟩, S')) = ndsC (l.set j (y, S')) := by
      apply List.ext_getElem?
      intro i
      rcases Nat.lt_or_ge i (l.length * 5) with hi | hi
      · have hd : i / 5 * 5 + i % 5 = i := by omega
        have hm : i % 5 < 5 := by omega
        have hq : i / 5 < l.length := by omega
        rw [← hd]
        by_cases hij : i / 5 = j
        · rw [hij, ndsC_at _ j (⟨y.k, y.x, y.m, ks, y.p⟩, S') (by rw [List.getElem?_set, if_pos rfl, if_pos hlt]) _ hm, ndsC_at _ j (y, S') (by rw [List.getElem?_set, if_pos rfl, if_pos hlt]) _ hm]
          rfl
        · obtain ⟨p, hp⟩ : ∃ p, l[i / 5]? = some p := ⟨l[i / 5], List.getElem?_eq_getElem hq⟩
          rw [ndsC_at _ (i / 5) p (by rw [List.getElem?_set, if_neg (fun e => hij e.symm)]; exact hp) _ hm, ndsC_at _ (i / 5) p (by rw [List.getElem?_set, if_neg (fun e => hij e.symm)]; exact hp) _ hm]
      · rw [List.getElem?_eq_none (by rw [ndsC_len, List.length_set]; exact hi), List.getElem?_eq_none (by rw [ndsC_len, List.length_set]; exact hi)]
    rw [e]
    exact h2
  · intro p hp
    rcases List.mem_or_eq_of_mem_set hp with hp | rfl
    · exact hset (h.kids.row p hp)
    · exact hset hr
  · have key : ∀ (l : List NdV) (j : Nat), (l.Pairwise fun p q => ∀ g, p.2.ownBlock = some g → q.2.ownBlock ≠ some g) → (∀ p ∈ l, ∀ b, p.2.ownBlock = some b → S'.ownBlock ≠ some b) → (l.set j (⟨y.k, y.x, y.m, ks, y.p⟩, S')).Pairwise fun p q => ∀ g, p.2.ownBlock = some g → q.2.ownBlock ≠ some g := by
      intro l
      induction l with
      | nil => intro j h1 h2; simp
      | cons q l ih =>
        intro j h1 h2
        obtain ⟨h3, h4⟩ := List.pairwise_cons.1 h1
        cases j with
        | zero => exact List.pairwise_cons.2 ⟨fun p hp b e e2 => h2 p (by simp [hp]) b e2 e, h4⟩
        | succ j =>
          refine List.pairwise_cons.2 ⟨fun p hp b e => ?_, ih j h4 (fun p hp => h2 p (by simp [hp]))⟩
          rcases List.mem_or_eq_of_mem_set hp with hp | rfl
          · exact h3 p hp b e
          · exact h2 q (by simp) b e
    exact key l j h.kids.apart hap
  · intro p hp
    rcases List.mem_or_eq_of_mem_set hp with hp | rfl
    · exact h.kids.wide p hp
    · exact ⟨(h.kids.wide (y, s) (List.mem_of_getElem? hj)).1, hw⟩
end
section
set_option linter.unusedVariables false
set_option linter.unusedSimpArgs false
set_option linter.unnecessarySimpa false
open Go.RowKit
attribute [local go_sem] cell_alloc_add cell_set_add lt_more
def bareN (y : Nd) : Nd := { y with ks := [] }
set_option maxRecDepth 100000 in
set_option maxHeartbeats 8000000 in
theorem lay_any (b base : Nat) (y : Nd) (S0 : Option Addr) (n0 c0 : Nat) (F tv : Value) (l : List NdV) (w : World) (hR : Row w b 37 #[F, tv]) (hO : OwnT w base tv l) (hbb : b < base) (hbs : base ≤ w.heap.size) (hl : l.length ≤ 1000000) (hym : -9223372036854775808 ≤ y.m ∧ y.m ≤ 9223372036854775807) : Calls Tryd.prog 20 #[.pointer (some ⟨b, 0, none⟩), .agg #[.int .i64 y.k, .string y.x, .int .i64 y.m, .slice S0 n0 c0, .int .i64 y.p]] w fun r w' => ∃ tv', r = .returned (.int .i64 (l.length : Int)) ∧ Row w' b 37 #[F, tv'] ∧ OwnT w' base tv' (l ++ [(bareN y, .slice none 0 0)]) ∧ Fr b tv tv' w w' := by
  obtain ⟨i0, hi0, iz0, iz1, iz2⟩ := info_parts infoNode
  obtain ⟨k, x, m, ks, p⟩ := y
  simp only at hym ⊢
  have HW := Lib.hid hym
  obtain ⟨wa, hwa⟩ : ∃ wa : World, wa = w.alloc (.cells #[.int .i64 k, .string x, .int .i64 m, .slice none 0 0, .int .i64 p] 35) := ⟨_, rfl⟩
  have bA : Below w.heap.size w wa := by rw [hwa]; exact (by (exact bl))
  have fA : Fr b tv tv w wa := by rw [hwa]; exact (Fr.refl _ _ _).alloc (by omega) _
  have zA : w.heap.size < wa.heap.size := by rw [hwa]; simp
  have rN : Row wa w.heap.size 35 #[.int .i64 k, .string x, .int .i64 m, .slice none 0 0, .int .i64 p] := by rw [hwa]; exact row_new rfl
  have rS : Row wa b 37 #[F, tv] := hR.below bA (by omega)
  have oT := hO.below bA
  have hne := row_ne rS oT.row (by decide)
  obtain ⟨A1, c1, rfl, hc1, hm1⟩ := own_slice oT.row
  have HOW := Lib.hid oT
  have HS := Lib.hid rS
  have HF := Lib.hid fA
  have HNE := Lib.hid hne
  have HGE := Lib.hid (own_ge oT.row)
  have lS := rS.lt
  have fS := rS.free 1
  have n0' := rN.cell 0
  have n1' := rN.cell 1
  have n2' := rN.cell 2
  have n3' := rN.cell 3
  have n4' := rN.cell 4
  have s1 := rS.cell 1
  simp at n0' n1' n2' n3' n4' s1
  have z0 := bA.size
  clear hR hO oT rS fA hne hym bA
  generalize hq : l.length = q at *
  have HQ := Lib.hid hq
  clear hq
  have HRW := Lib.hid (show wa.ownsRow base 35 5 (.slice A1 q c1) q (ndsC l) from by have := HOW.out.row; rw [HQ.out] at this; exact this)
  unfold maxLen at hm1
  go_enter Tryd.func20, Tryd.ntmps20
  go_upto_region 2 with fail
  rw [← hwa]
  clear hwa
  go_region_law (first
    | ((refine step_append_own (by rfl) (.tmp 11) (.tmp 13) 22 (by rfl) base 35 i0 _ 5 64 Tryd.underlying22 hi0 iz0 iz1 iz2 rfl (by decide) (.slice A1 q c1) q (ndsC l) (by rfl) (HRW.out.alloc _) ⟨wa.heap.size, 0, none⟩ 1 1 (ndC ((⟨k, x, m, [], p⟩ : Nd), .slice none 0 0)) (by rfl) rfl (row5_lies (row_new rfl)) (ndC_one _ rfl) (by unfold maxLen; omega) (by omega) (by simp; omega) ?_); intro v3 w3 own3 hg3 hob3; obtain ⟨A3, c3, rfl, hc3, hm3⟩ := own_slice own3; have r3 : Row w3 b 37 #[F, .slice A1 q c1] := row_grown (by exact HS.out.alloc _) hg3 HNE.out; have l3 := r3.lt; have f3 := r3.free 1; have t3 := r3.cell 1; simp at t3)
    | fail)
  all_goals
    obtain ⟨w4, hw4⟩ : ∃ w4 : World, w4 = w3.setCell ⟨b, 1, none⟩ (.slice A3 (q + 1) c3) := ⟨_, rfl⟩
    have r4 : Row w4 b 37 #[F, .slice A3 (q + 1) c3] := by rw [hw4]; have := r3.put 1 (.slice A3 (q + 1) c3); simpa using this
    have o4 : OwnT w4 base (.slice A3 (q + 1) c3) (l ++ [((⟨k, x, m, [], p⟩ : Nd), .slice none 0 0)]) := by
      rw [hw4]
      refine OwnT.far ?_ (by show b < base; exact hbb) _
      refine OwnT.snoc (p := ((⟨k, x, m, [], p⟩ : Nd), .slice none 0 0)) (HOW.out.below ?_) (by rw [HQ.out]; exact own3) hg3 (World.ownsRow_nil _ _ _ _) ⟨HW.out, fun k hk => by cases hk⟩ (fun q hq g e e2 => by simp [Value.ownBlock] at e2)
      exact bl
    have f4 : Fr b (.slice A1 q c1) (.slice A3 (q + 1) c3) w w4 := by
      rw [hw4]
      refine ((HF.out.new ?_ (by omega)).grow hg3 (by simp; omega) (fun k hk => by have := HGE.out k hk; omega) hob3).put (.inl rfl) _
      exact bl
    try rw [← hw4]
    clear hw4 own3 hg3 hob3 r3 l3 f3 t3
    have l4 := r4.lt
    have s4 := r4.cell 1
    simp at s4
    go_wp2
    go_ret
    exact ⟨_, rfl, r4, o4, f4⟩
end
section
set_option linter.unusedVariables false
set_option linter.unusedSimpArgs false
set_option linter.unnecessarySimpa false
open Go.RowKit
theorem ST_IT : (3 : TypeId) ≠ 37 := by decide
theorem ST_ND : (35 : TypeId) ≠ 37 := by decide
section
variable {b base c0 : Nat} {w w2 w3 w4 wx : World} {tv tq tq' v9 v9' F : Value} {l m : List NdV} {ks : List Int}
/-- The kids' row stands while the tree grows. -/
theorem kid_mid (hV : w2.ownsRow c0 3 1 v9 ks.length (intsC ks)) (hO : OwnT w2 base tq l) (hA : ∀ p ∈ l, ∀ g, p.2.ownBlock = some g → v9.ownBlock ≠ some g) (hb : b < c0) (hF : Fr b tq tq' w2 w3) (hN : ∀ p ∈ m, ∀ g, p.2.ownBlock = some g → w2.heap.size ≤ g) :
    w3.ownsRow c0 3 1 v9 ks.length (intsC ks) ∧ ∀ p ∈ l ++ m, ∀ g, p.2.ownBlock = some g → v9.ownBlock ≠ some g := by
  refine ⟨hF.own hV (fun g hg => ⟨by have := own_ge hV g hg; omega, own_two hO.row hV ne_ND g hg⟩), fun p hp g hg e => ?_⟩
  rcases List.mem_append.1 hp with hp | hp
  · exact hA p hp g hg e
  · have := hN p hp g hg
    have := own_lt hV g e
    omega
/-- The kids' row has grown; the tree stands. -/
theorem kid_end (hR : Row w3 b 37 #[F, tq']) (hO : OwnT w3 base tq' l) (hV : w3.ownsRow c0 3 1 v9 ks.length (intsC ks)) (hA : ∀ p ∈ l, ∀ g, p.2.ownBlock = some g → v9.ownBlock ≠ some g) (hF : Fr b tv tq' w w3) (hb : b < w.heap.size) (hc : w.heap.size ≤ c0)
    (hx : Below w3.heap.size w3 wx) (hg : wx.grownBy w4 v9.ownBlock) (hob : v9'.ownBlock = v9.ownBlock ∨ v9'.ownBlock = some wx.heap.size) :
    Row w4 b 37 #[F, tq'] ∧ OwnT w4 base tq' l ∧ (∀ p ∈ l, ∀ g, p.2.ownBlock = some g → v9'.ownBlock ≠ some g) ∧ Fr b tv tq' w w4 := by
  have hz := hx.size
  have hz2 := hF.bw.size
  refine ⟨row_grown (hR.below hx hR.lt) hg (row_ne hR hV ST_IT), ⟨own_grown (own_below hO.row hx) hg (fun g e e2 => own_two hO.row hV ne_ND g e2 e), ⟨fun p hp => own_grown (own_below (hO.kids.row p hp) hx) hg (fun g e e2 => hA p hp g e e2), hO.kids.apart, hO.kids.wide⟩⟩, fun p hp g e e2 => ?_, (hF.new hx (by omega)).grown hg hb (fun k e => by have := own_ge hV k e; omega)⟩
  rcases hob with ho | ho
  · exact hA p hp g e (ho ▸ e2)
  · have := hO.kids.lt p hp g e
    rw [ho] at e2
    injection e2 with e2
    omega
end
end
end Go.Proofs.YtpkdhciokiomlaaDoor
