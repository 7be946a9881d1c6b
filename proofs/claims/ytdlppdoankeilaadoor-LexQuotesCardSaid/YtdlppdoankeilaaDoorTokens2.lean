/- The walk of chapter 2's lex.Tokens. -/
import Derived.Test.YtdlppdoankeilaaDoorTokens
namespace Go.Proofs.YtdlppdoankeilaaDoor
set_option linter.unusedVariables false
set_option linter.unusedSimpArgs false
set_option linter.unnecessarySimpa false
open Go.RowKit
attribute [local go_sem] cell_alloc_add cell_set_add lt_more Oper.semAt_some
theorem Kept.others {g : Nat} {r : Option Nat} {W W' : World} (h : Kept g r W W') (hg : ∀ o, W.heap[g]? = some o → o.isCells = true) (hr : ∀ b o, r = some b → W.heap[b]? = some o → o.isCells = true) : KeepsOthers W W' :=
  ⟨h.size, fun k o hk ho => (h.block k (Array.getElem?_eq_some_iff.1 hk).1 (fun e => by subst e; rw [hg _ hk] at ho; cases ho) (fun e => by rw [hr _ _ e.symm hk] at ho; cases ho)).trans hk⟩
theorem Kept.kb {g m : Nat} {r : Option Nat} {W W' : World} (h : Kept g r W W') (h0 : 1 < g) (hW : 1 < W.heap.size) (hr0 : r ≠ some 1) (hgm : g < m) (hrm : ∀ b, r = some b → b < m)
    (hg : ∀ cs t fr, W.heap[g]? = some (Obj.cells cs t fr) → t = 29 ∨ t = 22) (hr : ∀ b cs t fr, r = some b → W.heap[b]? = some (Obj.cells cs t fr) → t = 29 ∨ t = 22) : Kb m W W' :=
  ⟨h.size, h.block 1 hW (by omega) (fun e => hr0 e.symm),
    fun k cs t fr e h1 h2 => (h.block k (Array.getElem?_eq_some_iff.1 e).1 (fun q => (hg cs t fr (q ▸ e)).elim h1 h2) (fun q => (hr k cs t fr q.symm e).elim h1 h2)).trans e,
    fun k cs t fr e hk => (h.block k (Array.getElem?_eq_some_iff.1 e).1 (by omega) (fun q => by have := hrm k q.symm; omega)).trans e⟩
theorem own_far {W : World} {base size n : Nat} {e : TypeId} {v : Value} {xs : List Value} (h : W.ownsRow base e size v n xs) {p : Addr} (hp : p.block < base) (u : Value) : (W.setCell p u).ownsRow base e size v n xs :=
  ((Kept.refl p.block none W).set rfl u).own h (fun e => by have := own_ge h _ e; omega) (by
    rcases hq : v.ownBlock with _ | b
    · exact .inl rfl
    · exact .inr (by simp))
theorem own_down {W : World} {base B size n : Nat} {e : TypeId} {v : Value} {xs : List Value} (h : W.ownsRow base e size v n xs) (hB : B ≤ base) : W.ownsRow B e size v n xs := by
  obtain ⟨hl, hh⟩ := h
  refine ⟨hl, ?_⟩
  rcases hh with hh | ⟨b, cap, cur, hv, hb, hc, h3, h4, h5, h6⟩
  · exact .inl hh
  · exact .inr ⟨b, cap, cur, hv, by omega, hc, h3, h4, h5, h6⟩
theorem own_kind {W : World} {base size n : Nat} {e : TypeId} {v : Value} {xs : List Value} (h : W.ownsRow base e size v n xs) (b : Nat) (hb : v.ownBlock = some b) : ∃ cs fr, W.heap[b]? = some (Obj.cells cs e fr) := by
  rcases h.2 with ⟨rfl, _⟩ | ⟨g, cap, cur, rfl, _, hc, _⟩
  · simp [Value.ownBlock] at hb
  · simp [Value.ownBlock] at hb
    subst hb
    exact ⟨_, _, hc⟩
theorem items_done {p : List Tok × Nat × Nat} (h : ∀ x ∈ itemsOf p, x.2 = 0) : p.2.2 = 0 := by
  by_cases h0 : p.2.2 = 0
  · exact h0
  · have := h (⟨0, ⟨#[]⟩, p.2.1, 0⟩, (p.2.2 : Int)) (by unfold itemsOf; rw [if_neg h0]; simp)
    simpa using this
theorem items_fine {p : List Tok × Nat × Nat} (h : p.2.2 = 0) : (itemsOf p).map (·.1) = p.1 ∧ (itemsOf p).length = p.1.length := by
  unfold itemsOf
  rw [if_pos h]
  simp [Function.comp_def]
theorem tokR_fine {s : ByteArray} (h : (tokR s).2.2 = 0) : (tokR s).2.1 = 0 := by
  unfold tokR at h ⊢
  split at h <;> rename_i hc
  · rw [if_pos hc]
    unfold capT at h ⊢
    split at h
    · split at h
      · rename_i h2; simp [h2]
      · cases h
    · split at h
      · cases h
      · rename_i h3; simp [h3]
  · cases h
theorem items_stop {s : ByteArray} {p : List (Tok × Int)} {x : Tok × Int} (hp : p ++ [x] <+: itemsOf (tokR s)) (hx : x.2 ≠ 0) : x.1.lo = (tokR s).2.1 ∧ x.2 = ((tokR s).2.2 : Int) ∧ tokL s = [] := by
  have hm : x ∈ itemsOf (tokR s) := hp.subset (by simp)
  unfold itemsOf at hm
  rcases List.mem_append.1 hm with hm | hm
  · obtain ⟨t, _, rfl⟩ := List.mem_map.1 hm; exact absurd rfl hx
  · split at hm
    · cases hm
    · rename_i h0
      simp at hm
      subst hm
      exact ⟨rfl, rfl, if_neg h0⟩
theorem TkX.of {n : Nat} {w W : World} {pre : List (Tok × Int)} {x : Tok} {er : Int} (h : TkI n w pre W) (her : ¬ er = 0) :
    KeepsOthers W (((W.setCell ⟨n, 0, none⟩ (.slice none 0 0)).setCell ⟨n + 1, 0, none⟩ (.int .i64 (x.lo : Int))).setCell ⟨n + 1 + 1, 0, none⟩ (.int .i64 er)).drew ∧
    TkX n w (pre ++ [(x, er)]) (((W.setCell ⟨n, 0, none⟩ (.slice none 0 0)).setCell ⟨n + 1, 0, none⟩ (.int .i64 (x.lo : Int))).setCell ⟨n + 1 + 1, 0, none⟩ (.int .i64 er)).drew := by
  refine ⟨(((KeepsOthers.setCell _ _ _).trans (KeepsOthers.setCell _ _ _)).trans (KeepsOthers.setCell _ _ _)).trans (KeepsOthers.drew _), ⟨pre, (x, er), rfl, her, ?_, ?_, ?_⟩, ?_⟩
  · exact (((row_put1 h.r0 _).far (by simp <;> omega) _).far (by simp <;> omega) _).drew
  · exact ((row_put1 (h.r1.far (by simp <;> omega) _) _).far (by simp <;> omega) _).drew
  · exact (row_put1 ((h.r2.far (by simp <;> omega) _).far (by simp <;> omega) _) _).drew
  · exact (((h.b.setCell (p := ⟨n, 0, none⟩) (by simp) _).setCell (p := ⟨n + 1, 0, none⟩) (by simp) _).setCell (p := ⟨n + 1 + 1, 0, none⟩) (by simp; omega) _).drew
set_option maxRecDepth 100000 in
set_option maxHeartbeats 16000000 in
theorem Tokens_in (s : ByteArray) (A : Option Addr) (c : Nat) (hs : s.size ≤ 65536) (w : World) (hm : Mx w) (h : Rd w w.heap.size A s.size (byteC s)) :
    CallsIn Fence.wide 10 Tryd.prog 4 #[.slice A s.size c] w fun e w' => (∃ v, e = .returned (.tuple #[v, .int .i64 ((tokR s).2.1 : Int), .int .i64 ((tokR s).2.2 : Int)]) ∧ w'.ownsRow w.heap.size 29 4 v (tokL s).length (toksC (tokL s))) ∧ Below w.heap.size w w' := by
  have h0 : 1 < w.heap.size := by obtain ⟨x, hx⟩ := hm; exact (World.block_lt_of_cell? w ⟨1, 0, none⟩ hx)
  have HS := Lib.hid (fun W (hb : Below w.heap.size w W) => Scan_any s A c (by omega) W ((h.below hb).more hb.size))
  obtain ⟨i0, hi0, iz0, iz1, iz2⟩ := info_parts infoTok
  refine callsIn_of_wp_marks Tryd.func4 rfl trivial ?_ rfl
  simp only [Tryd.ntmps4, List.size_toArray, List.length_cons, List.length_nil, Nat.reduceAdd, Nat.reduceSub, Array.replicate_succ, Array.replicate_zero, List.push_toArray, List.append_toArray, List.nil_append, List.cons_append]
  obtain ⟨Wa, hWa⟩ : ∃ Wa : World, Wa = (((w.alloc (.cells #[.slice none 0 0] 22)).alloc (.cells #[.int .i64 0] 3)).alloc (.cells #[.int .i64 0] 23)).alloc (.cells #[.slice none 0 0] 22) := ⟨_, rfl⟩
  have q0 : Row Wa w.heap.size 22 #[.slice none 0 0] := by rw [hWa]; exact (((row_new rfl).alloc _).alloc _).alloc _
  have q1 : Row Wa (w.heap.size + 1) 3 #[.int .i64 0] := by rw [hWa]; exact ((row_new (by simp)).alloc _).alloc _
  have q2 : Row Wa (w.heap.size + 1 + 1) 23 #[.int .i64 0] := by rw [hWa]; exact (row_new (by simp)).alloc _
  have q3 : Row Wa (w.heap.size + 1 + 1 + 1) 22 #[.slice none 0 0] := by rw [hWa]; exact row_new (by simp)
  have qb : Below w.heap.size w Wa := by rw [hWa]; exact (by (repeat (first | (with_reducible exact Below.refl _ _) | (with_reducible assumption) | (with_reducible refine Below.setCell ?_ (by first | omega | (simp <;> omega)) _) | (with_reducible refine Below.alloc ?_ (by first | omega | (simp <;> omega)) _) | (with_reducible refine Below.drew ?_) | (with_reducible refine below_drewN ?_ _) | (with_reducible refine Below.trans ?_ (Below.mono (by with_reducible assumption) (by first | omega | (simp <;> omega)))))))
  have qz : Wa.heap.size = w.heap.size + 4 := by rw [hWa]; simp
  have HSW := Lib.hid (HS.out Wa qb)
  rw [hWa] at HSW
  gi_wp2_with (refine ⟨trivial, ?_⟩; gi_at_call 7; (with_reducible refine (callsIn_wide.2 HSW.out).mono ?_); rintro e W0 ⟨A', c', rfl, hc', rb, hbt, b0⟩)
  rw [← hWa] at rb b0
  have hz0 := Below.size b0
  have hlt0 : Wa.heap.size < W0.heap.size := rb.lt
  have hi : TkI w.heap.size w [] W0 := ⟨q0.below b0 (by omega), q1.below b0 (by omega), q2.below b0 (by omega), ⟨_, q3.below b0 (by omega), World.ownsRow_nil _ _ _ _⟩, (fun x hx => by cases hx), qb.trans (b0.mono (by omega))⟩
  have hm0 : Mx W0 := (hm.below qb h0).below b0 (by omega)
  rw [show Wa.heap.size = w.heap.size + 1 + 1 + 1 + 1 from qz] at rb
  clear hWa HSW HS h q0 q1 q2 q3
  apply range_it (F := Fence.wide) (n := 10) (by have := b0.size; omega) rfl (by decide) (gf := 15) (lb := #[.pointer (some ⟨w.heap.size + 1 + 1 + 1 + 1, 0, none⟩)]) rfl trivial (enters_of Tryd.func15 (by kernel_rfl) rfl)
    (Scan1_seq (w.heap.size + 1 + 1 + 1 + 1) s A' c' hs hc' W0 hm0 (by omega) rb hbt) (Below.refl _ _) (fun _ => rfl) (TkI w.heap.size w) (fun c pre W => c = .ret ∧ TkX w.heap.size w pre W)
    (TkI.own (Nat.le_refl _) (by omega)) (fun c q W W' row h hg hr => ⟨h.1, TkX.own (Nat.le_refl _) (by omega) q W W' row h.2 hg hr⟩)
    (fun q W W' h k => h.it k (by omega) (Nat.le_refl _)) (fun c q W W' h k => ⟨h.1, h.2.it k (by omega) (Nat.le_refl _)⟩) hi (fun x => .cells (tokA x.1) 29) _
  case hassign =>
    intro l x W q K hq hK
    unfold tokA at hK
    dsimp only [encI, tokA]
    gi_wp2
    rw [← hq]
    exact hK
  case hstop =>
    rintro D c pre W hD hpre ⟨rfl, ⟨p, x, rfl, hx, k0, k1, k2⟩, hB⟩ hK
    obtain ⟨e1, e2, e3⟩ := items_stop hpre hx
    gi_wp2
    have r0 := row_own k0 (grownBy_putObj' _ D (.deferred none)) (fun r e => by cases e; exact ⟨_, hK, rfl⟩)
    have r1 := row_own k1 (grownBy_putObj' _ D (.deferred none)) (fun r e => by cases e; exact ⟨_, hK, rfl⟩)
    have r2 := row_own k2 (grownBy_putObj' _ D (.deferred none)) (fun r e => by cases e; exact ⟨_, hK, rfl⟩)
    have c0 := r0.cell 0
    have c1 := r1.cell 0
    have c2 := r2.cell 0
    simp at c0 c1 c2
    refine ⟨by simp, .inl ⟨_, _, rfl, run_takeDeferred hK, ?_⟩⟩
    refine ⟨.tuple #[.slice none 0 0, .int .i64 (x.1.lo : Int), .int .i64 x.2], by simp [results, Tryd.f4, go_sem, c0, c1, c2], ⟨.slice none 0 0, by rw [e1, e2], by rw [e3]; exact World.ownsRow_nil _ _ _ _⟩, hB.trans (belowK_b (w := w) (Nat.le_refl _) _ D _ _ (by omega) hK rfl rfl)⟩
  case hdone =>
    rintro D xs W hD rfl hI hK
    have h22 := items_done hI.ok
    obtain ⟨e1, e2⟩ := items_fine h22
    have h21 := tokR_fine h22
    have hL : tokL s = (tokR s).1 := if_pos h22
    obtain ⟨v, rb1, ow1⟩ := hI.l
    rw [e1, e2] at ow1
    obtain ⟨Al, cl, rfl, hcl⟩ := own_shape ow1
    have HO := Lib.hid ow1
    have HL := Lib.hid hL
    have H21 := Lib.hid h21
    have H22 := Lib.hid h22
    clear ow1 hL h21 h22 e1 e2
    have z0 := hI.r0.cell 0
    have z1 := hI.r1.cell 0
    have z2 := hI.r2.cell 0
    have e0 := hI.r0.free 0
    have e1 := hI.r1.free 0
    have e2 := hI.r2.free 0
    have z3 := rb1.cell 0
    simp at z0 z1 z2 z3
    have y0 := hI.r0.lt
    have y1 := hI.r1.lt
    have y2 := hI.r2.lt
    have y3 := rb1.lt
    gi_wp2
    have f0 : Row W w.heap.size 22 #[.slice none 0 0] := hI.r0
    obtain ⟨W2, hW2⟩ : ∃ W2, W2 = ((W.setCell ⟨w.heap.size, 0, none⟩ (.slice Al (tokR s).1.length cl)).setCell ⟨w.heap.size + 1, 0, none⟩ (.int .i64 0)).setCell ⟨w.heap.size + 1 + 1, 0, none⟩ (.int .i64 0) := ⟨_, rfl⟩
    rw [← hW2]
    have g0 : Row W2 w.heap.size 22 #[.slice Al (tokR s).1.length cl] := by rw [hW2]; exact ((row_put1 hI.r0 _).far (by simp <;> omega) _).far (by simp <;> omega) _
    have g1 : Row W2 (w.heap.size + 1) 3 #[.int .i64 0] := by rw [hW2]; exact (row_put1 (hI.r1.far (by simp <;> omega) _) _).far (by simp <;> omega) _
    have g2 : Row W2 (w.heap.size + 1 + 1) 23 #[.int .i64 0] := by rw [hW2]; exact row_put1 ((hI.r2.far (by simp <;> omega) _).far (by simp <;> omega) _) _
    have go : W2.ownsRow (w.heap.size + 4) 29 4 (.slice Al (tokR s).1.length cl) (tokR s).1.length (toksC (tokR s).1) := by rw [hW2]; exact own_far (own_far (own_far HO.out (by simp <;> omega) _) (by simp <;> omega) _) (by simp <;> omega) _
    have gb : Below w.heap.size w W2 := by rw [hW2]; exact ((hI.b.setCell (p := ⟨w.heap.size, 0, none⟩) (by simp <;> omega) _).setCell (p := ⟨w.heap.size + 1, 0, none⟩) (by simp <;> omega) _).setCell (p := ⟨w.heap.size + 1 + 1, 0, none⟩) (by simp <;> omega) _
    have hK' : W2.heap[D]? = some (.deferred (some [])) := by rw [hW2]; exact (((KeepsOthers.setCell _ _ _).trans (KeepsOthers.setCell _ _ _)).trans (KeepsOthers.setCell _ _ _)).same D _ hK rfl
    have r0 := row_own g0 (grownBy_putObj' _ D (.deferred none)) (fun r e => by cases e; exact ⟨_, hK', rfl⟩)
    have r1 := row_own g1 (grownBy_putObj' _ D (.deferred none)) (fun r e => by cases e; exact ⟨_, hK', rfl⟩)
    have r2 := row_own g2 (grownBy_putObj' _ D (.deferred none)) (fun r e => by cases e; exact ⟨_, hK', rfl⟩)
    have ro := own_non go (grownBy_putObj' _ D (.deferred none)) (fun r e => by cases e; exact ⟨_, hK', rfl⟩)
    have c0 := r0.cell 0
    have c1 := r1.cell 0
    have c2 := r2.cell 0
    simp at c0 c1 c2
    refine ⟨by simp, .inl ⟨_, _, rfl, run_takeDeferred hK', ?_⟩⟩
    refine ⟨.tuple #[.slice Al (tokR s).1.length cl, .int .i64 0, .int .i64 0], by simp [results, Tryd.f4, go_sem, c0, c1, c2], ⟨_, by rw [H21.out, H22.out]; rfl, by rw [HL.out]; exact own_down ro (by omega)⟩, gb.trans (belowK_b (w := w) (Nat.le_refl _) _ D _ _ (by omega) hK' rfl rfl)⟩
  case hbody =>
    rintro l pre ⟨x, er⟩ W1 W q hI1 hit hq hqs hlen
    obtain ⟨v, rb1, ow1⟩ := hI1.l
    have rb2 := row_it rb1 hit noT2
    have ow2 := own_it ow1 hit noT1
    have hI := hI1.it hit (by omega) (Nat.le_refl _)
    have rq : Row W q 29 (tokA x) := hq
    have hlb := own_lt ow2
    have hlb1 := own_lt ow1
    have hgb := own_ge ow2
    obtain ⟨Al, cl, rfl, hcl⟩ := own_shape ow2
    have hz1 := hit.size
    have hz3 := rb1.lt
    have hzq := rq.lt
    have c5 := rb2.cell 0
    have f5 := rb2.free 0
    have y0 := rq.cell 0
    have y1 := rq.cell 1
    have y2 := rq.cell 2
    have y3 := rq.cell 3
    have l5 := rb2.lt
    simp [tokA] at c5 y0 y1 y2 y3
    by_cases her : er = 0
    · subst her
      gi_wp2_with (gi_at_builtin; refine wpListIn_append_own _ rfl _ _ 22 rfl (w.heap.size + 4) 29 i0 _ 4 40 Tryd.underlying22 hi0 iz0 iz1 iz2 rfl (by decide) _ _ _ rfl (ow2.alloc _) ⟨W.heap.size, 0, none⟩ 1 1 (tokC x) rfl rfl (tokC_lies x (row_new (by simp))) (tokC_one x) (by unfold maxLen; omega) (by omega) (by simp; omega) ?_; intro v2 w2 hown2 hg2 _; obtain ⟨A2, c2, rfl, hc2⟩ := own_shape hown2; have rbz := row_grown (rb2.alloc _) hg2 (fun e => by have := hgb _ e; omega); have fbz := rbz.free 0; have cbz := rbz.cell 0; simp at cbz; have lbz := rbz.lt)
      have kp : Kept (w.heap.size + 1 + 1 + 1) (Value.slice Al pre.length cl).ownBlock W (w2.setCell ⟨w.heap.size + 1 + 1 + 1, 0, none⟩ (.slice A2 (pre.length + 1) c2)) :=
        Kept.set (p := ⟨w.heap.size + 1 + 1 + 1, 0, none⟩) (((Kept.refl (w.heap.size + 1 + 1 + 1) (Value.slice Al pre.length cl).ownBlock W).below_next ((Below.refl _ W).alloc (Nat.le_refl _) _)).grown hg2 (.inl rfl)) rfl _
      refine ⟨kp.others (fun o ho => by have h2 : W.heap[w.heap.size + 1 + 1 + 1]? = _ := rb2; rw [h2] at ho; injection ho with ho; subst ho; rfl) (fun b o hb ho => by obtain ⟨cs, fr, h2⟩ := own_kind ow2 b hb; rw [h2] at ho; injection ho with ho; subst ho; rfl),
        kp.kb (by omega) (by omega) (fun e => by have := hgb _ e; omega) hz3 hlb1 (fun cs t fr ho => by have h2 : W.heap[w.heap.size + 1 + 1 + 1]? = _ := rb2; rw [h2] at ho; injection ho with ho; injection ho with _ ho _; exact .inr ho.symm) (fun b cs t fr hb ho => by obtain ⟨cs', fr', h2⟩ := own_kind ow2 b hb; rw [h2] at ho; injection ho with ho; injection ho with _ ho _; exact .inl ho.symm), ?_⟩
      have hne : ∀ k, k < w.heap.size + 4 → some k ≠ (Value.slice Al pre.length cl).ownBlock := fun k hk e => by have := hgb _ e.symm; omega
      refine ⟨kp.row hI.r0 (by omega) (hne _ (by omega)), kp.row hI.r1 (by omega) (hne _ (by omega)), kp.row hI.r2 (by omega) (hne _ (by omega)), ⟨_, row_put1 rbz _, ?_⟩, ?_, hI.b.trans (kp.below (by omega) hI.b.size (fun b e => by have := hgb _ e; omega))⟩
      · rw [List.map_append, show List.map (fun x : Tok × Int => x.1) [(x, (0 : Int))] = [x] by rfl, toksC_snoc, List.length_append]
        exact own_far hown2 (by simp <;> omega) _
      · intro y hy
        rcases List.mem_append.1 hy with hy | hy
        · exact hI.ok y hy
        · simp at hy; subst hy; rfl
    · have her1 : (er == 0) = false := by simpa using her
      have her2 : (er != 0) = true := by simpa using her
      have z0 := hI.r0.cell 0
      have z1 := hI.r1.cell 0
      have z2 := hI.r2.cell 0
      have e0 := hI.r0.free 0
      have e1 := hI.r1.free 0
      have e2 := hI.r2.free 0
      have k0 := hI.r0.lt
      have k1 := hI.r1.lt
      have k2 := hI.r2.lt
      simp at z0 z1 z2
      gi_wp2
      gi_region
      gi_wp2
      all_goals exact ⟨(TkX.of hI her).1, rfl, (TkX.of hI her).2⟩
theorem Tokens_any (s : ByteArray) (A : Option Addr) (c : Nat) (hs : s.size ≤ 65536) (w : World) (hm : Mx w) (h : Rd w w.heap.size A s.size (byteC s)) :
    Calls Tryd.prog 4 #[.slice A s.size c] w fun e w' => (∃ v, e = .returned (.tuple #[v, .int .i64 ((tokR s).2.1 : Int), .int .i64 ((tokR s).2.2 : Int)]) ∧ w'.ownsRow w.heap.size 29 4 v (tokL s).length (toksC (tokL s))) ∧ Below w.heap.size w w' :=
  callsIn_wide.1 (Tokens_in s A c hs w hm h)
end Go.Proofs.YtdlppdoankeilaaDoor
