/- Plain: a range over an iterator that turns blocks of its own (a scanner's, a row of bools): what stands behind the loop. No program in sight. -/
import Derived.Test.YtdlppdoankeilaaDoorNext
import Derived.RangeFuncFrom
import Derived.Lib.OwnKind
namespace Go.Proofs.YtdlppdoankeilaaDoor
set_option linter.unusedVariables false
set_option linter.unusedSimpArgs false
set_option linter.unnecessarySimpa false
open Go.RowKit
/-- A block that the iterator may turn: cells of a scanner or of bools. -/
def ownTy (t : TypeId) : Prop := t = 63 ∨ t = 4
/-- The world behind a step of the iterator: new blocks; of the old ones, from B on, scanners and rows of bools may have turned. -/
structure It (B : Nat) (A C : World) : Prop where
  os : C.os = A.os
  tape : C.tape = A.tape
  output : C.output = A.output
  size : A.heap.size ≤ C.heap.size
  block : ∀ k, k < A.heap.size → C.heap[k]? = A.heap[k]? ∨ (B ≤ k ∧ ∃ cs t fr, A.heap[k]? = some (.cells cs t fr) ∧ ownTy t)
theorem It.refl (B : Nat) (A : World) : It B A A := ⟨rfl, rfl, rfl, Nat.le_refl _, fun _ _ => .inl rfl⟩
theorem It.trans {B : Nat} {A C D : World} (h : It B A C) (k : It B C D) : It B A D :=
  ⟨k.os.trans h.os, k.tape.trans h.tape, k.output.trans h.output, Nat.le_trans h.size k.size, fun i hi => by
    rcases h.block i hi with e | e
    · rcases k.block i (Nat.lt_of_lt_of_le hi h.size) with f | ⟨hB, cs, t, fr, f, g⟩
      · exact .inl (f.trans e)
      · exact .inr ⟨hB, cs, t, fr, e ▸ f, g⟩
    · exact .inr e⟩
theorem It.of_below {B : Nat} {A C : World} (h : Below A.heap.size A C) : It B A C := ⟨h.os, h.tape, h.output, h.size, fun k hk => .inl (h.block k hk)⟩
theorem It.mono {B B' : Nat} {A C : World} (h : It B A C) (hB : B' ≤ B) : It B' A C :=
  ⟨h.os, h.tape, h.output, h.size, fun k hk => (h.block k hk).imp_right fun ⟨a, b⟩ => ⟨by omega, b⟩⟩
theorem It.below {B n : Nat} {A C : World} (h : It B A C) (hn : n ≤ B) (hA : n ≤ A.heap.size) : Below n A C :=
  ⟨h.os, h.tape, h.output, h.size, fun k hk => by
    rcases h.block k (by omega) with e | ⟨e, _⟩
    · exact e
    · omega⟩
theorem It.obj {B k : Nat} {A C : World} {o : Obj} (h : It B A C) (ho : A.heap[k]? = some o) (hn : ∀ cs t fr, o = .cells cs t fr → ¬ ownTy t) : C.heap[k]? = some o := by
  have hk := (Array.getElem?_eq_some_iff.1 ho).1
  rcases h.block k hk with e | ⟨_, cs, t, fr, e, f⟩
  · exact e.trans ho
  · rw [ho] at e; injection e with e; exact absurd f (hn _ _ _ e)
theorem It.other {B k : Nat} {A C : World} {o : Obj} (h : It B A C) (ho : A.heap[k]? = some o) (hc : o.isCells = false) : C.heap[k]? = some o := h.obj ho fun cs t fr e => by subst e; cases hc
theorem It.of_after {B g n c i : Nat} {A : Option Addr} {hs hs' : List Bool} {hv : Value} {w w' : World} {j : Nat} (hB : B ≤ g) (hg : Scn w g A n c i hv) (ho : w.ownsRow (g + 1) 4 1 hv hs.length (hs.map .bool)) (h : After g A n c j hs' hv w w') : It B w w' := by
  obtain ⟨_, _, _, k, _⟩ := h
  refine ⟨k.os, k.tape, k.output, k.size, fun b hb => ?_⟩
  by_cases e : b = g
  · subst e; exact .inr ⟨hB, _, _, _, hg, .inl rfl⟩
  · by_cases f : some b = hv.ownBlock
    · obtain ⟨cs, fr, hh⟩ : ∃ cs fr, w.heap[b]? = some (.cells cs 4 fr) := by
        rcases ho.2 with ⟨rfl, _⟩ | ⟨gb, cap, cur, rfl, _, hc, _⟩
        · simp [Value.ownBlock] at f
        · simp [Value.ownBlock] at f
          subst f
          exact ⟨_, _, hc⟩
      exact .inr ⟨by have := own_ge ho b f.symm; omega, cs, _, fr, hh, .inr rfl⟩
    · exact .inl (k.block b hb e f)
/-- What the body of a round must leave: the library's first block, all cells but tokens and slices of tokens, and all cells of blocks from m on. -/
structure Kb (m : Nat) (A C : World) : Prop where
  size : A.heap.size ≤ C.heap.size
  zero : C.heap[1]? = A.heap[1]?
  cells : ∀ (k : Nat) (cs : Array Value) (t : TypeId) (fr : Nat × Nat), A.heap[k]? = some (Obj.cells cs t fr) → t ≠ 29 → t ≠ 22 → C.heap[k]? = some (Obj.cells cs t fr)
  late : ∀ (k : Nat) (cs : Array Value) (t : TypeId) (fr : Nat × Nat), A.heap[k]? = some (Obj.cells cs t fr) → m ≤ k → C.heap[k]? = some (Obj.cells cs t fr)
theorem Kb.refl (m : Nat) (A : World) : Kb m A A := ⟨Nat.le_refl _, rfl, fun _ _ _ _ h _ _ => h, fun _ _ _ _ h _ => h⟩
theorem Kb.trans {m : Nat} {A C D : World} (h : Kb m A C) (k : Kb m C D) : Kb m A D :=
  ⟨Nat.le_trans h.size k.size, k.zero.trans h.zero, fun i cs t fr e h1 h2 => k.cells i cs t fr (h.cells i cs t fr e h1 h2) h1 h2, fun i cs t fr e h1 => k.late i cs t fr (h.late i cs t fr e h1) h1⟩
theorem Kb.put {m : Nat} {W : World} {l : Nat} {o : Obj} (o' : Obj) (h : W.heap[l]? = some o) (ho : o.isCells = false) (hl : l ≠ 1) : Kb m W (W.putObj l o') := by
  have key : ∀ (k : Nat) (cs : Array Value) (t : TypeId) (fr : Nat × Nat), W.heap[k]? = some (Obj.cells cs t fr) → (W.putObj l o').heap[k]? = some (Obj.cells cs t fr) := fun k cs t fr e => by
    by_cases f : k = l
    · subst f; rw [h] at e; injection e with e; subst e; cases ho
    · rw [World.putObj_heap_other f]; exact e
  exact ⟨by simp, World.putObj_heap_other (Ne.symm hl), fun k cs t fr e _ _ => key k cs t fr e, fun k cs t fr e _ => key k cs t fr e⟩
theorem Kb.alloc {m : Nat} {W : World} (o : Obj) (h : 1 < W.heap.size) : Kb m W (W.alloc o) :=
  ⟨by simp, Below.heap_alloc _ _ _ h, fun k cs t fr e _ _ => (Below.heap_alloc _ _ _ (Array.getElem?_eq_some_iff.1 e).1).trans e, fun k cs t fr e _ => (Below.heap_alloc _ _ _ (Array.getElem?_eq_some_iff.1 e).1).trans e⟩
theorem It.alloc {B : Nat} {A C : World} (h : It B A C) (o : Obj) : It B A (C.alloc o) := h.trans (It.of_below ((Below.refl _ _).alloc (Nat.le_refl _) _))
theorem It.put {B l : Nat} {A C : World} (h : It B A C) (o : Obj) : It B (A.putObj l o) (C.putObj l o) := by
  refine ⟨h.os, h.tape, h.output, by simpa using h.size, fun k hk => ?_⟩
  have hk' : k < A.heap.size := by simpa using hk
  by_cases f : k = l
  · subst f
    rw [World.putObj_heap_same hk', World.putObj_heap_same (Nat.lt_of_lt_of_le hk' h.size)]; exact .inl rfl
  · rw [World.putObj_heap_other f, World.putObj_heap_other f]; exact h.block k hk'
section
variable {α : Type} {F : Fence} {n : Nat} {P : Program}
/-- An iterator's contract: its items S (or, left, a piece Sp), each handed on where the caller's J stands; J stands behind its own steps. -/
def SeqIt (F : Fence) (n : Nat) (P : Program) (gf : Nat) (lb : Array Value) (encs : α → Array Value) (S Sp : List α → Prop) (N : Nat) (w0 : World) : Prop :=
  ∀ (l : Nat) (J Jx : List α → World → Prop) (W : World), Below w0.heap.size w0 W → (∀ s A C, J s A → It W.heap.size A C → J s C) → (∀ s A C, Jx s A → It W.heap.size A C → Jx s C) →
    (∀ pre x W0 W1, J pre W0 → It W.heap.size W0 W1 → pre.length < N → YieldAt F (n - 1) P l (encs x) W1 fun e W' => (e = .returned (.bool true) ∧ J (pre ++ [x]) W' ∧ Kb W0.heap.size W1 W') ∨ (e = .returned (.bool false) ∧ Jx (pre ++ [x]) W')) →
    J [] W → CallsIn F n P gf (#[.func (.yield l) #[] #[]] ++ lb) W fun e W' => (∃ v, e = .returned v) ∧ ((∃ xs, S xs ∧ J xs W') ∨ (∃ pre, Sp pre ∧ Jx pre W'))
/-- How a round's body may be left. -/
def RoundQ (I : List α → World → Prop) (Ix : Code → List α → World → Prop) (xs : List α) (m : Nat) (W : World) : Exit → Act → World → Prop
  | .normal, _, W' => KeepsOthers W W' ∧ Kb m W W' ∧ I xs W'
  | .ret, _, W' => KeepsOthers W W' ∧ Ix .ret xs W'
  | _, _, _ => False
theorem range_it {g : Operand} {ps : Array Tmp} {assign body : Code} {Q : Exit → Act → World → Prop} {a : Act} {w : World} (hw1 : 1 < w.heap.size) (hro : F.round = none) (h1 : 1 ≤ n) {gf : Nat} {lb : Array Value}
    (hg : a.eval g = .func (.func gf) #[] lb) (hF : F.fn gf) (eg : ∀ args w, (callFunc gf args).run P w = .ok (.enter gf args) w) {encs : α → Array Value} {S Sp : List α → Prop} {N : Nat} {w0 : World}
    (hseq : SeqIt F (n - 1) P gf lb encs S Sp N w0) (hb0 : Below w0.heap.size w0 w) (hps : ∀ x, (encs x).size = ps.size) (I : List α → World → Prop) (Ix : Code → List α → World → Prop)
    (hI : OwnFrom w.heap.size I) (hIx : ∀ c, OwnFrom w.heap.size (Ix c)) (hJ : ∀ s A C, I s A → It w.heap.size A C → I s C) (hJx : ∀ c s A C, Ix c s A → It w.heap.size A C → Ix c s C) (h0 : I [] w) (ob : α → Obj) (a₁ : α → Nat → Act)
    (hassign : ∀ (l : Nat) (x : α) (W : World) (q : Nat) (K : Act → World → Prop), q = W.heap.size → K (a₁ x q) (W.alloc (ob x)) → assign.wpIn (F.inRound l) (n - 1 - 1) P (Exit.then K (fun _ _ _ => False)) { tmps := (ps.zip (encs x)).foldl (fun t (p, v) => t.setIfInBounds p v) a.tmps, defers := [] } W)
    (hbody : ∀ (l : Nat) (pre : List α) (x : α) (W0 W : World) (q : Nat), I pre W0 → It w.heap.size W0 W → W.heap[q]? = some (ob x) → W0.heap.size ≤ q → pre.length < N → body.wpIn (F.inRound l) (n - 1 - 1) P (RoundQ I Ix (pre ++ [x]) W0.heap.size W) (a₁ x q) W)
    (hdone : ∀ (D : Nat) (xs : List α) (W : World), w.heap.size ≤ D → S xs → I xs W → W.heap[D]? = some (.deferred (some [])) → Q .normal { a with defers := { target := .collected D, args := #[] } :: a.defers } W)
    (hstop : ∀ (D : Nat) (c : Code) (pre : List α) (W : World), w.heap.size ≤ D → Sp pre → Ix c pre W → W.heap[D]? = some (.deferred (some [])) → c.wpIn F n P Q { a with defers := { target := .collected D, args := #[] } :: a.defers } W) :
    (Code.rangeFunc g ps assign body).wpIn F n P Q a w := by
  refine wpIn_rangeFunc fun fn hfn => ?_
  rw [hro]
  obtain ⟨L, hL⟩ : ∃ L : LoopState → Option Code → Obj, L = fun st pe => .loop { state := st, pending := pe, fn, tmps := a.tmps, params := ps, assign, body, defers := w.heap.size } := ⟨_, rfl⟩
  have hLc : ∀ st pe, (L st pe).isCells = false := fun st pe => by rw [hL]; rfl
  obtain ⟨V, hV⟩ : ∃ V, V = (w.alloc (.deferred (some []))).alloc (L .ready none) := ⟨_, rfl⟩
  have hVs : V.heap.size = w.heap.size + 2 := by rw [hV]; simp
  have vL : V.heap[w.heap.size + 1]? = some (L .ready none) := by
    rw [hV]; have := World.alloc_heap_new (w.alloc (.deferred (some []))) (L .ready none); rwa [World.size_alloc] at this
  have vD : V.heap[w.heap.size]? = some (.deferred (some [])) := by
    rw [hV]; exact (Below.heap_alloc _ _ _ (by simp)).trans (World.alloc_heap_new w _)
  have putL : ∀ {W : World} {o : Obj} (o' : Obj), W.heap[w.heap.size + 1]? = some o → (W.putObj (w.heap.size + 1) o').heap[w.heap.size + 1]? = some o' := fun o' h => World.putObj_heap_same (Array.getElem?_eq_some_iff.1 h).1
  have putD : ∀ {W : World} (o' : Obj), W.heap[w.heap.size]? = some (.deferred (some [])) → (W.putObj (w.heap.size + 1) o').heap[w.heap.size]? = some (.deferred (some [])) := fun o' h => (World.putObj_heap_other (by omega)).trans h
  refine ⟨w.heap.size + 1, [{ target := .collected w.heap.size, args := #[] }], V, { target := .fn (.func gf) lb, args := #[.func (.yield (w.heap.size + 1)) #[] #[]] }, V, gf, #[.func (.yield (w.heap.size + 1)) #[] #[]] ++ lb, V, ?_, ?_, ?_, ?_, fun _ => h1, ?_⟩
  · rw [hV, hL]; exact run_enterLoop_outer _ _ _ _ _
  · simp only [resolve, hg]; simp [go_sem]
  · intro f' hf'; simp [Target.leads] at hf'; subst hf'; exact hF
  · simp [invoke, go_sem, eg]
  · have hIV : I [] V := by rw [hV]; exact hI.alloc _ (hI.alloc _ h0)
    have hbV : Below w0.heap.size w0 V := by rw [hV]; exact hb0.trans ((((Below.refl _ w).alloc (Nat.le_refl _) _).alloc (by simp) _).mono hb0.size)
    refine (hseq (w.heap.size + 1) (fun pre W => I pre W ∧ W.heap[w.heap.size + 1]? = some (L .ready none) ∧ W.heap[w.heap.size]? = some (.deferred (some [])))
      (fun pre W => ∃ c, Ix c pre W ∧ W.heap[w.heap.size + 1]? = some (L .done (some c)) ∧ W.heap[w.heap.size]? = some (.deferred (some []))) V hbV
      (fun s A C h k => ⟨hJ s A C h.1 (k.mono (by omega)), k.other h.2.1 (hLc _ _), k.other h.2.2 rfl⟩)
      (fun s A C h k => by obtain ⟨c, h, hl, hd⟩ := h; exact ⟨c, hJx c s A C h (k.mono (by omega)), k.other hl (hLc _ _), k.other hd rfl⟩) ?_ ⟨hIV, vL, vD⟩).mono ?_
    · rintro pre x W0 W ⟨hi0, hl0, hd0⟩ hit hlen
      have hl := hit.other hl0 (hLc _ _)
      have hd := hit.other hd0 rfl
      have hlW := (Array.getElem?_eq_some_iff.1 hl).1
      have hl' := hl
      rw [hL] at hl'
      have hla : (W.alloc (ob x)).heap[w.heap.size + 1]? = some (L .ready none) := (Below.heap_alloc _ _ _ hlW).trans hl
      have hda : (W.alloc (ob x)).heap[w.heap.size]? = some (.deferred (some [])) := (Below.heap_alloc _ _ _ (by omega)).trans hd
      have hla' := hla
      rw [hL] at hla'
      refine ⟨fn, _, assign, body, run_yield (P := P) (args := encs x) hl' (hps x), roundIn_of_wpIn hfn (hassign _ x W _ _ rfl ⟨_, run_beginRound hla' rfl, ?_⟩)⟩
      have eb : (W.alloc (ob x)).putObj (w.heap.size + 1) (.loop { state := .busy, pending := none, fn, tmps := a.tmps, params := ps, assign, body, defers := w.heap.size }) = (W.alloc (ob x)).putObj (w.heap.size + 1) (L .busy none) := by rw [hL]
      show body.wpIn (F.inRound (w.heap.size + 1)) (n - 1 - 1) P _ (a₁ x W.heap.size) ((W.alloc (ob x)).putObj (w.heap.size + 1) (.loop { state := .busy, pending := none, fn, tmps := a.tmps, params := ps, assign, body, defers := w.heap.size }))
      rw [eb]
      have bl := putL (L .busy none) hla
      have bd := putD (L .busy none) hda
      refine wpIn_mono (hbody _ pre x _ _ _ (hI.putObj (L .busy none) hi0 (by omega) hl0 (hLc _ _)) (((hit.mono (by omega)).alloc (ob x)).put _) ((World.putObj_heap_other (by omega)).trans (World.alloc_heap_new _ _)) (by simpa using hit.size) hlen) ?_
      rintro e a3 W3 hp
      cases e with
      | normal =>
        obtain ⟨hk, hb, hi3⟩ := hp
        have l3 := hk.same _ _ bl (hLc _ _)
        have d3 := hk.same _ _ bd rfl
        have hr := run_endRound (P := P) none (by rw [hL] at l3; exact l3)
        have er : (Obj.loop { state := .ready, pending := none, fn, tmps := a.tmps, params := ps, assign, body, defers := w.heap.size }) = L .ready none := by rw [hL]
        refine ⟨_, _, hr, .inl ⟨rfl, ⟨hI.putObj _ hi3 (by omega) l3 (hLc _ _), ?_, putD _ d3⟩, (((Kb.alloc (ob x) (by omega)).trans (Kb.put _ hla (hLc _ _) (by omega))).trans (by simpa using hb)).trans (Kb.put _ l3 (hLc _ _) (by omega))⟩⟩
        rw [← er]; exact putL _ l3
      | ret =>
        obtain ⟨hk, hi3⟩ := hp
        have l3 := hk.same _ _ bl (hLc _ _)
        have d3 := hk.same _ _ bd rfl
        have hr := run_endRound (P := P) (some .ret) (by rw [hL] at l3; exact l3)
        have er : (Obj.loop { state := .done, pending := some .ret, fn, tmps := a.tmps, params := ps, assign, body, defers := w.heap.size }) = L .done (some .ret) := by rw [hL]
        refine ⟨_, _, hr, .inr ⟨rfl, .ret, (hIx _).putObj _ hi3 (by omega) l3 (hLc _ _), ?_, putD _ d3⟩⟩
        rw [← er]; exact putL _ l3
      | exit id => exact hp.elim
      | goto t => exact hp.elim
      | panic ch => exact hp.elim
      | outgrown => exact hp.elim
    · rintro e W2 ⟨⟨v, rfl⟩, (⟨xs, hS, hi, hl, hd⟩ | ⟨pre, hS, c, hi, hl, hd⟩)⟩
      · have hl' := hl
        rw [hL] at hl'
        exact ⟨none, _, run_endLoop (P := P) hl' (by simp), hdone _ xs _ (Nat.le_refl _) hS (hI.putObj _ hi (by omega) hl (hLc _ _)) (putD _ hd)⟩
      · have hl' := hl
        rw [hL] at hl'
        exact ⟨some c, _, run_endLoop (P := P) hl' (by simp), hstop _ c pre _ (Nat.le_refl _) hS ((hIx c).putObj _ hi (by omega) hl (hLc _ _)) (putD _ hd)⟩
end
end Go.Proofs.YtdlppdoankeilaaDoor
