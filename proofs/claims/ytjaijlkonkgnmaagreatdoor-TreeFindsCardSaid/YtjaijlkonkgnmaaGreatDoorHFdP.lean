/- Plain: Find's rounds, as the program goes through them: what each does to where it stands. No text of the program in sight. -/
import Derived.Test.YtjaijlkonkgnmaaGreatDoorHFd
import Derived.Test.YtjaijlkonkgnmaaGreatDoorHBJ
namespace Go.Proofs.YtjaijlkonkgnmaaGreatDoor
set_option linter.unusedVariables false
set_option linter.unusedSimpArgs false
set_option linter.unnecessarySimpa false
open Go.RowKit
/-- Where the program may stand. -/
structure FdP (L : List Nd) (n kind : Int) (R D : List Int) (N : Nat) (P : Nat → Int → Int → List Int → Prop) : Prop where
  start : P 0 (-1) (-1) []
  self : ∀ q top over f, q < N → (q : Int) = n → P q top over f → P (q + 1) (D.getD q 0) over f
  ahead : ∀ q top over f, q < N → (q : Int) ≠ n → top < 0 → P q top over f → P (q + 1) top over f
  stop : ∀ q top over f, q < N → (q : Int) ≠ n → 0 ≤ top → D.getD q 0 ≤ top → P q top over f → f = R
  skip : ∀ q top over f, q < N → (q : Int) ≠ n → 0 ≤ top → top < D.getD q 0 → 0 ≤ over → over < D.getD q 0 → P q top over f → P (q + 1) top over f
  hit : ∀ q top over f, q < N → (q : Int) ≠ n → 0 ≤ top → top < D.getD q 0 → ¬ (0 ≤ over ∧ over < D.getD q 0) → (nd L (q : Int)).k = kind → P q top over f → P (q + 1) top (D.getD q 0) (f ++ [(q : Int)])
  miss : ∀ q top over f, q < N → (q : Int) ≠ n → 0 ≤ top → top < D.getD q 0 → ¬ (0 ≤ over ∧ over < D.getD q 0) → (nd L (q : Int)).k ≠ kind → P q top over f → P (q + 1) top (-1) f
  all : ∀ top over f, P N top over f → f = R
theorem fdP_of (L : List Nd) (n kind : Int) : ∃ R P, FindOf L n kind R ∧ FdP L n kind R (depsL L) (depsL L).length P := by
  by_cases h0 : (chk L).2 = 0
  · have hD : depsL L = deepL L := if_pos h0
    have hs := (good_iff (L := L)).1 h0
    have hN : (depsL L).length = L.length := by rw [hD, deepL_len]
    have hd : ∀ q, (depsL L).getD q 0 = dp L q := fun q => by rw [hD]; rfl
    rw [hN]
    by_cases hin : 0 ≤ n ∧ n < (L.length : Int)
    · obtain ⟨i, rfl⟩ : ∃ i : Nat, n = (i : Int) := ⟨n.toNat, by omega⟩
      obtain ⟨e, hse⟩ := good_sub hs (n := i) (by omega)
      refine ⟨scanF L kind (e - (i + 1)) (i + 1) (-1), FdS L i e kind (scanF L kind (e - (i + 1)) (i + 1) (-1)), ⟨fun h => absurd ⟨h0, hin⟩ h, fun _ => ⟨e, by rw [Int.toNat_natCast]; exact hse, by rw [Int.toNat_natCast]⟩⟩, ?_⟩
      refine ⟨fdS_start, ?_, ?_, ?_, ?_, ?_, ?_, ?_⟩
      · intro q top over f _ hq h
        obtain rfl : q = i := by omega
        rw [hd]; exact fdS_self hse rfl h
      · intro q top over f _ hq ht h
        exact fdS_ahead hs hse (by omega) ht h
      · intro q top over f _ _ ht hdq h
        rw [hd] at hdq
        exact fdS_end hs hse ht hdq h
      · intro q top over f hq _ ht h1 h2 h3 h
        rw [hd] at h1 h3
        exact fdS_skip hs hse hq ht h1 h2 h3 h
      · intro q top over f hq _ ht h1 h2 hk h
        rw [hd] at h1 h2
        rw [hd]
        exact fdS_hit hs hse hq ht h1 h2 hk h
      · intro q top over f hq _ ht h1 h2 hk h
        rw [hd] at h1 h2
        exact fdS_miss hs hse hq ht h1 h2 hk h
      · intro top over f h
        exact fdS_all hse h
    · refine ⟨[], fun _ top over f => top = -1 ∧ over = -1 ∧ f = [], ⟨fun _ => rfl, fun h => absurd h.2 hin⟩, ?_⟩
      refine ⟨⟨rfl, rfl, rfl⟩, ?_, ?_, ?_, ?_, ?_, ?_, ?_⟩
      · intro q top over f hq he _; exact absurd ⟨by omega, by omega⟩ hin
      · intro q top over f _ _ _ h; exact h
      · intro q top over f _ _ ht _ h; have := h.1; omega
      · intro q top over f _ _ ht _ _ _ h; have := h.1; omega
      · intro q top over f _ _ ht _ _ _ h; have := h.1; omega
      · intro q top over f _ _ ht _ _ _ h; have := h.1; omega
      · intro top over f h; exact h.2.2
  · have hD : depsL L = [] := if_neg h0
    rw [hD]
    refine ⟨[], fun _ _ _ f => f = [], ⟨fun _ => rfl, fun h => absurd h.1 h0⟩, ?_⟩
    refine ⟨rfl, ?_, ?_, ?_, ?_, ?_, ?_, ?_⟩
    · intro q top over f hq; exact absurd hq (by simp)
    · intro q top over f hq; exact absurd hq (by simp)
    · intro q top over f hq; exact absurd hq (by simp)
    · intro q top over f hq; exact absurd hq (by simp)
    · intro q top over f hq; exact absurd hq (by simp)
    · intro q top over f hq; exact absurd hq (by simp)
    · intro top over f h; exact h
theorem fins_snoc {N : Nat} {pre : List (Fin N)} {x : Fin N} {q : Nat} (hq : q ≤ N) (h : pre ++ [x] = fins N q) : ∃ p, q = p + 1 ∧ p < N ∧ pre = fins N p ∧ x.1 = p := by
  cases q with
  | zero => exact absurd h (by simp [fins])
  | succ p =>
    rw [fins_step (by omega)] at h
    obtain ⟨h1, h2⟩ := List.append_inj' h rfl
    injection h2 with h2 _
    exact ⟨p, rfl, by omega, h1, by rw [h2]⟩
/-- The same, if these are the first places. -/
def PP {N : Nat} (P : Nat → Int → Int → List Int → Prop) (pre : List (Fin N)) (top over : Int) (f : List Int) : Prop := ∀ q, q ≤ N → pre = fins N q → P q top over f
section
variable {L : List Nd} {n kind : Int} {R D : List Int} {N : Nat} {P : Nat → Int → Int → List Int → Prop} {pre : List (Fin N)} {x : Fin N} {top over : Int} {f : List Int}
theorem pp_start (h : FdP L n kind R D N P) : PP P ([] : List (Fin N)) (-1) (-1) [] := fun q hq e => by
  cases q with
  | zero => exact h.start
  | succ p => rw [fins_step (by omega)] at e; exact absurd e (by simp)
theorem pp_self (h : FdP L n kind R D N P) (hp : PP P pre top over f) (hn : (x.1 : Int) = n) : PP P (pre ++ [x]) (D.getD x.1 0) over f := fun q hq e => by
  obtain ⟨p, rfl, h1, h2, h3⟩ := fins_snoc hq e
  rw [h3] at hn ⊢
  exact h.self p _ _ _ h1 hn (hp p (by omega) h2)
theorem pp_ahead (h : FdP L n kind R D N P) (hp : PP P pre top over f) (hn : (x.1 : Int) ≠ n) (ht : top < 0) : PP P (pre ++ [x]) top over f := fun q hq e => by
  obtain ⟨p, rfl, h1, h2, h3⟩ := fins_snoc hq e
  rw [h3] at hn
  exact h.ahead p _ _ _ h1 hn ht (hp p (by omega) h2)
theorem pp_stop (h : FdP L n kind R D N P) (hp : PP P pre top over f) (hn : (x.1 : Int) ≠ n) (ht : 0 ≤ top) (hd : D.getD x.1 0 ≤ top) : ∀ q, q ≤ N → pre ++ [x] = fins N q → f = R := fun q hq e => by
  obtain ⟨p, rfl, h1, h2, h3⟩ := fins_snoc hq e
  rw [h3] at hn hd
  exact h.stop p _ _ _ h1 hn ht hd (hp p (by omega) h2)
theorem pp_skip (h : FdP L n kind R D N P) (hp : PP P pre top over f) (hn : (x.1 : Int) ≠ n) (ht : 0 ≤ top) (hd : top < D.getD x.1 0) (ho : 0 ≤ over) (hod : over < D.getD x.1 0) : PP P (pre ++ [x]) top over f := fun q hq e => by
  obtain ⟨p, rfl, h1, h2, h3⟩ := fins_snoc hq e
  rw [h3] at hn hd hod
  exact h.skip p _ _ _ h1 hn ht hd ho hod (hp p (by omega) h2)
theorem pp_hit (h : FdP L n kind R D N P) (hp : PP P pre top over f) (hn : (x.1 : Int) ≠ n) (ht : 0 ≤ top) (hd : top < D.getD x.1 0) (ho : ¬ (0 ≤ over ∧ over < D.getD x.1 0)) (hk : (nd L (x.1 : Int)).k = kind) : PP P (pre ++ [x]) top (D.getD x.1 0) (f ++ [(x.1 : Int)]) := fun q hq e => by
  obtain ⟨p, rfl, h1, h2, h3⟩ := fins_snoc hq e
  rw [h3] at hn hd ho hk ⊢
  exact h.hit p _ _ _ h1 hn ht hd ho hk (hp p (by omega) h2)
theorem pp_miss (h : FdP L n kind R D N P) (hp : PP P pre top over f) (hn : (x.1 : Int) ≠ n) (ht : 0 ≤ top) (hd : top < D.getD x.1 0) (ho : ¬ (0 ≤ over ∧ over < D.getD x.1 0)) (hk : (nd L (x.1 : Int)).k ≠ kind) : PP P (pre ++ [x]) top (-1) f := fun q hq e => by
  obtain ⟨p, rfl, h1, h2, h3⟩ := fins_snoc hq e
  rw [h3] at hn hd ho hk
  exact h.miss p _ _ _ h1 hn ht hd ho hk (hp p (by omega) h2)
end
/-! ### what stands in memory -/
theorem own_non {W W' : World} {base size n : Nat} {e : TypeId} {v : Value} {xs : List Value} {row : Option Nat} (h : W.ownsRow base e size v n xs) (hg : W.grownBy W' row) (hr : ∀ r, row = some r → ∃ o : Obj, W.heap[r]? = some o ∧ o.isCells = false) : W'.ownsRow base e size v n xs := by
  obtain ⟨hl, hh⟩ := h
  refine ⟨hl, ?_⟩
  rcases hh with hh | ⟨b, cap, cur, hv, hb, hc, h3, h4, h5, h6⟩
  · exact .inl hh
  · refine .inr ⟨b, cap, cur, hv, hb, ?_, h3, h4, h5, h6⟩
    rw [hg.block b (Array.getElem?_eq_some_iff.1 hc).1 (fun e => by
      obtain ⟨o, ho, hi⟩ := hr b e.symm
      rw [hc] at ho; injection ho with ho; subst ho; cases hi)]
    exact hc
theorem keepD_refl (A : Option Addr) (n : Nat) (W : World) : KeepD A n W W := fun _ _ _ _ _ h => h
theorem keepD_set {A : Option Addr} {n : Nat} {W : World} {p : Addr} {u : Value} (h : ∀ ad, A = some ad → ad.block ≠ p.block) : KeepD A n W (W.setCell p u) := fun j _ ad v e hv => by
  rw [World.cell?_setCell_other _ _ _ _ (fun e2 => h ad e (by have := congrArg Addr.block e2; rw [block_add] at this; exact this.symm))]
  exact hv
theorem keepD_grown {A : Option Addr} {n : Nat} {W W' : World} {row : Option Nat} (hg : W.grownBy W' row) (hA : ∀ ad, A = some ad → ad.block < W.heap.size ∧ row ≠ some ad.block) : KeepD A n W W' := fun j _ ad v e hv => by
  obtain ⟨h1, h2⟩ := hA ad e
  exact (World.cell?_of_block (hg.block (ad.add j).block (by rw [block_add]; exact h1) (by rw [block_add]; exact fun e => h2 e.symm))).trans hv
theorem keepD_drew {A : Option Addr} {n : Nat} {W W' : World} (h : KeepD A n W W') : KeepD A n W W'.drew := h
theorem keepD_alloc {A : Option Addr} {n : Nat} {W : World} (o : Obj) (hA : ∀ ad, A = some ad → ad.block < W.heap.size) : KeepD A n W (W.alloc o) := keepD_below ((Below.refl _ _).alloc (Nat.le_refl _) o) hA
theorem others_drew {W W' : World} (h : KeepsOthers W W') : KeepsOthers W W'.drew := ⟨h.size, h.same⟩
theorem others_grown {W W' : World} {base size n : Nat} {e : TypeId} {v : Value} {xs : List Value} (ho : W.ownsRow base e size v n xs) (hg : W.grownBy W' v.ownBlock) : KeepsOthers W W' :=
  KeepsOthers.of_grownBy hg fun j o hj ho2 => by
    obtain ⟨cs, fr, h⟩ := own_type ho hj
    rw [h] at ho2; injection ho2 with ho2; subst ho2; rfl
/-- What Find's loop has in memory. -/
structure FdM (s B : Nat) (w : World) (T : Value) (n kind top over : Int) (v : Value) (f : List Int) (W : World) : Prop where
  r3 : Row W (s + 1 + 1 + 1) 26 #[v]
  ro : W.ownsRow B 3 1 v f.length (intsC f)
  r4 : Row W (s + 1 + 1 + 1 + 1) 3 #[.int .i64 top]
  r5 : Row W (s + 1 + 1 + 1 + 1 + 1) 3 #[.int .i64 over]
  r0 : Row W s 24 #[T]
  r1 : Row W (s + 1) 3 #[.int .i64 n]
  r2 : Row W (s + 1 + 1) 3 #[.int .i64 kind]
  b : Below s w W
  hB : B ≤ W.heap.size
  h6 : s + 6 ≤ B
  hs : s ≤ w.heap.size
/-- Where Find's loop stands. -/
def FdI (s B : Nat) (w : World) (T : Value) (n kind : Int) {N : Nat} (P : Nat → Int → Int → List Int → Prop) (pre : List (Fin N)) (W : World) : Prop :=
  ∃ (top over : Int) (v : Value) (f : List Int), FdM s B w T n kind top over v f W ∧ f.length ≤ pre.length ∧ PP P pre top over f
/-- Where it stops. -/
def FdX (s B : Nat) (w : World) (T : Value) (n kind : Int) (N : Nat) (R : List Int) (pre : List (Fin N)) (W : World) : Prop :=
  ∃ (top over : Int) (v : Value) (f : List Int), FdM s B w T n kind top over v f W ∧ ∀ q, q ≤ N → pre = fins N q → f = R
section
variable {s B : Nat} {w : World} {T : Value} {n kind top over : Int} {v : Value} {f : List Int} {N : Nat} {P : Nat → Int → Int → List Int → Prop} {R : List Int} {pre : List (Fin N)} {W W' : World} {row : Option Nat}
theorem FdM.own (h : FdM s B w T n kind top over v f W) (hg : W.grownBy W' row) (hr : ∀ r, row = some r → B ≤ r ∧ ∃ o : Obj, W.heap[r]? = some o ∧ o.isCells = false) : FdM s B w T n kind top over v f W' := by
  have hr' : ∀ r, row = some r → ∃ o : Obj, W.heap[r]? = some o ∧ o.isCells = false := fun r e => (hr r e).2
  have h6 := h.h6
  exact ⟨row_own h.r3 hg hr', own_non h.ro hg hr', row_own h.r4 hg hr', row_own h.r5 hg hr', row_own h.r0 hg hr', row_own h.r1 hg hr', row_own h.r2 hg hr', h.b.grown hg (Nat.le_trans h.hs h.b.size) (fun k e => by have := (hr k e).1; omega), Nat.le_trans h.hB hg.size, h6, h.hs⟩
theorem FdI.own (h : FdI s B w T n kind P pre W) (hg : W.grownBy W' row) (hr : ∀ r, row = some r → B ≤ r ∧ ∃ o : Obj, W.heap[r]? = some o ∧ o.isCells = false) : FdI s B w T n kind P pre W' := by
  obtain ⟨top, over, v, f, h1, h2⟩ := h
  exact ⟨top, over, v, f, h1.own hg hr, h2⟩
theorem FdX.own (h : FdX s B w T n kind N R pre W) (hg : W.grownBy W' row) (hr : ∀ r, row = some r → B ≤ r ∧ ∃ o : Obj, W.heap[r]? = some o ∧ o.isCells = false) : FdX s B w T n kind N R pre W' := by
  obtain ⟨top, over, v, f, h1, h2⟩ := h
  exact ⟨top, over, v, f, h1.own hg hr, h2⟩
theorem FdM.setTop (h : FdM s B w T n kind top over v f W) (d : Int) : FdM s B w T n kind d over v f (W.setCell ⟨s + 1 + 1 + 1 + 1, 0, none⟩ (.int .i64 d)) := by
  have h6 := h.h6
  exact ⟨h.r3.far (by show s + 1 + 1 + 1 ≠ s + 1 + 1 + 1 + 1; omega) _, ownsRow_setCell_below h.ro (by show s + 1 + 1 + 1 + 1 < B; omega) _, row_put1 h.r4 _, h.r5.far (by show s + 1 + 1 + 1 + 1 + 1 ≠ s + 1 + 1 + 1 + 1; omega) _, h.r0.far (by show s ≠ s + 1 + 1 + 1 + 1; omega) _, h.r1.far (by show s + 1 ≠ s + 1 + 1 + 1 + 1; omega) _, h.r2.far (by show s + 1 + 1 ≠ s + 1 + 1 + 1 + 1; omega) _, h.b.setCell (by show s ≤ s + 1 + 1 + 1 + 1; omega) _, by simpa using h.hB, h6, h.hs⟩
theorem FdM.setOver (h : FdM s B w T n kind top over v f W) (d : Int) : FdM s B w T n kind top d v f (W.setCell ⟨s + 1 + 1 + 1 + 1 + 1, 0, none⟩ (.int .i64 d)) := by
  have h6 := h.h6
  exact ⟨h.r3.far (by show s + 1 + 1 + 1 ≠ s + 1 + 1 + 1 + 1 + 1; omega) _, ownsRow_setCell_below h.ro (by show s + 1 + 1 + 1 + 1 + 1 < B; omega) _, h.r4.far (by show s + 1 + 1 + 1 + 1 ≠ s + 1 + 1 + 1 + 1 + 1; omega) _, row_put1 h.r5 _, h.r0.far (by show s ≠ s + 1 + 1 + 1 + 1 + 1; omega) _, h.r1.far (by show s + 1 ≠ s + 1 + 1 + 1 + 1 + 1; omega) _, h.r2.far (by show s + 1 + 1 ≠ s + 1 + 1 + 1 + 1 + 1; omega) _, h.b.setCell (by show s ≤ s + 1 + 1 + 1 + 1 + 1; omega) _, by simpa using h.hB, h6, h.hs⟩
theorem FdM.alloc (h : FdM s B w T n kind top over v f W) (o : Obj) : FdM s B w T n kind top over v f (W.alloc o) :=
  ⟨h.r3.alloc _, h.ro.alloc _, h.r4.alloc _, h.r5.alloc _, h.r0.alloc _, h.r1.alloc _, h.r2.alloc _, h.b.alloc (Nat.le_trans h.hs h.b.size) _, by have := h.hB; simp; omega, h.h6, h.hs⟩
theorem FdM.drew (h : FdM s B w T n kind top over v f W) : FdM s B w T n kind top over v f W.drew :=
  ⟨h.r3.drew, h.ro, h.r4.drew, h.r5.drew, h.r0.drew, h.r1.drew, h.r2.drew, h.b.drew, h.hB, h.h6, h.hs⟩
/-- One more is found: behind an append and the store of what it gives. -/
theorem FdM.found {v' : Value} {f' : List Int} (h : FdM s B w T n kind top over v f W) (hg : W.grownBy W' v.ownBlock) (ho : W'.ownsRow B 3 1 v' f'.length (intsC f')) : FdM s B w T n kind top over v' f' (W'.setCell ⟨s + 1 + 1 + 1, 0, none⟩ v') := by
  have h6 := h.h6
  have hne : ∀ g, g < B → v.ownBlock ≠ some g := fun g hgB e => by have := own_ge h.ro g e; omega
  exact ⟨row_put1 (row_grown h.r3 hg (hne _ (by omega))) _, ownsRow_setCell_below ho (by show s + 1 + 1 + 1 < B; omega) _, (row_grown h.r4 hg (hne _ (by omega))).far (by show s + 1 + 1 + 1 + 1 ≠ s + 1 + 1 + 1; omega) _, (row_grown h.r5 hg (hne _ (by omega))).far (by show s + 1 + 1 + 1 + 1 + 1 ≠ s + 1 + 1 + 1; omega) _, (row_grown h.r0 hg (hne _ (by omega))).far (by show s ≠ s + 1 + 1 + 1; omega) _, (row_grown h.r1 hg (hne _ (by omega))).far (by show s + 1 ≠ s + 1 + 1 + 1; omega) _, (row_grown h.r2 hg (hne _ (by omega))).far (by show s + 1 + 1 ≠ s + 1 + 1 + 1; omega) _, (h.b.grown hg (Nat.le_trans h.hs h.b.size) (fun k e => by have := own_ge h.ro k e; omega)).setCell (by show s ≤ s + 1 + 1 + 1; omega) _, by have := h.hB; have := hg.size; simp; omega, h6, h.hs⟩
end
end Go.Proofs.YtjaijlkonkgnmaaGreatDoor
