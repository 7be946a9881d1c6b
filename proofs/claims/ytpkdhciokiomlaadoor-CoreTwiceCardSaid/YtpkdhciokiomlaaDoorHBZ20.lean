/- Some texts of this claim, put together. -/
import Derived.Test.YtpkdhciokiomlaaDoorHBZ14
import Derived.Test.YtpkdhciokiomlaaDoorHBZ12
import Derived.OwnWalkIn
import Derived.WalkMore
import Derived.Test.YtpkdhciokiomlaaDoorHPSp
namespace Go.Proofs.YtpkdhciokiomlaaDoor
section
set_option linter.unusedVariables false
set_option linter.unusedSimpArgs false
set_option linter.unnecessarySimpa false
open Go.RowKit
attribute [local go_sem] cell_alloc_add cell_set_add lt_more Oper.semAt_some
theorem keepD_set5 {A : Option Addr} {n : Nat} {W : World} {p : Addr} {u : Value} (h : ∀ ad, A = some ad → ad.block ≠ p.block) : KeepD A n W (W.setCell p u) := fun j _ ad v e hv => by
  rw [World.cell?_setCell_other _ _ _ _ (fun e2 => h ad e (by have := congrArg Addr.block e2; rw [block_add] at this; exact this.symm))]
  exact hv
theorem fins_last {n q : Nat} {pre : List (Fin n)} {x : Fin n} (h : pre ++ [x] = fins n q) (hq : q ≤ n) : q = x.1 + 1 ∧ pre = fins n x.1 := by
  cases q with
  | zero => exact absurd h (by simp [fins])
  | succ k =>
    rw [fins_step (by omega)] at h
    obtain ⟨h1, h2⟩ := List.append_inj' h rfl
    injection h2 with h2
    subst h2
    exact ⟨rfl, h1⟩
theorem others_below {W W' : World} (h : Below W.heap.size W W') : KeepsOthers W W' := KeepsOthers.of_grownBy (below_grown h) (fun j o e => by cases e)
/-- Which node is the first that is not plain, and what Check answers. -/
structure BadR (pl : Nat → Bool) (n : Nat) (R : Int × Int) : Prop where
  bad : ∀ j, j < n → (∀ i, i < j → pl i = true) → pl j = false → R = ((j : Int), 12)
  ok : (∀ j, j < n → pl j = true) → R = (-1, 0)
set_option maxRecDepth 100000 in
set_option maxHeartbeats 8000000 in
theorem CoreCheck_in (A : Option Addr) (L : List Nd) (n c : Nat) (hn : L.length = n) (hc : n ≤ c) (hm : c ≤ maxLen) (hL : n ≤ 1000000) (hx : ∀ j : Nat, (nd L j).x.size ≤ 4000000) (pl : Nat → Bool) (R : Int × Int) (hR : BadR pl n R) (hg : (chk L).2 = 0) (hdn : (depsL L).length = n) (w : World) (h : TreeAt w w.heap.size A L) (hmx : Mx w) (hw00 : 0 < w.heap.size) (hP : ∀ W, Below w.heap.size w W → ∀ j, j < n → Calls Tryd.prog 15 #[.agg #[.slice A n c], .int .i64 (j : Int)] W fun e W' => e = .returned (.bool (pl j)) ∧ Below W.heap.size W W') :
    CallsIn Fence.wide 10 Tryd.prog 8 #[.agg #[.slice A n c]] w fun r w' => r = .returned (.tuple #[.int .i64 R.1, .int .i64 R.2]) ∧ Below w.heap.size w w' := by
  have HP := Lib.hid hP
  have HR := Lib.hid hR
  have HT := Lib.hid h
  have HX := Lib.hid hmx
  have HCK := Lib.hid (fun W (hb : Below w.heap.size w W) => hn ▸ Check_any A L c (by omega) hm (by omega) hx W (h.later hb) (hmx.below hb hw00) (by have := hb.size; omega))
  have HW := Lib.hid (fun W (hb : Below w.heap.size w W) => hn ▸ Walk_any A L c (by omega) hm (by omega) hx W (h.later hb) (hmx.below hb hw00) (by have := hb.size; omega))
  rw [hdn] at HW
  rw [hg] at HCK
  generalize (chk L).1 = ch at *
  clear hP hR h hmx hg
  generalize depsL L = D at *
  have HDN := Lib.hid hdn
  clear hdn
  obtain ⟨wa, hwa⟩ : ∃ wa : World, wa = w.alloc (.cells #[.slice A n c] 24) := ⟨_, rfl⟩
  have bA : Below w.heap.size w wa := by rw [hwa]; exact (by (exact bl))
  have rT : Row wa w.heap.size 24 #[.slice A n c] := by rw [hwa]; exact row_new rfl
  have t0 := rT.cell 0
  simp at t0
  have lT := rT.lt
  unfold maxLen at hm
  refine callsIn_of_wp_marks Tryd.func8 rfl trivial ?_ rfl
  simp only [Tryd.ntmps8, List.size_toArray, List.length_cons, List.length_nil, Nat.reduceAdd, Nat.reduceSub, Array.replicate_succ, Array.replicate_zero, List.push_toArray, List.append_toArray, List.nil_append, List.cons_append]
  gi_wp2
  rw [← hwa]
  clear hwa
  refine wpIn_wide.2 (wp_scope_straight ((wpIn_wide (n := 10)).1 ?_))
  gi_wp2_with (first
    | (refine ⟨trivial, ?_⟩; gi_at_call 9; (with_reducible refine (callsIn_wide.2 (HCK.out _ bA)).mono ?_); rintro r w1 ⟨rfl, b1⟩; have q1 := bA.trans (b1.mono bA.size); have rT1 := rT.below b1 lT; have t1 := rT1.cell 0; simp at t1; have lT1 := rT1.lt)
    | fail)
  obtain ⟨gB, hgB⟩ : ∃ gB, gB = w1.heap.size := ⟨_, rfl⟩
  obtain ⟨wb, hwb⟩ : ∃ wb : World, wb = w1.alloc (.cells #[.int .i64 (-1)] 3) := ⟨_, rfl⟩
  have bB : Below w1.heap.size w1 wb := by rw [hwb]; exact (Below.refl _ _).alloc (Nat.le_refl _) _
  have rB : Row wb gB 3 #[.int .i64 (-1)] := by rw [hwb]; exact row_new hgB
  have rTb := rT1.below bB lT1
  have lB := rB.lt
  have hgw : w.heap.size < gB := by omega
  have qb := q1.trans (bB.mono q1.size)
  rw [← hwb, ← hgB]
  have tb := rTb.cell 0
  simp at tb
  clear hwb hgB t0 t1 rT1 lT1 bB
  refine wpIn_label ?_
  gi_wp2_with (first
    | (refine ⟨trivial, ?_⟩; gi_at_call 14; (with_reducible refine (callsIn_wide.2 (HW.out _ qb)).mono ?_); rintro e W0 ⟨⟨rfl, v, rD, hown⟩, b0⟩)
    | fail)
  have bW := qb.trans (b0.mono qb.size)
  have hrd : RdD W0 (match v with | .slice A _ _ => A | _ => none) D := by
    obtain ⟨A1, c1, rfl, _, _⟩ := own_slice hown
    have h2 := hown
    rw [← HDN.out] at h2
    exact rdD_own h2
  have hge := own_ge hown
  have hlt := own_lt hown
  obtain ⟨A1, c1, rfl, hc1, hm1⟩ := own_slice hown
  simp only at hrd
  have hA1 : ∀ ad, A1 = some ad → wb.heap.size + 2 ≤ ad.block ∧ ad.block < W0.heap.size := fun ad e => by
    subst e
    exact ⟨hge ad.block rfl, hlt ad.block rfl⟩
  have hz0 := Below.size b0
  have cD := rD.cell 0
  simp at cD
  have rB0 := rB.below b0 lB
  have rT0 := rTb.below b0 rTb.lt
  obtain ⟨gD, hgD⟩ : ∃ gD, gD = wb.heap.size + 1 := ⟨_, rfl⟩
  have hA2 : ∀ ad, A1 = some ad → gB < ad.block ∧ ad.block < W0.heap.size := fun ad e => ⟨by have := (hA1 ad e).1; omega, (hA1 ad e).2⟩
  rw [← hgD] at cD ⊢
  have HA := Lib.hid hA2
  have z0 : gB < W0.heap.size := by omega
  clear rB rTb HW tb b0 hown hge hlt hA1 hA2 hgD rD hx lB
  apply wpIn_rangeFunc_ownF (F := Fence.wide) (n := 10) rfl (by decide) (gf := 22) (lb := #[.pointer (some ⟨gD, 0, none⟩)]) rfl trivial (enters_of Tryd.func22 (by kernel_rfl) rfl)
    (Walk1_stops (10 - 1) (by decide) gD D n HDN.out (by omega) A1 c1 hc1 hm1 W0 cD hrd (fun ad e => (HA.out ad e).2)) keepD_t (keepD_b (w := W0)) (Below.refl _ _) (fun _ => rfl)
    (fun pre W => Row W gB 3 #[.int .i64 (-1)] ∧ Row W w.heap.size 24 #[.slice A n c] ∧ Below w.heap.size w W ∧ (∀ q, q ≤ n → pre = fins n q → ∀ i, i < q → pl i = true) ∧ W0.heap.size ≤ W.heap.size)
    (fun cc pre W => cc = .exit 0 ∧ ∃ j : Nat, Row W gB 3 #[.int .i64 (j : Int)] ∧ Below w.heap.size w W ∧ ∀ q, q ≤ n → pre = fins n q → R = ((j : Int), 12))
    (fun p W W' row hs hg hr => ⟨row_own hs.1 hg (fun r e => (hr r e).2), row_own hs.2.1 hg (fun r e => (hr r e).2), ownFrom_below (β := Unit) (Nat.le_refl _) (by omega) () W W' row hs.2.2.1 hg hr, hs.2.2.2.1, Nat.le_trans hs.2.2.2.2 hg.size⟩)
    (fun cc p W W' row hs hg hr => by
      obtain ⟨e, j, h1, h2, h3⟩ := hs
      exact ⟨e, j, row_own h1 hg (fun r e => (hr r e).2), ownFrom_below (β := Unit) (Nat.le_refl _) (by omega) () W W' row h2 hg hr, h3⟩)
    ⟨rB0, rT0, bW, fun q hq e => by
      have := congrArg List.length e
      rw [fins_len q hq] at this
      simp at this
      subst this
      intro i hi; omega, Nat.le_refl _⟩ _
  case hassign =>
    intro l x W K hK
    dsimp only [encD]
    gi_wp2
    exact hK
  case hstop =>
    rintro Dd cc pre W hD hpre ⟨rfl, j, hB, hbW, hRR⟩ hK
    obtain ⟨q, _, hq, e⟩ := hpre
    have hRj := hRR q hq e
    subst hRj
    have c0 := hB.cell 0
    have l0 := hB.lt
    simp at c0
    have hj0 : (0 : Int) ≤ (j : Int) := by omega
    gi_wp2
    (try rw [Exit.noGoto_ret])
    refine ⟨by simp, .inl ⟨_, _, rfl, run_takeDeferred hK, ?_⟩⟩
    exact ⟨.tuple #[.int .i64 (j : Int), .int .i64 12], by simp [results, Tryd.f8, go_sem], rfl, hbW.trans (belowK_b (w := w) (Nat.le_refl _) _ Dd _ _ (by omega) hK rfl rfl)⟩
  case hdone =>
    rintro Dd xs W hD rfl ⟨hB, hTW, hbW, hall, hW0⟩ hK
    have zW := hbW.size
    have hRj := HR.out.ok (fun j hj => hall n (Nat.le_refl _) rfl j hj)
    subst hRj
    have c0 := hB.cell 0
    have l0 := hB.lt
    simp at c0
    gi_wp2
    (try rw [Exit.noGoto_ret])
    refine ⟨by simp, .inl ⟨_, _, rfl, run_takeDeferred hK, ?_⟩⟩
    exact ⟨.tuple #[.int .i64 (-1), .int .i64 0], by simp [results, Tryd.f8, go_sem], rfl, hbW.trans (belowK_b (w := w) (Nat.le_refl _) _ Dd _ _ (by omega) hK rfl rfl)⟩
  case hbody =>
    rintro l pre x W ⟨hB, hTW, hbW, hall, hW0⟩ hlen
    have qW := hbW
    have hPx := HP.out W qW x.1 x.2
    have HPX := Lib.hid hPx
    have tW := hTW.cell 0
    have lTW := hTW.lt
    simp at tW
    clear hPx
    generalize hpx : pl x.1 = px at *
    have HPX2 := Lib.hid hpx
    clear hpx
    have HALL := Lib.hid hall
    have lB := hB.lt
    have fB := hB.free 0
    have cB := hB.cell 0
    simp at cB
    have HNX := Lib.hid (show ∀ q, q ≤ n → pre ++ [x] = fins n q → q = x.1 + 1 ∧ ∀ i, i < x.1 → pl i = true from fun q hq e => by
      obtain ⟨e1, e2⟩ := fins_last e hq
      exact ⟨e1, hall x.1 (by have := x.2; omega) e2⟩)
    clear hall
    cases px with
    | true =>
      gi_wp2_with (first
        | (refine ⟨trivial, ?_⟩; gi_at_call 15; (with_reducible refine (CallsIn.inRound l (callsIn_wide.2 HPX.out)).mono ?_); rintro r W1 ⟨rfl, b1⟩)
        | fail)
      refine ⟨others_below b1, keepD_below b1 (fun ad e => ?_), hB.below b1 lB, hTW.below b1 lTW, hbW.trans (b1.mono hbW.size), fun q hq e => ?_, Nat.le_trans hW0 b1.size⟩
      · have := (HA.out ad e).2; omega
      · obtain ⟨e1, e2⟩ := HNX.out q hq e
        intro i hi
        rcases Nat.lt_or_ge i x.1 with h | h
        · exact e2 i h
        · obtain rfl : i = x.1 := by omega
          exact HPX2.out
    | false =>
      gi_wp2_with (first
        | (refine ⟨trivial, ?_⟩; gi_at_call 15; (with_reducible refine (CallsIn.inRound l (callsIn_wide.2 HPX.out)).mono ?_); rintro r W1 ⟨rfl, b1⟩; have rB1 := hB.below b1 lB; have fB1 := rB1.free 0; have cB1 := rB1.cell 0; have lB1 := rB1.lt; simp at cB1)
        | fail)
      refine ⟨(others_below b1).trans (KeepsOthers.setCell _ _ _), rfl, x.1, row_put1 rB1 _, (hbW.trans (b1.mono hbW.size)).setCell (by show w.heap.size ≤ gB; omega) _, fun q hq e => ?_⟩
      obtain ⟨e1, e2⟩ := HNX.out q hq e
      exact HR.out.bad x.1 x.2 e2 HPX2.out
theorem CoreCheck_any (A : Option Addr) (L : List Nd) (n c : Nat) (hn : L.length = n) (hc : n ≤ c) (hm : c ≤ maxLen) (hL : n ≤ 1000000) (hx : ∀ j : Nat, (nd L j).x.size ≤ 4000000) (pl : Nat → Bool) (R : Int × Int) (hR : BadR pl n R) (hg : (chk L).2 = 0) (hdn : (depsL L).length = n) (w : World) (h : TreeAt w w.heap.size A L) (hmx : Mx w) (hw00 : 0 < w.heap.size) (hP : ∀ W, Below w.heap.size w W → ∀ j, j < n → Calls Tryd.prog 15 #[.agg #[.slice A n c], .int .i64 (j : Int)] W fun e W' => e = .returned (.bool (pl j)) ∧ Below W.heap.size W W') :
    Calls Tryd.prog 8 #[.agg #[.slice A n c]] w fun r w' => r = .returned (.tuple #[.int .i64 R.1, .int .i64 R.2]) ∧ Below w.heap.size w w' :=
  callsIn_wide.1 (CoreCheck_in A L n c hn hc hm hL hx pl R hR hg hdn w h hmx hw00 hP)
end
section
set_option linter.unusedVariables false
set_option linter.unusedSimpArgs false
set_option linter.unnecessarySimpa false
open Go.RowKit
attribute [local go_sem] cell_alloc_add cell_set_add lt_more
def kL : List Nd := [⟨34, ⟨#[]⟩, 0, [1], 0⟩, ⟨17, ⟨#[120]⟩, 0, [], 0⟩]
theorem kL_chk : chk kL = (-1, 0) := by kernel_rfl
theorem kL_strip : stripT kL = ([⟨17, ⟨#[120]⟩, 0, [], 0⟩], 0) := by kernel_rfl
theorem kL_deps : (depsL kL).length = 2 := by kernel_rfl
theorem kL_x : ∀ j : Nat, (nd kL j).x.size ≤ 4000000 := fun j => by
  match j with
  | 0 => exact of_decide_eq_true (by kernel_rfl)
  | 1 => exact of_decide_eq_true (by kernel_rfl)
  | j + 2 =>
    rw [nd_nat, List.getD_eq_getElem?_getD, List.getElem?_eq_none (by show 2 ≤ _; omega)]
    exact of_decide_eq_true (by kernel_rfl)
theorem kL_ks : ∀ j : Int, (nd kL j).ks.length ≤ 1000000 := fun j => by
  unfold nd
  split
  · generalize j.toNat = i
    match i with
    | 0 => exact of_decide_eq_true (by kernel_rfl)
    | 1 => exact of_decide_eq_true (by kernel_rfl)
    | i + 2 =>
      rw [List.getD_eq_getElem?_getD, List.getElem?_eq_none (by show 2 ≤ _; omega)]
      exact of_decide_eq_true (by kernel_rfl)
  · exact of_decide_eq_true (by kernel_rfl)
def kP (j : Nat) : Bool := j != 0
theorem kL_bad : BadR kP 2 (0, 12) := ⟨fun j hj _ h => by
  have : j = 0 := by simpa [kP] using h
  subst this; rfl, fun h => absurd (h 0 (by omega)) (by simp [kP])⟩
theorem kL_at {W : World} {g g1 : Nat} {t t1 : TypeId} (h : Row W g t #[.int .i64 34, .string ⟨#[]⟩, .int .i64 0, .slice (some ⟨g1, 0, none⟩) 1 1, .int .i64 0, .int .i64 17, .string ⟨#[120]⟩, .int .i64 0, .slice none 0 0, .int .i64 0]) (h1 : Row W g1 t1 #[.int .i64 1]) : TreeAt W W.heap.size (some ⟨g, 0, none⟩) kL := fun j hj => by
  have hj2 : j < 2 := hj
  refine ⟨_, rfl, ?_⟩
  rw [add_row]
  match j with
  | 0 =>
    refine ⟨h.lt, h.cell 0, h.cell 1, h.cell 2, h.cell 4, ⟨by decide, by decide⟩, fun k hk => ?_, _, 1, h.cell 3, fun i hi => ?_, Nat.le_refl _, by decide⟩
    · obtain rfl : k = 1 := by simpa using (show k ∈ ([1] : List Int) from hk)
      exact ⟨by decide, by decide⟩
    · have hi1 : i < 1 := hi
      obtain rfl : i = 0 := by omega
      refine ⟨_, rfl, h1.lt, ?_⟩
      rw [add_row]
      exact h1.cell 0
  | 1 =>
    refine ⟨h.lt, h.cell 5, h.cell 6, h.cell 7, h.cell 9, ⟨by decide, by decide⟩, (fun k hk => by cases hk), none, 0, h.cell 8, Rd.none_, Nat.le_refl _, Nat.zero_le _⟩
  | j + 2 => omega
set_option maxRecDepth 100000 in
set_option maxHeartbeats 4000000 in
theorem kPlain_any (A : Option Addr) (c : Nat) (hc : 2 ≤ c) (hm : c ≤ maxLen) (W : World) (h : TreeAt W W.heap.size A kL) (j : Nat) (hj : j < 2) :
    Calls Tryd.prog 15 #[.agg #[.slice A 2 c], .int .i64 (j : Int)] W fun e W' => e = .returned (.bool (kP j)) ∧ Below W.heap.size W W' := by
  obtain ⟨ad, rfl, hn⟩ := h j hj
  have hb2 := hn.blk
  have hb1 : ad.block < W.heap.size := (by rw [block_add] at hb2; exact hb2)
  obtain ⟨K, kc, c0, c1, c2, c3, c4, -, hkk, hkm⟩ := node_open hn
  have hji : (j : Int) < 2 := by omega
  unfold maxLen at hm hkm
  clear hn h
  by_cases h0 : j = 0
  · rw [show kP j = false from by rw [h0]; rfl]
    rw [show nd kL (j : Int) = ⟨34, ⟨#[]⟩, 0, [1], 0⟩ from by rw [h0]; rfl] at c0 c1 c2 c3 c4
    simp only at c0 c1 c2 c3 c4
    clear h0
    go_enter Tryd.func15, Tryd.ntmps15
    go_wp2
    go_ret
    exact ⟨rfl, (by (exact bl))⟩
  · have h1 : j = 1 := by omega
    rw [show kP j = true from by rw [h1]; rfl]
    rw [show nd kL (j : Int) = ⟨17, ⟨#[120]⟩, 0, [], 0⟩ from by rw [h1]; rfl] at c0 c1 c2 c3 c4
    simp only at c0 c1 c2 c3 c4
    clear h0 h1
    go_enter Tryd.func15, Tryd.ntmps15
    go_wp2
    go_ret
    exact ⟨rfl, (by (exact bl))⟩
set_option maxRecDepth 100000 in
set_option maxHeartbeats 8000000 in
theorem known_any (w : World) (hmx : Mx w) (hw00 : 0 < w.heap.size) :
    Calls Tryd.prog 6 #[] w fun e w' => e = .returned (.bool true) ∧ Below w.heap.size w w' := by
  obtain ⟨wa, hwa⟩ : ∃ wa : World, wa = ((w.alloc (.cells #[.int .i64 1] 3)).alloc (.cells #[.int .i64 34, .string ⟨#[]⟩, .int .i64 0, .slice (some ⟨w.heap.size, 0, none⟩) 1 1, .int .i64 0, .int .i64 17, .string ⟨#[120]⟩, .int .i64 0, .slice none 0 0, .int .i64 0] 35)).alloc (.cells #[.slice (some ⟨w.heap.size + 1, 0, none⟩) 2 2] 24) := ⟨_, rfl⟩
  have bA : Below w.heap.size w wa := by rw [hwa]; exact (by (exact bl))
  have zA : w.heap.size + 2 < wa.heap.size := by rw [hwa]; simp
  have r1 : Row wa w.heap.size 3 #[.int .i64 1] := by rw [hwa]; exact ((row_new rfl).alloc _).alloc _
  have rN : Row wa (w.heap.size + 1) 35 #[.int .i64 34, .string ⟨#[]⟩, .int .i64 0, .slice (some ⟨w.heap.size, 0, none⟩) 1 1, .int .i64 0, .int .i64 17, .string ⟨#[120]⟩, .int .i64 0, .slice none 0 0, .int .i64 0] := by rw [hwa]; exact (row_new (by simp)).alloc _
  have rT : Row wa (w.heap.size + 2) 24 #[.slice (some ⟨w.heap.size + 1, 0, none⟩) 2 2] := by rw [hwa]; exact row_new (by simp)
  have HT := Lib.hid (kL_at rN r1)
  have hX := Lib.hid (hmx.below bA hw00)
  have HC := Lib.hid (CoreCheck_any (some ⟨w.heap.size + 1, 0, none⟩) kL 2 2 rfl (Nat.le_refl _) (by decide) (by decide) kL_x kP (0, 12) kL_bad (by rw [kL_chk]) kL_deps wa HT.out hX.out (by omega) (fun W hb j hj => kPlain_any _ 2 (Nat.le_refl _) (by decide) W (HT.out.later hb) j hj))
  have HS := Lib.hid (fun W (hb : Below wa.heap.size wa W) => Strip_any (some ⟨w.heap.size + 1, 0, none⟩) kL 2 2 rfl (Nat.le_refl _) (by decide) (by decide) kL_ks kL_x W (HT.out.later hb) (hX.out.below hb (by omega)) (by have := hb.size; omega))
  rw [kL_strip] at HS
  simp only at HC HS
  have lT := rT.lt
  have t0 := rT.cell 0
  simp at t0
  clear hmx r1 rN
  go_enter Tryd.func6, Tryd.ntmps6
  go_upto_region 2 with fail
  rw [← hwa]
  clear hwa
  go_upto_region 4 with (first
    | (go_at_call 8; (with_reducible refine HC.out.mono ?_); rintro e w1 ⟨rfl, b1⟩; have rT1 := rT.below b1 lT; have t1 := rT1.cell 0; simp at t1; have lT1 := rT1.lt)
    | (go_at_call 5; (with_reducible refine (HS.out _ b1).mono ?_); rintro e w2 ⟨⟨v2, l2, rfl, hO2, hl2⟩, b2⟩; obtain ⟨A2, c2, hv2, hc2, hm2, hT2⟩ := hO2.tree; subst hv2)
    | fail)
  have hln : l2.length = 1 := by have := congrArg List.length hl2; simpa using this
  rw [hl2] at hT2
  rw [hln] at hc2
  simp only [hln]
  obtain ⟨ad2, rfl, hn⟩ := hT2 0 (by simp)
  rw [Nat.zero_mul, add_zero] at hn
  have d1 := hn.c1
  have hb2 := hn.blk
  rw [show (nd [(⟨17, ⟨#[120]⟩, 0, [], 0⟩ : Nd)] ((0 : Nat) : Int)).x = ⟨#[120]⟩ from rfl] at d1
  clear hn hT2 hO2 hl2
  go_wp2
  go_ret
  exact ⟨rfl, (bA.trans (b1.mono bA.size)).trans (Below.mono (B' := w.heap.size) (b2.alloc b2.size _) (by have := bA.size; have := b1.size; omega))⟩
end
end Go.Proofs.YtpkdhciokiomlaaDoor
