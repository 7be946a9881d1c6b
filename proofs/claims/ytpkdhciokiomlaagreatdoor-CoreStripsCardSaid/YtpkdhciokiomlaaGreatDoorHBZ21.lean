/- Some texts of this claim, put together. -/
import Derived.Test.YtpkdhciokiomlaaGreatDoorHR14
import Derived.Test.YtpkdhciokiomlaaGreatDoorHBZ3
import Derived.Test.YtpkdhciokiomlaaGreatDoorHRst
namespace Go.Proofs.YtpkdhciokiomlaaGreatDoor
section
set_option linter.unusedVariables false
set_option linter.unusedSimpArgs false
set_option linter.unnecessarySimpa false
open Go.RowKit
attribute [local go_sem] cell_alloc_add cell_set_add lt_more
set_option maxRecDepth 100000 in
set_option maxHeartbeats 8000000 in
theorem rLook_any (A : Option Addr) (L : List Nd) (c : Nat) (hc : L.length ≤ c) (hm : c ≤ maxLen) (hL : L.length ≤ 1000000000000) (hx : ∀ j : Nat, (nd L j).x.size ≤ 4000000000) : ∀ (f i : Nat) (w : World), TreeAt w w.heap.size A L → i < L.length → L.length - i ≤ f →
    Calls Tryz.prog 40 #[.agg #[.slice A L.length c], .int .i64 (i : Int)] w fun e w' => e = .returned (.tuple #[.int .i64 (look L f i).1, .int .i64 ((look L f i).2 : Int)]) ∧ Below w.heap.size w w' := by
  intro f
  induction f with
  | zero => intro i w _ hi hf; omega
  | succ f ih =>
    intro i w h hi hf
    have hT := Lib.hid h
    have hm2 := Lib.hid hm
    have IH := Lib.hid ih
    clear ih
    obtain ⟨ad, rfl, hn⟩ := h i hi
    have hb2 := hn.blk
    have hb1 : ad.block < w.heap.size := (by rw [block_add] at hb2; exact hb2)
    obtain ⟨K0, kc0, c0, c1, c2, c3, c4, hK0, hkk, hkm⟩ := node_open hn
    have bx : Below w.heap.size w (w.alloc (.cells #[.slice (some ad) L.length c] 24)) := (by (exact bl))
    have HF := Lib.hid (rFits_any (some ad) L c i _ (h.later bx) hc hm hL hi (hx i))
    have HS := Lib.hid (show look L (f + 1) i = if fitsB L (i : Int) = false then ((i : Int), i + 1) else lookK (look L f) i (nd L i).ks (i + 1) from rfl)
    have HIN := Lib.hid (fun e => fits_in (L := L) (i := (i : Int)) e)
    unfold maxLen at hm hkm
    clear h hn c0 c1 c2 c4
    generalize hR : look L (f + 1) i = R at *
    clear hR
    generalize (nd L i).ks = ks at *
    generalize fitsB L i = bf at *
    cases bf
    · have hR := HS.out
      rw [if_pos rfl] at hR
      subst hR
      go_enter Tryz.func40, Tryz.ntmps40
      go_wp2_with (first
        | (go_at_call 62; (with_reducible refine HF.out.mono ?_); rintro e w1 ⟨rfl, b1⟩; have q1 := bx.trans (b1.mono bx.size))
        | fail)
      go_ret2
      exact ⟨rfl, q1⟩
    · have hR := HS.out
      rw [if_neg (by simp)] at hR
      have HR := Lib.hid (show lookK (look L f) i (ks.drop 0) (i + 1) = R from hR.symm)
      have hin := Lib.hid (HIN.out rfl)
      clear HS hR HIN
      generalize hM : ks.length = M at *
      have HM := Lib.hid hM
      clear hM
      go_enter Tryz.func40, Tryz.ntmps40
      go_wp2_with (first
        | (go_at_call 62; (with_reducible refine HF.out.mono ?_); rintro e w1 ⟨rfl, b1⟩; have q1 := bx.trans (b1.mono bx.size); have x1 : w1.cell? ⟨w.heap.size, 0, none⟩ = some (.slice (some ad) L.length c) := (b1.cell (p := ⟨w.heap.size, 0, none⟩) (by simp)).trans (by simp [World.cell?_alloc_mark]))
        | fail)
      have l1 := World.block_lt_of_cell? w1 _ x1
      simp only at l1
      go_loopw [6, 7] (fun nx t wr => ∃ q x : Nat, q ≤ M ∧ t = .int .i64 (q : Int) ∧ nx = .int .i64 (x : Int) ∧ i < x ∧ Hid (lookK (look L f) i (ks.drop q) x = R) ∧ Below w1.heap.size w1 wr) (fun _ t _ => M - (intOf t).toNat)
      case atStart => exact ⟨0, i + 1, Nat.zero_le _, rfl, by go_num, Nat.lt_succ_self i, HR, Below.refl _ _⟩
      case round =>
        obtain ⟨q, x, hq, rfl, rfl, hix, HT, hb⟩ := hrel
        have bw := q1.trans (hb.mono q1.size)
        have e0 := (hb.cell (p := ⟨w.heap.size, 0, none⟩) l1).trans x1
        have e3 := (bw.cell (p := ⟨(ad.add (i * 5)).block, (ad.add (i * 5)).off + 3, none⟩) hb2).trans c3
        have hz := Below.size bw
        by_cases hlt : q < M
        · obtain ⟨kd, hKd, hkb, kcell0⟩ := hK0 q hlt
          subst hKd
          have kcell : wr.cell? (kd.add q) = some (.int .i64 (ks.getD q 0)) := (bw.cell (by rw [block_add]; exact hkb)).trans kcell0
          have hq2 : q < ks.length := by rw [HM.out]; exact hlt
          have eK : ks.getD q 0 = ks[q] := by simp [List.getD, hq2]
          have hu := hin.out (ks.getD q 0) (by rw [eK]; exact List.getElem_mem _)
          have hT0 := HT.out
          rw [List.drop_eq_getElem_cons hq2, ← eK] at hT0
          have HT2 := Lib.hid hT0
          clear hT0 eK kcell0
          generalize ks.getD q 0 = u at *
          by_cases hux : u = (x : Int)
          · subst hux
            have hxl : x < L.length := (inL_iff.1 hu).2 |> fun h => by omega
            have hT3 := HT2.out
            unfold lookK at hT3
            rw [if_neg (by simp)] at hT3
            have HT3 := Lib.hid hT3
            have HI := Lib.hid (IH.out x wr ((hT.out).later bw) hxl (by omega))
            have hgt := look_gt L f x
            clear hT3 HT2 HT
            generalize look L f x = gx at *
            obtain ⟨bad, en⟩ := gx
            simp only at HT3 HI hgt
            by_cases hbad : 0 ≤ bad
            · have hR2 := HT3.out
              rw [if_pos hbad] at hR2
              subst hR2
              go_wp2_with (first
                | (go_at_call 40; (with_reducible refine HI.out.mono ?_); rintro e w2 ⟨rfl, b2⟩; have q2 := bw.trans (b2.mono bw.size))
                | fail)
              go_ret2
              exact ⟨rfl, q2⟩
            · have hR2 := HT3.out
              rw [if_neg hbad] at hR2
              have HR2 := Lib.hid hR2
              clear hR2 HT3
              go_wp2_with (first
                | (go_at_call 40; (with_reducible refine HI.out.mono ?_); rintro e w2 ⟨rfl, b2⟩; have q2 := hb.trans (b2.mono hb.size))
                | fail)
              exact ⟨⟨q + 1, en, by omega, by go_num, rfl, by omega, HR2, q2⟩, by simp [intOf]; omega⟩
          · have hne : (u != (x : Int)) = true := by simpa using hux
            have hT3 := HT2.out
            unfold lookK at hT3
            rw [if_pos hux] at hT3
            subst hT3
            go_wp2
            go_ret2
            exact ⟨rfl, bw⟩
        · obtain rfl : q = M := by omega
          have hR := HT.out
          rw [List.drop_of_length_le (by rw [HM.out]; exact Nat.le_refl _)] at hR
          have hR2 : R = (-1, x) := hR.symm
          subst hR2
          go_wp2
          go_ret2
          exact ⟨rfl, bw⟩
set_option maxRecDepth 100000 in
set_option maxHeartbeats 8000000 in
theorem rCheck_any (A : Option Addr) (L : List Nd) (c : Nat) (hc : L.length ≤ c) (hm : c ≤ maxLen) (hL : L.length ≤ 1000000000000) (hx : ∀ j : Nat, (nd L j).x.size ≤ 4000000000) (w : World) (h : TreeAt w w.heap.size A L) :
    Calls Tryz.prog 25 #[.agg #[.slice A L.length c]] w fun e w' => e = .returned (.tuple #[.int .i64 (chk L).1, .int .i64 (chk L).2]) ∧ Below w.heap.size w w' := by
  have bx : Below w.heap.size w (w.alloc (.cells #[.slice A L.length c] 24)) := (by (exact bl))
  have H := Lib.hid (show chk L = if L.length = 0 then (0, 7) else if 0 ≤ (look L L.length 0).1 then ((look L L.length 0).1, 7) else if (look L L.length 0).2 < L.length then (((look L L.length 0).2 : Int), 7) else (-1, 0) from rfl)
  generalize chk L = R at *
  by_cases h0 : L.length = 0
  · have hR := H.out
    rw [if_pos h0] at hR
    subst hR
    have h0' : ((L.length : Int) == 0) = true := beq_iff_eq.2 (by omega)
    clear h h0 H
    go_enter Tryz.func25, Tryz.ntmps25
    go_wp2
    go_ret2
    exact ⟨rfl, bx⟩
  · have HL := Lib.hid (rLook_any A L c hc hm hL hx L.length 0 _ (h.later bx) (by omega) (by omega))
    have hR := H.out
    rw [if_neg h0] at hR
    have HR := Lib.hid hR
    have h0' : ((L.length : Int) == 0) = false := beq_eq_false_iff_ne.2 (by omega)
    have HL2 := HL.out
    rw [show ((0 : Nat) : Int) = 0 from rfl] at HL2
    have HL3 := Lib.hid HL2
    clear h hR H HL HL2
    generalize look L L.length 0 = g at *
    obtain ⟨bad, en⟩ := g
    simp only at HR HL3
    unfold maxLen at hm
    by_cases hbad : 0 ≤ bad
    · have hR := HR.out
      rw [if_pos hbad] at hR
      subst hR
      go_enter Tryz.func25, Tryz.ntmps25
      go_wp2_with (first
        | (go_at_call 40; (with_reducible refine HL3.out.mono ?_); rintro e w2 ⟨rfl, b2⟩; have q2 := bx.trans (b2.mono bx.size))
        | fail)
      go_ret2
      exact ⟨rfl, q2⟩
    · have hR := HR.out
      rw [if_neg hbad] at hR
      by_cases hen : en < L.length
      · rw [if_pos hen] at hR
        subst hR
        go_enter Tryz.func25, Tryz.ntmps25
        go_wp2_with (first
          | (go_at_call 40; (with_reducible refine HL3.out.mono ?_); rintro e w2 ⟨rfl, b2⟩; have q2 := bx.trans (b2.mono bx.size); have x2 : w2.cell? ⟨w.heap.size, 0, none⟩ = some (.slice A L.length c) := (b2.cell (p := ⟨w.heap.size, 0, none⟩) (by simp)).trans (by simp [World.cell?_alloc_mark]))
          | fail)
        go_ret2
        exact ⟨rfl, q2⟩
      · rw [if_neg hen] at hR
        subst hR
        go_enter Tryz.func25, Tryz.ntmps25
        go_wp2_with (first
          | (go_at_call 40; (with_reducible refine HL3.out.mono ?_); rintro e w2 ⟨rfl, b2⟩; have q2 := bx.trans (b2.mono bx.size); have x2 : w2.cell? ⟨w.heap.size, 0, none⟩ = some (.slice A L.length c) := (b2.cell (p := ⟨w.heap.size, 0, none⟩) (by simp)).trans (by simp [World.cell?_alloc_mark]))
          | fail)
        go_ret2
        exact ⟨rfl, q2⟩
def goodT (L : List Nd) : Bool := decide ((chk L).2 = 0)
set_option maxRecDepth 100000 in
set_option maxHeartbeats 2000000 in
theorem rGoodT_any (A : Option Addr) (L : List Nd) (c : Nat) (hc : L.length ≤ c) (hm : c ≤ maxLen) (hL : L.length ≤ 1000000000000) (hx : ∀ j : Nat, (nd L j).x.size ≤ 4000000000) (w : World) (h : TreeAt w w.heap.size A L) :
    Calls Tryz.prog 14 #[.agg #[.slice A L.length c]] w fun e w' => e = .returned (.bool (goodT L)) ∧ Below w.heap.size w w' := by
  have bx : Below w.heap.size w (w.alloc (.cells #[.slice A L.length c] 24)) := (by (exact bl))
  have HC := Lib.hid (rCheck_any A L c hc hm hL hx _ (h.later bx))
  have H := Lib.hid (show goodT L = decide ((chk L).2 = 0) from rfl)
  clear h
  generalize goodT L = R at *
  generalize chk L = g at *
  obtain ⟨a, e0⟩ := g
  simp only at H HC
  go_enter Tryz.func14, Tryz.ntmps14
  go_wp2_with (first
    | (go_at_call 25; (with_reducible refine HC.out.mono ?_); rintro e w2 ⟨rfl, b2⟩; have q2 := bx.trans (b2.mono bx.size))
    | fail)
  go_ret
  exact ⟨ret_bool (by rw [H.out]; rw [Bool.eq_iff_iff]; simp), q2⟩
end
section
set_option linter.unusedVariables false
set_option linter.unusedSimpArgs false
set_option linter.unnecessarySimpa false
open Go.RowKit
attribute [local go_sem] cell_alloc_add cell_set_add lt_more
set_option maxRecDepth 100000 in
set_option maxHeartbeats 8000000 in
theorem rStrip_any (A : Option Addr) (L : List Nd) (N c : Nat) (hN : L.length = N) (hc : N ≤ c) (hm : c ≤ maxLen) (hNN : N ≤ 1000000) (hkl : ∀ j : Int, (nd L j).ks.length ≤ 1000000) (hx : ∀ j : Nat, (nd L j).x.size ≤ 4000000000) (w : World) (h : TreeAt w w.heap.size A L) : Calls Tryz.prog 7 #[.agg #[.slice A N c]] w fun r w' => (∃ v l, r = .returned (.tuple #[.agg #[v], .int .i64 (stripT L).2]) ∧ OwnT w' w.heap.size v l ∧ l.map (·.1) = (stripT L).1) ∧ Below w.heap.size w w' := by
  have HG := Lib.hid (fun W (hb : Below w.heap.size w W) => hN ▸ rGoodT_any A L c (by omega) hm (by omega) hx W (h.later hb))
  have HT := Lib.hid h
  have HSP := Lib.hid (good_iff (L := L))
  have HRS := Lib.hid (show Sp L 0 L.length → ∀ W, Below w.heap.size w W → Calls Tryz.prog 16 #[.agg #[.slice A N c], .int .i64 0] W (fun r w' => (∃ v l, r = .returned (.agg #[v]) ∧ OwnT w' W.heap.size v l ∧ l.map (·.1) = stripL L L.length ((0 : Nat) : Int)) ∧ Below W.heap.size W w') from fun (hs : Sp L 0 L.length) W (hb : Below w.heap.size w W) => rstripped_any A L N c hN hc hm hNN hkl L.length 0 L.length W hs (by omega) (h.later hb))
  have HST := Lib.hid (show stripT L = if (chk L).2 = 0 ∧ ((nd L ((0 : Nat) : Int)).k = 3 ∨ exprK (nd L ((0 : Nat) : Int)).k = true) then (stripL L L.length ((0 : Nat) : Int), 0) else ([], 7) from rfl)
  have hm2 := Lib.hid hm
  unfold maxLen at hm
  obtain ⟨wa, hwa⟩ : ∃ wa : World, wa = (w.alloc (.cells #[.slice A N c] 24)).alloc (.cells #[.slice none 0 0] 24) := ⟨_, rfl⟩
  have bA : Below w.heap.size w wa := by rw [hwa]; exact (by (exact bl))
  have zA : w.heap.size + 1 < wa.heap.size := by rw [hwa]; simp
  have rT : Row wa w.heap.size 24 #[.slice A N c] := by rw [hwa]; exact (row_new rfl).alloc _
  have rR : Row wa (w.heap.size + 1) 24 #[.slice none 0 0] := by rw [hwa]; exact row_new (by simp)
  have t0 := rT.cell 0
  have r0 := rR.cell 0
  have rf := rR.free 0
  have lT := rT.lt
  have lR := rR.lt
  simp at t0 r0
  by_cases hg : (chk L).2 = 0
  · have hgt : goodT L = true := by unfold goodT; simp [hg]
    rw [hgt] at HG
    have hS := HSP.out.1 hg
    have hi : 0 < N := by rw [← hN]; exact hS.1
    obtain ⟨ad, rfl, hn⟩ := HT.out 0 hS.1
    rw [Nat.zero_mul, add_zero] at hn
    have c0 := hn.c0
    have hb1 := hn.blk
    replace c0 := (bA.cell (p := ad) hb1).trans c0
    have hbo : ad.block < wa.heap.size := by omega
    have HR := Lib.hid (HRS.out hS)
    have hT2 := HST.out
    generalize (nd L ((0 : Nat) : Int)).k = k at *
    have h0N : (0 : Int) < (N : Int) := by omega
    by_cases hk : k = 3 ∨ exprK k = true
    · rw [if_pos ⟨hg, hk⟩] at hT2
      generalize stripT L = sT at *
      subst hT2
      simp only at HR ⊢
      generalize stripL L L.length ((0 : Nat) : Int) = sL at *
      clear hn hg hgt HSP HRS HST h
      by_cases h3 : k = 3
      · subst h3
        go_enter Tryz.func7, Tryz.ntmps7
        go_upto_region 1 with fail
        rw [← hwa]
        clear hwa
        go_wp2_with (first
          | (go_at_call 14; (with_reducible refine (HG.out _ bA).mono ?_); rintro r w1 ⟨rfl, b1⟩; have z1 := b1.size; have c01 := (b1.cell (p := ad) hbo).trans c0; have hbo1 : ad.block < w1.heap.size := (by omega); have rT1 := rT.below b1 lT; have rR1 := rR.below b1 lR; have t1 := rT1.cell 0; have lT1 := rT1.lt; simp at t1; have q1 := bA.trans (b1.mono bA.size))
          | (go_at_call 16; (with_reducible refine (HR.out _ q1).mono ?_); rintro r w3 ⟨⟨v3, l3, rfl, hO3, hl3⟩, b3⟩; obtain ⟨A3, cc3, rfl, hcc3, hmm3⟩ := own_slice hO3.row; have z3 := Below.size b3; have zq := q1.size; have rR3 := rR1.below b3 rR1.lt; have f3 := rR3.free 0; have c3 := rR3.cell 0; simp at c3; have lR3 := rR3.lt; have lRR := rR1.lt; have r35 := row_put1 rR3 (.slice A3 l3.length cc3); have r350 := r35.cell 0; simp at r350)
          | fail)
        refine bodyPost_ret (v := .tuple #[.agg #[.slice A3 l3.length cc3], .int .i64 0]) (by simp [results, Tryz.results7, go_sem, *]) rfl ?_
        exact ⟨⟨_, _, rfl, (hO3.far (a := ⟨w.heap.size + 1, 0, none⟩) (by show w.heap.size + 1 < _; omega) _).mono (by omega), hl3⟩, (q1.trans (b3.mono q1.size)).setCell (by show w.heap.size ≤ w.heap.size + 1; omega) _⟩
      · have h3' : (k == 3) = false := beq_eq_false_iff_ne.2 h3
        have he : exprK k = true := hk.resolve_left h3
        have HEX := Lib.hid (fun W => he ▸ rIsExpr_any k W)
        clear he hk h3
        go_enter Tryz.func7, Tryz.ntmps7
        go_upto_region 1 with fail
        rw [← hwa]
        clear hwa
        go_wp2_with (first
          | (go_at_call 14; (with_reducible refine (HG.out _ bA).mono ?_); rintro r w1 ⟨rfl, b1⟩; have z1 := b1.size; have c01 := (b1.cell (p := ad) hbo).trans c0; have hbo1 : ad.block < w1.heap.size := (by omega); have rT1 := rT.below b1 lT; have rR1 := rR.below b1 lR; have t1 := rT1.cell 0; have lT1 := rT1.lt; simp at t1; have q1 := bA.trans (b1.mono bA.size))
          | (go_at_call 15; (with_reducible refine (HEX.out _).mono ?_); rintro r w2 ⟨rfl, b2⟩; replace rT1 := rT1.below b2 rT1.lt; replace rR1 := rR1.below b2 rR1.lt; have t2 := rT1.cell 0; have lT2 := rT1.lt; simp at t2; replace q1 := q1.trans (b2.mono q1.size))
          | (go_at_call 16; (with_reducible refine (HR.out _ q1).mono ?_); rintro r w3 ⟨⟨v3, l3, rfl, hO3, hl3⟩, b3⟩; obtain ⟨A3, cc3, rfl, hcc3, hmm3⟩ := own_slice hO3.row; have z3 := Below.size b3; have zq := q1.size; have rR3 := rR1.below b3 rR1.lt; have f3 := rR3.free 0; have c3 := rR3.cell 0; simp at c3; have lR3 := rR3.lt; have lRR := rR1.lt; have r35 := row_put1 rR3 (.slice A3 l3.length cc3); have r350 := r35.cell 0; simp at r350)
          | fail)
        refine bodyPost_ret (v := .tuple #[.agg #[.slice A3 l3.length cc3], .int .i64 0]) (by simp [results, Tryz.results7, go_sem, *]) rfl ?_
        exact ⟨⟨_, _, rfl, (hO3.far (a := ⟨w.heap.size + 1, 0, none⟩) (by show w.heap.size + 1 < _; omega) _).mono (by omega), hl3⟩, (q1.trans (b3.mono q1.size)).setCell (by show w.heap.size ≤ w.heap.size + 1; omega) _⟩
    · rw [if_neg (fun e => hk e.2)] at hT2
      generalize stripT L = sT at *
      subst hT2
      clear hn hg hgt HSP HRS HST h HR
      have h3 : (k == 3) = false := beq_eq_false_iff_ne.2 (fun e => hk (.inl e))
      have he : exprK k = false := by
        cases h : exprK k with
        | false => rfl
        | true => exact absurd (.inr h) hk
      have HEX := Lib.hid (fun W => he ▸ rIsExpr_any k W)
      clear he hk
      go_enter Tryz.func7, Tryz.ntmps7
      go_upto_region 1 with fail
      rw [← hwa]
      clear hwa
      go_wp2_with (first
        | (go_at_call 14; (with_reducible refine (HG.out _ bA).mono ?_); rintro r w1 ⟨rfl, b1⟩; have z1 := b1.size; have c01 := (b1.cell (p := ad) hbo).trans c0; have hbo1 : ad.block < w1.heap.size := (by omega); have rT1 := rT.below b1 lT; have rR1 := rR.below b1 lR; have t1 := rT1.cell 0; have lT1 := rT1.lt; simp at t1)
        | (go_at_call 15; (with_reducible refine (HEX.out _).mono ?_); rintro r w2 ⟨rfl, b2⟩; have rR2 := rR1.below b2 rR1.lt; have r2 := rR2.cell 0; have f2 := rR2.free 0; have lR2 := rR2.lt; have r25 := row_put1 rR2 (.slice none 0 0); have r250 := r25.cell 0; simp at r2 r250)
        | fail)
      refine bodyPost_ret (v := .tuple #[.agg #[.slice none 0 0], .int .i64 7]) (by simp [results, Tryz.results7, go_sem, *]) rfl ?_
      exact ⟨⟨_, [], rfl, ⟨World.ownsRow_nil _ _ _ _, Kids.nil _ _⟩, rfl⟩, ((bA.trans (b1.mono bA.size)).trans (b2.mono (by omega))).setCell (by show w.heap.size ≤ w.heap.size + 1; omega) _⟩
  · have hgt : goodT L = false := by unfold goodT; simp [hg]
    rw [hgt] at HG
    have hT2 := HST.out
    rw [if_neg (fun e => hg e.1)] at hT2
    generalize stripT L = sT at *
    subst hT2
    clear hg hgt HSP HRS HST h
    go_enter Tryz.func7, Tryz.ntmps7
    go_upto_region 1 with fail
    rw [← hwa]
    clear hwa
    go_wp2_with (first
      | (go_at_call 14; (with_reducible refine (HG.out _ bA).mono ?_); rintro r w1 ⟨rfl, b1⟩; have z1 := b1.size; have rR1 := rR.below b1 lR; have r2 := rR1.cell 0; have f2 := rR1.free 0; have lR2 := rR1.lt; have r25 := row_put1 rR1 (.slice none 0 0); have r250 := r25.cell 0; simp at r2 r250)
      | fail)
    refine bodyPost_ret (v := .tuple #[.agg #[.slice none 0 0], .int .i64 7]) (by simp [results, Tryz.results7, go_sem, *]) rfl ?_
    exact ⟨⟨_, [], rfl, ⟨World.ownsRow_nil _ _ _ _, Kids.nil _ _⟩, rfl⟩, (bA.trans (b1.mono bA.size)).setCell (by show w.heap.size ≤ w.heap.size + 1; omega) _⟩
end
end Go.Proofs.YtpkdhciokiomlaaGreatDoor
