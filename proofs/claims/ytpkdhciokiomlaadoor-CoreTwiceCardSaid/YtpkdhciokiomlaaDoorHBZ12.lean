/- Some texts of this claim, put together. -/
import Derived.Test.YtpkdhciokiomlaaDoorHK10
import Derived.Test.YtpkdhciokiomlaaDoorHBZ4
import Derived.Test.YtpkdhciokiomlaaDoorHBZ7
import Derived.WalkSmall
namespace Go.Proofs.YtpkdhciokiomlaaDoor
section
set_option linter.unusedVariables false
set_option linter.unusedSimpArgs false
set_option linter.unnecessarySimpa false
open Go.RowKit
theorem Fits_any (A : Option Addr) (L : List Nd) (c i : Nat) (w : World) (h : TreeAt w w.heap.size A L) (hc : L.length ≤ c) (hm : c ≤ maxLen) (hL : L.length ≤ 1000000000000) (hi : i < L.length) (hx : (nd L i).x.size ≤ 4000000) (hmx : Mx w) (hw00 : 0 < w.heap.size) :
    Calls Tryd.prog 16 #[.agg #[.slice A L.length c], .int .i64 (i : Int)] w fun e w' => e = .returned (.bool (fitsB L i)) ∧ Below w.heap.size w w' := by
  have E : fitsB L (i : Int) = (saidB (nd L i) && kidsP L (nd L i)) := rfl
  rw [E]
  clear E
  by_cases hs : saidB (nd L i) = true
  · unfold kidsP
    by_cases hin : (nd L i).ks.all (inL L) = true
    · by_cases h12 : (nd L i).k = 12
      · rw [if_pos h12, hs, hin, Bool.true_and, Bool.true_and]
        exact fits_tmpl A L c i w h hc hm hL hi hx hmx hw00 hs hin h12
      · by_cases h87 : (nd L i).k = 87
        · rw [if_neg h12, if_pos h87, hs, hin, Bool.true_and, Bool.true_and]
          exact fits_union A L c i w h hc hm hL hi hx hmx hw00 hs hin h87
        · rw [if_neg h12, if_neg h87, hs, hin, Bool.true_and, Bool.true_and]
          rcases ht : tab (nd L i).k with _ | ⟨ps, many⟩
          · exact fits_none A L c i w h hc hm hL hi hx hmx hw00 hs hin h12 h87 ht
          · by_cases hl : many = true ∨ ps.length = (nd L i).ks.length
            · have e : (many || decide (ps.length = (nd L i).ks.length)) = true := by
                rcases hl with hl | hl
                · rw [hl]; rfl
                · rw [decide_eq_true hl, Bool.or_true]
              have := fits_tab A L c i w h hc hm hL hi hx hmx hw00 hs hin h12 h87 ps many ht hl
              show Calls _ _ _ _ fun e w' => e = .returned (.bool ((many || decide (ps.length = (nd L i).ks.length)) && _ && _)) ∧ _
              rw [e, Bool.true_and]
              exact this
            · have h1 : many = false := by
                rcases Bool.eq_false_or_eq_true many with h1 | h1
                · exact absurd (.inl h1) hl
                · exact h1
              have h2 : ps.length ≠ (nd L i).ks.length := fun e => hl (.inr e)
              subst h1
              have := fits_short A L c i w h hc hm hL hi hx hmx hw00 hs hin h12 h87 ps ht h2
              show Calls _ _ _ _ fun e w' => e = .returned (.bool ((false || decide (ps.length = (nd L i).ks.length)) && _ && _)) ∧ _
              rw [decide_eq_false h2, Bool.or_self, Bool.false_and, Bool.false_and]
              exact this
    · have hin2 : (nd L i).ks.all (inL L) = false := by simpa using hin
      rw [hin2, Bool.false_and, Bool.and_false]
      exact fits_stray A L c i w h hc hm hL hi hx hmx hw00 hs hin2
  · have hs2 : saidB (nd L i) = false := by simpa using hs
    rw [hs2, Bool.false_and]
    exact fits_unsaid A L c i w h hc hm hL hi hx hmx hw00 hs2
end
section
set_option linter.unusedVariables false
set_option linter.unusedSimpArgs false
set_option linter.unnecessarySimpa false
open Go.RowKit
attribute [local go_sem] cell_alloc_add cell_set_add lt_more
/-- The stack's cells: the last one is the open node. -/
def flatS : List (Nat × Nat) → List Value
  | [] => []
  | p :: st => flatS st ++ [.int .i64 (p.1 : Int), .int .i64 (p.2 : Int)]
theorem flatS_len : ∀ st : List (Nat × Nat), (flatS st).length = st.length * 2
  | [] => rfl
  | p :: st => by simp [flatS, flatS_len st]; omega
theorem flatS_0 (p : Nat × Nat) (st : List (Nat × Nat)) : (flatS (p :: st))[st.length * 2]? = some (.int .i64 (p.1 : Int)) := by
  rw [← flatS_len st]; simp [flatS]
theorem flatS_1 (p : Nat × Nat) (st : List (Nat × Nat)) : (flatS (p :: st))[st.length * 2 + 1]? = some (.int .i64 (p.2 : Int)) := by
  rw [← flatS_len st]; simp [flatS]
theorem flatS_put (n q : Nat) (st : List (Nat × Nat)) (z : Int) (hz : z = ((q + 1 : Nat) : Int)) : (flatS ((n, q) :: st)).set (st.length * 2 + 1) (.int .i64 z) = flatS ((n, q + 1) :: st) := by
  subst hz
  rw [← flatS_len st]; simp [flatS, List.set_append]
theorem getD_mem {ks : List Int} {q : Nat} (h : q < ks.length) : ks.getD q 0 ∈ ks := by
  have e : ks.getD q 0 = ks[q] := by simp [List.getD, h]
  rw [e]; exact List.getElem_mem _
def slN : Value → Nat
  | .slice _ n _ => n
  | _ => 0
theorem infoOpen : (Tryd.prog.info? 47).map (fun i => (i.zero, i.size, i.bytes)) = some (some (.agg #[.int .i64 0, .int .i64 0]), 2, 16) := by kernel_rfl
theorem cOpen : Tryd.prog.cellsOf 47 = 2 := by kernel_rfl
set_option maxRecDepth 100000 in
set_option maxHeartbeats 16000000 in
theorem Check_any (A : Option Addr) (L : List Nd) (c : Nat) (hc : L.length ≤ c) (hm : c ≤ maxLen) (hL : L.length ≤ 1000000000000) (hx : ∀ j : Nat, (nd L j).x.size ≤ 4000000) (w : World) (h : TreeAt w w.heap.size A L) (hmx : Mx w) (hw00 : 0 < w.heap.size) :
    Calls Tryd.prog 9 #[.agg #[.slice A L.length c]] w fun e w' => e = .returned (.tuple #[.int .i64 (chk L).1, .int .i64 (chk L).2]) ∧ Below w.heap.size w w' := by
  have bx : Below w.heap.size w (w.alloc (.cells #[.slice A L.length c] 24)) := (by (exact bl))
  have HF := Lib.hid (fun (i : Nat) (hi : i < L.length) W (hb : Below w.heap.size w W) => Fits_any A L c i W (h.later hb) hc hm hL hi (hx i) (hmx.below hb hw00) (Nat.lt_of_lt_of_le hw00 hb.size))
  by_cases h0 : L.length = 0
  · have hR := chk_empty L h0
    generalize chk L = R at *
    subst hR
    have h0' : ((L.length : Int) == 0) = true := beq_iff_eq.2 (by omega)
    clear h h0 HF hmx
    go_enter Tryd.func9, Tryd.ntmps9
    go_wp2
    go_ret2
    exact ⟨rfl, bx⟩
  · have h0' : ((L.length : Int) == 0) = false := beq_eq_false_iff_ne.2 (by omega)
    have HF0 := Lib.hid (HF.out 0 (by omega) _ bx)
    by_cases hf0 : fitsB L ((0 : Nat) : Int) = false
    · have hR := chk_root L h0 hf0
      generalize chk L = R at *
      subst hR
      rw [hf0, show ((0 : Nat) : Int) = 0 from rfl] at HF0
      clear h HF hmx
      go_enter Tryd.func9, Tryd.ntmps9
      go_wp2_with (first
        | (go_at_call 16; (with_reducible refine HF0.out.mono ?_); rintro e w1 ⟨rfl, b1⟩; have q1 := bx.trans (b1.mono bx.size))
        | fail)
      go_ret2
      exact ⟨rfl, q1⟩
    · have hf1 : fitsB L ((0 : Nat) : Int) = true := by simpa using hf0
      rw [hf1, show ((0 : Nat) : Int) = 0 from rfl] at HF0
      have HE := Lib.hid (fun (e : Nat) => chk_end L h0 hf1 (e := e))
      have HB := Lib.hid (fun (b : Int) (e : Nat) => chk_bad L h0 hf1 (b := b) (e := e))
      generalize chk L = R at *
      obtain ⟨i0, hi0, hz0, hz1, hz2⟩ := info_parts infoOpen
      have hT := Lib.hid h
      have hX := Lib.hid hmx
      have hm2 := Lib.hid hm
      obtain ⟨ad, rfl, hn0⟩ := h 0 (by omega)
      have hb2 := hn0.blk
      rw [block_add] at hb2
      clear hn0 h hmx
      unfold maxLen at hm
      go_enter Tryd.func9, Tryd.ntmps9
      go_wp2_with (first
        | (go_at_call 16; (with_reducible refine HF0.out.mono ?_); rintro e w1 ⟨rfl, b1⟩; have q1 := bx.trans (b1.mono bx.size); have x1 : w1.cell? ⟨w.heap.size, 0, none⟩ = some (.slice (some ad) L.length c) := (b1.cell (p := ⟨w.heap.size, 0, none⟩) (by simp)).trans (by simp [World.cell?_alloc_mark]))
        | fail)
      have l1 := World.block_lt_of_cell? w1 _ x1
      simp only at l1
      go_loopw [4, 5] (fun v t wr => ∃ (stk : List (Nat × Nat)) (next : Nat), t = .int .i64 (next : Int) ∧ wr.ownsRow (w.heap.size + 1) 47 2 v stk.length (flatS stk) ∧ Below w.heap.size w wr ∧ wr.cell? ⟨w.heap.size, 0, none⟩ = some (.slice (some ad) L.length c) ∧ Hid (finS L stk next = finS L [(0, 0)] 1) ∧ 1 ≤ next ∧ next ≤ L.length ∧ stk.length ≤ next ∧ (∀ p ∈ stk, p.1 < L.length ∧ p.2 ≤ (nd L p.1).ks.length ∧ fitsB L (p.1 : Nat) = true)) (fun v t _ => 2 * (L.length - (intOf t).toNat) + slN v)
      case atStart =>
        refine ⟨[(0, 0)], 1, rfl, ?_, q1.alloc (by omega) _, (World.cell?_alloc_lt _ _ _ l1).trans x1, Lib.hid rfl, Nat.le_refl _, by omega, by simp, ?_⟩
        · exact World.ownsRow_lit w1 _ 1 (by omega) (by decide) rfl
        · intro p hp
          simp at hp
          subst hp
          exact ⟨by omega, Nat.zero_le _, hf1⟩
      case round =>
        obtain ⟨stk, next, rfl, hown, hb, xr, HS, hn1, hn2, hsl, hin⟩ := hrel
        have hz := Below.size hb
        have lr := World.block_lt_of_cell? wr _ xr
        simp only at lr
        cases stk with
        | nil =>
          have hR := HE.out next (by rw [← HS.out]; rfl)
          rcases hown.2 with ⟨rfl, _⟩ | ⟨g, cap, cur, rfl, _⟩
          all_goals
            by_cases hnl : next < L.length
            · rw [if_pos hnl] at hR
              subst hR
              clear HS
              go_wp2
              go_ret2
              exact ⟨rfl, hb⟩
            · rw [if_neg hnl] at hR
              subst hR
              clear HS
              go_wp2
              go_ret2
              exact ⟨rfl, hb⟩
        | cons p st =>
          obtain ⟨n, q⟩ := p
          rcases hown.2 with ⟨_, hn0⟩ | ⟨g, cap, cur, rfl, hgb, hgg, hncap, hcapm, _, _⟩
          · simp at hn0
          simp only [List.length_cons] at hown hncap hsl ⊢
          have hglt := lt_of_block hgg
          obtain ⟨hnL, hqK, hnF⟩ := hin (n, q) (by simp)
          have HNF := Lib.hid hnF
          have hin2 := Lib.hid (show ∀ p ∈ st, p.1 < L.length ∧ p.2 ≤ (nd L p.1).ks.length ∧ fitsB L (p.1 : Nat) = true from fun p hp => hin p (List.mem_cons_of_mem _ hp))
          simp only at hnL hqK HNF
          clear hnF
          have ct0 := (hown.cellAt (st.length * 2) (by omega)).trans (flatS_0 (n, q) st)
          have ct1 := (hown.cellAt (st.length * 2 + 1) (by omega)).trans (flatS_1 (n, q) st)
          have ft1 := hown.frozenAt (st.length * 2 + 1)
          simp only at ct0 ct1
          have hwr : IntKind.i64.wrap (st.length : Int) = (st.length : Int) := by rw [IntKind.wrap_i64]; omega
          have c2 := cOpen
          have hN := (hT.out.later hb).at_ hnL
          obtain ⟨K0, kc0, d0, d1, d2, d3, d4, hK0, hkk, hkm⟩ := node_open hN
          clear hin hN d0 d1 d2 d4 hgg
          unfold maxLen at hkm hcapm
          have hnLi : (n : Int) < (L.length : Int) := by omega
          have hLt := Lib.hid hL
          have HK := Lib.hid hqK
          by_cases hqe : q = (nd L n).ks.length
          · have HS2 := Lib.hid ((finS_pop L n q st next (by omega)).symm.trans HS.out)
            rw [← hqe] at d3 hkk
            clear HS hK0 hqK hqe HK
            go_wp2
            go_quiet (fail)
            go_wp2
            exact ⟨⟨st, next, rfl, ownsRow_pop (flatS_len st) hown, below_drewN hb _, xr, HS2, hn1, hn2, by omega, hin2.out⟩, by simp [intOf, slN]⟩
          · have hqlt : q < (nd L n).ks.length := by omega
            obtain ⟨kd, hKd, hkb, kcell0⟩ := hK0 q hqlt
            subst hKd
            have kcell : wr.cell? (kd.add q) = some (.int .i64 ((nd L n).ks.getD q 0)) := kcell0
            have HST := Lib.hid (finS_stray L n q st next hqlt)
            have HBD := Lib.hid (finS_bad L n q st next hqlt)
            have HPU := Lib.hid (finS_push L n q st next hqlt)
            have HIN := Lib.hid (fun k hk => fits_in HNF.out k hk)
            have hqk1 := Lib.hid (show q + 1 ≤ (nd L n).ks.length from hqlt)
            have HMEM := Lib.hid (getD_mem hqlt)
            have hown2 := hown.stored (st.length * 2 + 1) (.int .i64 ((q : Int) + 1))
            rw [flatS_put n q st _ (by omega)] at hown2
            obtain ⟨wp, hwp⟩ : ∃ wp : World, wp = wr.setCell ⟨g, st.length * 2 + 1, none⟩ (.int .i64 ((q : Int) + 1)) := ⟨_, rfl⟩
            have HO2 := Lib.hid (hwp ▸ hown2.1)
            have hXP := Lib.hid (show wp.cell? ⟨w.heap.size, 0, none⟩ = some (.slice (some ad) L.length c) by rw [hwp, World.cell?_setCell_other _ _ _ _ (by intro e; injection e with e; omega)]; exact xr)
            have hBP := Lib.hid (show Below w.heap.size w wp by rw [hwp]; exact hb.setCell (by show w.heap.size ≤ g; omega) _)
            have hzp : wp.heap.size = wr.heap.size := by rw [hwp]; simp
            have hqM : (q == (nd L n).ks.length) = false := beq_eq_false_iff_ne.2 hqe
            have hqM2 : ((q : Int) == ((nd L n).ks.length : Int)) = false := beq_eq_false_iff_ne.2 (by omega)
            have hkml : ((nd L n).ks.length : Int) ≤ 9223372036854775807 := by omega
            have HF2 := Lib.hid (fun hl W (hb : Below w.heap.size w W) => HF.out next hl W hb)
            have HWP := Lib.hid hwp
            clear hown2 hK0 kcell0 HK hnL hwp
            by_cases hk : (nd L n).ks.getD q 0 = (next : Int)
            · rw [hk] at kcell
              have hl : next < L.length := by
                have := (inL_iff.1 (HIN.out _ HMEM.out)).2
                omega
              have HBD2 := Lib.hid (HBD.out hk hl)
              have HPU2 := Lib.hid (HPU.out hk hl)
              clear HST HBD HPU hk HMEM HIN
              generalize hMM : (nd L n).ks.length = M at *
              have HMM := Lib.hid hMM
              clear hMM
              by_cases hf : fitsB L (next : Int) = false
              · have hR := HB.out _ _ (HS.out.symm.trans (HBD2.out hf)) (by omega)
                subst hR
                have HF3 := Lib.hid (HF2.out hl)
                rw [hf] at HF3
                clear HS HBD2 HPU2 HF2
                go_wp2
                go_quiet (fail)
                go_wp2_with (first
                  | (go_at_call 16; (with_reducible refine (HF3.out _ (by (exact bl))).mono ?_); rintro e w2 ⟨rfl, b2⟩; have b3 : Below wp.heap.size wp w2 := (by rw [HWP.out]; exact ⟨b2.os, b2.tape, b2.output, b2.size, b2.block⟩); clear b2)
                  | fail)
                go_ret2
                exact ⟨rfl, hBP.out.trans (b3.mono (by omega))⟩
              · have hf2 : fitsB L (next : Int) = true := by simpa using hf
                have HS2 := Lib.hid ((HPU2.out hf2).symm.trans HS.out)
                have HF3 := Lib.hid (HF2.out hl)
                rw [hf2] at HF3
                have HFN := Lib.hid hf2
                clear HS HBD2 HPU2 HF2 hf hf2
                go_wp2
                go_quiet (fail)
                go_wp2_with (first
                  | (go_at_call 16; (with_reducible refine (HF3.out _ (by (exact bl))).mono ?_); rintro e w2 ⟨rfl, b2⟩; have b3 : Below wp.heap.size wp w2 := (by rw [HWP.out]; exact ⟨b2.os, b2.tape, b2.output, b2.size, b2.block⟩); clear b2; have hown3 := own_below HO2.out b3; have x3 := (b3.cell (p := ⟨w.heap.size, 0, none⟩) (by show w.heap.size < _; omega)).trans hXP.out; have z3 := Below.size b3)
                  | (at_builtin; refine wpList_append_own _ rfl _ _ 48 rfl (w.heap.size + 1) 47 i0 _ 2 16 Tryd.underlying48 hi0 hz0 hz1 hz2 rfl (by decide) _ _ _ rfl (hown3.alloc _) ⟨w2.heap.size, 0, none⟩ 1 1 [.int .i64 (next : Int), .int .i64 0] rfl rfl (cell_two_new _ _ _ _) (fun x hx => by simp at hx; rcases hx with rfl | rfl <;> rfl) (by unfold maxLen; omega) (by omega) (by simp; omega) ?_; intro v3 w3 hown4 hg4 _; obtain ⟨A3, c3, rfl, _, _⟩ := own_slice hown4)
                  | fail)
                have b4 : Below w.heap.size w w3 := ((hBP.out.trans (b3.mono (by omega))).alloc (by omega) _).grown hg4 (by simp; omega) (fun k hk => by have := (hown3.lt _ hk).1; omega)
                have x4 := cell_grown (g := w.heap.size) ((World.cell?_alloc_lt _ (.cells #[.int .i64 (next : Int), .int .i64 0] 47) _ (by show w.heap.size < _; omega)).trans x3) hg4 (fun e => by have := (hown3.lt _ e).1; omega)
                refine ⟨⟨(next, 0) :: (n, q + 1) :: st, next + 1, by go_num, hown4, b4, x4, HS2, by omega, by omega, by simp; omega, ?_⟩, by simp [intOf, slN]; omega⟩
                intro p hp
                rcases List.mem_cons.1 hp with rfl | hp
                · exact ⟨hl, Nat.zero_le _, HFN.out⟩
                · rcases List.mem_cons.1 hp with rfl | hp
                  · exact ⟨by have := hnLi; omega, by show q + 1 ≤ _; rw [HMM.out]; have := hqk1.out; omega, HNF.out⟩
                  · exact hin2.out p hp
            · have hR := HB.out _ _ (HS.out.symm.trans (HST.out hk)) (by omega)
              have hk2 : ((nd L n).ks.getD q 0 != (next : Int)) = true := by simpa using hk
              subst hR
              clear HST HBD HPU HMEM HIN HF2
              generalize (nd L n).ks.getD q 0 = u at *
              generalize hMM : (nd L n).ks.length = M at *
              have HMM := Lib.hid hMM
              clear hMM HS
              go_wp2
              go_quiet (fail)
              go_wp2
              go_ret2
              exact ⟨rfl, (by (exact bl))⟩
end
end Go.Proofs.YtpkdhciokiomlaaDoor
