/- The walk of the program's Strip. -/
import Derived.Test.YtpkdhciokiomlaaDoorHSr
import Derived.Test.YtpkdhciokiomlaaDoorHBZ12
namespace Go.Proofs.YtpkdhciokiomlaaDoor
set_option linter.unusedVariables false
set_option linter.unusedSimpArgs false
set_option linter.unnecessarySimpa false
open Go.RowKit
attribute [local go_sem] cell_alloc_add cell_set_add lt_more
theorem strip_sh0 {L : List Nd} (hL : L.length ≤ 1000000) (hB : ∀ j : Int, (nd L j).ks.length ≤ 1000000) : ∀ (f n e : Nat), Sp L n e → e - n ≤ f → (stripL L f n).map (shN ((0 : Nat) : Int)) = stripL L f n := by
  intro f
  induction f with
  | zero => intro n e h hf; have := h.lt; omega
  | succ f ih =>
    intro n e h hf
    by_cases hk : (nd L n).k = 33 ∨ (nd L n).k = 34
    · have h0 := kid0 h.2.1 hk
      obtain ⟨j, m, e1, hS, e2, e3⟩ := kid_sp h h0
      have := ih j m hS (by have := h.lt; have := hS.lt; omega)
      show (if (nd L n).k = 33 ∨ (nd L n).k = 34 then stripL L f ((nd L n).ks.getD 0 0) else _).map _ = if (nd L n).k = 33 ∨ (nd L n).k = 34 then stripL L f ((nd L n).ks.getD 0 0) else _
      rw [if_pos hk, e1]
      exact this
    · have hok := parts_ok hB h hf
      have hlen := h.len
      show (if (nd L n).k = 33 ∨ (nd L n).k = 34 then _ else mkL (normN (nd L n)) (partsL (stepS L (stripL L f) (nd L n).k) 0 (nd L n).ks)).map _ = if (nd L n).k = 33 ∨ (nd L n).k = 34 then _ else mkL (normN (nd L n)) (partsL (stepS L (stripL L f) (nd L n).k) 0 (nd L n).ks)
      rw [if_neg hk, mk_two 0 (fun l hl => (hok.2 l hl).1) (by have := hok.1; omega), mkL_form (fun l hl => (hok.2 l hl).1)]
set_option maxRecDepth 100000 in
set_option maxHeartbeats 8000000 in
theorem Strip_any (A : Option Addr) (L : List Nd) (N c : Nat) (hN : L.length = N) (hc : N ≤ c) (hm : c ≤ maxLen) (hNN : N ≤ 1000000) (hkl : ∀ j : Int, (nd L j).ks.length ≤ 1000000) (hx : ∀ j : Nat, (nd L j).x.size ≤ 4000000) (w : World) (h : TreeAt w w.heap.size A L) (hmx : Mx w) (hw00 : 0 < w.heap.size) : Calls Tryd.prog 5 #[.agg #[.slice A N c]] w fun r w' => (∃ v l, r = .returned (.tuple #[.agg #[v], .int .i64 (stripT L).2]) ∧ OwnT w' w.heap.size v l ∧ l.map (·.1) = (stripT L).1) ∧ Below w.heap.size w w' := by
  have HCK := Lib.hid (fun W (hb : Below w.heap.size w W) => hN ▸ Check_any A L c (by omega) hm (by omega) hx W (h.later hb) (hmx.below hb hw00) (by have := hb.size; omega))
  have HT := Lib.hid h
  have HSP := Lib.hid (good_iff (L := L))
  have HOR := Lib.hid (chk_or (L := L))
  have HS0 := Lib.hid (fun hs => strip_sh0 (by omega) hkl L.length 0 L.length hs (by omega))
  have HRS := Lib.hid (show Sp L 0 L.length → leftB L L.length ((0 : Nat) : Int) = false → ∀ b W, w.heap.size ≤ b → b < W.heap.size → TreeAt W w.heap.size A L → Row W b 37 #[.slice A N c, .slice none 0 0] → Calls Tryd.prog 10 #[.pointer (some ⟨b, 0, none⟩), .int .i64 0] W (fun r w' => ∃ (tv' : Value) (m : List NdV), r = .returned (.int .i64 0) ∧ Row w' b 37 #[.slice A N c, tv'] ∧ OwnT w' (b + 1) tv' m ∧ m.map (·.1) = (stripL L L.length ((0 : Nat) : Int)).map (shN ((0 : Nat) : Int)) ∧ Below b W w') from fun hs hl b W hb hbw hT hR => (strip_any A L N c hN hc hm hNN hkl b (b + 1) w.heap.size (by omega) hb L.length 0 L.length (.slice none 0 0) [] W hs (by omega) hl hT hR ⟨World.ownsRow_nil _ _ _ _, Kids.nil _ _⟩ (by omega) (by simp; omega)).mono fun r w' ⟨tv', m, e1, e2, e3, e4, _, e6⟩ => ⟨tv', m, e1, e2, e3, e4, e6.bw⟩)
  have HST := Lib.hid (show stripT L = if (chk L).2 = 0 ∧ ((nd L ((0 : Nat) : Int)).k = 3 ∨ exprK (nd L ((0 : Nat) : Int)).k = true) then (stripL L L.length ((0 : Nat) : Int), 0) else ([], 7) from rfl)
  have HLK := Lib.hid (fun (h : (nd L ((0 : Nat) : Int)).k = 3 ∨ exprK (nd L ((0 : Nat) : Int)).k = true) => show leftB L L.length ((0 : Nat) : Int) = false from by
    rcases h with h | h
    · exact left_kind (by rw [h]; rfl)
    · exact expr_stays h)
  have hm2 := Lib.hid hm
  unfold maxLen at hm
  obtain ⟨wa, hwa⟩ : ∃ wa : World, wa = (w.alloc (.cells #[.slice A N c] 24)).alloc (.cells #[.slice none 0 0] 24) := ⟨_, rfl⟩
  have bA : Below w.heap.size w wa := by rw [hwa]; exact (by (exact bl))
  have zA : w.heap.size + 1 < wa.heap.size := by rw [hwa]; simp
  have rT : Row wa w.heap.size 24 #[.slice A N c] := by rw [hwa]; exact (row_new rfl).alloc _
  have rR : Row wa (w.heap.size + 1) 24 #[.slice none 0 0] := by rw [hwa]; exact row_new (by simp)
  have t0 := rT.cell 0
  have r0 := rR.cell 0
  have rf := rR.free 0
  have lT := rT.lt
  have lR := rR.lt
  simp at t0 r0
  by_cases hg : (chk L).2 = 0
  · have hS := HSP.out.1 hg
    have hi : 0 < N := by rw [← hN]; exact hS.1
    obtain ⟨ad, rfl, hn⟩ := HT.out 0 hS.1
    rw [Nat.zero_mul, add_zero] at hn
    have hc0 := hn.c0
    have hb1 := hn.blk
    have HC0 := Lib.hid (fun W (hb : Below w.heap.size w W) => (hb.cell (p := ad) hb1).trans hc0)
    have hT2 := HST.out
    have HRS := Lib.hid (HRS.out hS)
    have HS0 := Lib.hid (HS0.out hS)
    generalize (nd L ((0 : Nat) : Int)).k = k at *
    have h0N : (0 : Int) < (N : Int) := by omega
    rw [hg] at HCK
    generalize (chk L).1 = ch at *
    by_cases hk : k = 3 ∨ exprK k = true
    · rw [if_pos ⟨hg, hk⟩] at hT2
      generalize stripT L = sT at *
      subst hT2
      simp only at HRS ⊢
      have HRS := Lib.hid (HRS.out (HLK.out hk))
      rw [HS0.out] at HRS
      generalize stripL L L.length ((0 : Nat) : Int) = sL at *
      clear hn hg HSP HOR HST HLK HS0 h hmx hc0 hS
      by_cases h3 : k = 3
      · subst h3
        clear hk
        go_enter Tryd.func5, Tryd.ntmps5
        go_upto_region 1 with fail
        rw [← hwa]
        clear hwa
        go_wp2_with (first
          | (go_at_call 9; (with_reducible refine (HCK.out _ bA).mono ?_); rintro r w1 ⟨rfl, b1⟩; have z1 := b1.size; have rT1 := rT.below b1 lT; have rR1 := rR.below b1 lR; have t1 := rT1.cell 0; have lT1 := rT1.lt; have r1 := rR1.cell 0; have f1 := rR1.free 0; have lR1 := rR1.lt; have r15 := row_put1 rR1 (.slice none 0 0); have r150 := r15.cell 0; simp at t1 r1 r150; have q1 := bA.trans (b1.mono bA.size); have c01 := HC0.out _ q1; have hbo1 : ad.block < w1.heap.size := (by omega))
          | (go_at_call 10; (with_reducible refine (HRS.out w1.heap.size (w1.alloc (.cells #[.slice (some ad) N c, .slice none 0 0] 37)) (by omega) (by simp) (HT.out.below (q1.alloc (by omega) _)) (row_new rfl)).mono ?_); rintro r w3 ⟨tv3, l3, rfl, rS3, hO3, hl3, b3⟩; obtain ⟨A3, cc3, rfl, hcc3, hmm3⟩ := own_slice hO3.row; have z3 := Below.size b3; have rR3 : Row w3 (w.heap.size + 1) 24 #[.slice none 0 0] := (rR1.alloc _).below b3 (by omega); have f3 := rR3.free 0; have c3 := rR3.cell 0; simp at c3; have lR3 := rR3.lt; have lS3 := rS3.lt; have s3 := rS3.cell 1; simp at s3; have r35 := row_put1 rR3 (.slice A3 l3.length cc3); have r350 := r35.cell 0; simp at r350)
          | fail)
        refine bodyPost_ret (v := .tuple #[.agg #[.slice A3 l3.length cc3], .int .i64 0]) (by simp [results, Tryd.results5, go_sem, *]) rfl ?_
        exact ⟨⟨_, _, rfl, (hO3.far (a := ⟨w.heap.size + 1, 0, none⟩) (by show w.heap.size + 1 < _; omega) _).mono (by omega), hl3⟩, ((q1.alloc (by omega) _).trans (b3.mono (by omega))).setCell (by show w.heap.size ≤ w.heap.size + 1; omega) _⟩
      · have h3' : (k == 3) = false := beq_eq_false_iff_ne.2 h3
        have he := hk.resolve_left h3
        simp only [exprK, Bool.and_eq_true, decide_eq_true_eq, Bool.not_eq_true'] at he
        obtain ⟨⟨h10, h34⟩, h21⟩ := he
        have h10' : ¬ k < 10 := by omega
        have h34' : ¬ k > 34 := by omega
        have h3b : (k != 3) = true := by simp [bne, h3']
        clear h10 h34 h3 hk
        go_enter Tryd.func5, Tryd.ntmps5
        go_upto_region 1 with fail
        rw [← hwa]
        clear hwa
        go_wp2_with (first
          | (go_at_call 9; (with_reducible refine (HCK.out _ bA).mono ?_); rintro r w1 ⟨rfl, b1⟩; have z1 := b1.size; have rT1 := rT.below b1 lT; have rR1 := rR.below b1 lR; have t1 := rT1.cell 0; have lT1 := rT1.lt; have r1 := rR1.cell 0; have f1 := rR1.free 0; have lR1 := rR1.lt; have r15 := row_put1 rR1 (.slice none 0 0); have r150 := r15.cell 0; simp at t1 r1 r150; have q1 := bA.trans (b1.mono bA.size); have c01 := HC0.out _ q1; have hbo1 : ad.block < w1.heap.size := (by omega))
          | (go_at_call 10; (with_reducible refine (HRS.out w1.heap.size (w1.alloc (.cells #[.slice (some ad) N c, .slice none 0 0] 37)) (by omega) (by simp) (HT.out.below (q1.alloc (by omega) _)) (row_new rfl)).mono ?_); rintro r w3 ⟨tv3, l3, rfl, rS3, hO3, hl3, b3⟩; obtain ⟨A3, cc3, rfl, hcc3, hmm3⟩ := own_slice hO3.row; have z3 := Below.size b3; have rR3 : Row w3 (w.heap.size + 1) 24 #[.slice none 0 0] := (rR1.alloc _).below b3 (by omega); have f3 := rR3.free 0; have c3 := rR3.cell 0; simp at c3; have lR3 := rR3.lt; have lS3 := rS3.lt; have s3 := rS3.cell 1; simp at s3; have r35 := row_put1 rR3 (.slice A3 l3.length cc3); have r350 := r35.cell 0; simp at r350)
          | fail)
        refine bodyPost_ret (v := .tuple #[.agg #[.slice A3 l3.length cc3], .int .i64 0]) (by simp [results, Tryd.results5, go_sem, *]) rfl ?_
        exact ⟨⟨_, _, rfl, (hO3.far (a := ⟨w.heap.size + 1, 0, none⟩) (by show w.heap.size + 1 < _; omega) _).mono (by omega), hl3⟩, ((q1.alloc (by omega) _).trans (b3.mono (by omega))).setCell (by show w.heap.size ≤ w.heap.size + 1; omega) _⟩
    · rw [if_neg (fun e => hk e.2)] at hT2
      generalize stripT L = sT at *
      subst hT2
      clear hn hg HSP HOR HST HLK HS0 h hmx hc0 hS HRS
      have h3 : (k == 3) = false := beq_eq_false_iff_ne.2 (fun e => hk (.inl e))
      have h3b : (k != 3) = true := by simp [bne, h3]
      have he : k < 10 ∨ ¬ k < 10 ∧ (k > 34 ∨ ¬ k > 34 ∧ k = 21) := by
        have : ¬ (exprK k = true) := fun e => hk (.inr e)
        simp only [exprK, Bool.and_eq_true, decide_eq_true_eq, Bool.not_eq_true', beq_eq_false_iff_ne] at this
        omega
      clear hk
      have hfin : True := trivial
      rcases he with h10 | ⟨h10, h34 | ⟨h34, rfl⟩⟩
      all_goals
        go_enter Tryd.func5, Tryd.ntmps5
        go_upto_region 1 with fail
        rw [← hwa]
        clear hwa
        go_wp2_with (first
          | (go_at_call 9; (with_reducible refine (HCK.out _ bA).mono ?_); rintro r w1 ⟨rfl, b1⟩; have z1 := b1.size; have rT1 := rT.below b1 lT; have rR1 := rR.below b1 lR; have t1 := rT1.cell 0; have lT1 := rT1.lt; have r1 := rR1.cell 0; have f1 := rR1.free 0; have lR1 := rR1.lt; have r15 := row_put1 rR1 (.slice none 0 0); have r150 := r15.cell 0; simp at t1 r1 r150; have q1 := bA.trans (b1.mono bA.size); have c01 := HC0.out _ q1; have hbo1 : ad.block < w1.heap.size := (by omega))
          | fail)
        refine bodyPost_ret (v := .tuple #[.agg #[.slice none 0 0], .int .i64 7]) (by simp [results, Tryd.results5, go_sem, *]) rfl ?_
        exact ⟨⟨_, [], rfl, ⟨World.ownsRow_nil _ _ _ _, Kids.nil _ _⟩, rfl⟩, q1.setCell (by show w.heap.size ≤ w.heap.size + 1; omega) _⟩
  · have hc7 := HOR.out.resolve_left (fun e => hg (by rw [e]))
    rw [hc7.1] at HCK
    have hT2 := HST.out
    rw [if_neg (fun e => hg e.1)] at hT2
    generalize stripT L = sT at *
    subst hT2
    generalize (chk L).1 = ch at *
    clear hg HSP HOR HST h hmx HLK HS0 HRS hc7
    go_enter Tryd.func5, Tryd.ntmps5
    go_upto_region 1 with fail
    rw [← hwa]
    clear hwa
    go_wp2_with (first
      | (go_at_call 9; (with_reducible refine (HCK.out _ bA).mono ?_); rintro r w1 ⟨rfl, b1⟩; have z1 := b1.size; have rT1 := rT.below b1 lT; have rR1 := rR.below b1 lR; have t1 := rT1.cell 0; have lT1 := rT1.lt; have r1 := rR1.cell 0; have f1 := rR1.free 0; have lR1 := rR1.lt; have r15 := row_put1 rR1 (.slice none 0 0); have r150 := r15.cell 0; simp at t1 r1 r150; have q1 := bA.trans (b1.mono bA.size))
      | fail)
    refine bodyPost_ret (v := .tuple #[.agg #[.slice none 0 0], .int .i64 7]) (by simp [results, Tryd.results5, go_sem, *]) rfl ?_
    exact ⟨⟨_, [], rfl, ⟨World.ownsRow_nil _ _ _ _, Kids.nil _ _⟩, rfl⟩, q1.setCell (by show w.heap.size ≤ w.heap.size + 1; omega) _⟩
end Go.Proofs.YtpkdhciokiomlaaDoor
