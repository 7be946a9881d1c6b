/- The walk of LexTokens. -/
import Derived.Test.YtdlppdoankeilaaLaw2
namespace Go.Proofs.Ytdlppdoankeilaa
set_option linter.unusedVariables false
set_option linter.unusedSimpArgs false
set_option linter.unnecessarySimpa false
open Go.RowKit
attribute [local go_sem] cell_alloc_add cell_set_add lt_more
theorem Mx.pos {w : World} (hm : Mx w) : 0 < w.heap.size := by obtain ⟨y, hy⟩ := hm; exact Nat.lt_of_le_of_lt (Nat.zero_le _) (World.block_lt_of_cell? w ⟨0, 0, none⟩ hy)
theorem room_bytes {w : World} {B : Nat} {A : Option Addr} {s : ByteArray} (h : Rd w B A (s.size + 1) (room s)) : Rd w B A s.size (byteC s) := (h.part (by omega)).congr fun j hj => by unfold room; rw [if_pos hj]
set_option maxRecDepth 100000 in
set_option maxHeartbeats 8000000 in
theorem LexTokens_any (s : ByteArray) (A : Option Addr) (c : Nat) (hs : s.size ≤ 140737488351232) (hcap : s.size ≤ c) (w : World) (hm : Mx w) (h : Rd w w.heap.size A s.size (byteC s)) :
    Calls Try.prog 3 #[.slice A s.size c] w fun e w' => e = .returned (.bool true) ∧ Below w.heap.size w w' := by
  have h0 := hm.pos
  by_cases h15 : s.size ≤ 1500
  · have h15' : ((s.size : Int) > 1500) = False := by simp; omega
    have hroom := Lib.hid (roomy_any s A c (by omega) w h)
    have HTok := Lib.hid (fun W A' c' (hb : Below w.heap.size w W) (hr : Rd W W.heap.size A' s.size (byteC s)) => Tokens_any s A' c' (by omega) W (hm.below hb h0) hr)
    have HRef := Lib.hid (fun W (hb : Below w.heap.size w W) => rTokens_any s A c (by omega) hcap W (B := w.heap.size) hb.size (h.below hb))
    have HK := Lib.hid (fun W (hb : Below w.heap.size w W) => known_any W (hm.below hb h0))
    obtain ⟨pl, hpl⟩ : ∃ pl, pl = (tokR s).2.1 := ⟨_, rfl⟩
    obtain ⟨fl, hfl⟩ : ∃ fl, fl = (tokR s).2.2 := ⟨_, rfl⟩
    have hne1 : ((pl : Int) != (pl : Int)) = false := by simp
    have hne2 : ((fl : Int) != (fl : Int)) = false := by simp
    unfold TPost at HRef
    by_cases hf0 : fl = 0
    · have hL : tokL s = (tokR s).1 := if_pos (hfl.symm.trans hf0)
      obtain ⟨L, hLL⟩ : ∃ L, L = (tokR s).1 := ⟨_, rfl⟩
      have hlen : L.length ≤ 4000 := by
        have := toks_len s _ 0 [] (Nat.le_refl _) (Nat.zero_le _)
        have h2 := tokR_inv (s := s) (by omega) (hfl.symm.trans hf0)
        rw [hLL, ← hL]
        rw [h2.1] at this
        simp only at this
        omega
      rw [hL] at HTok
      rw [← hpl, ← hfl, ← hLL] at HTok HRef
      clear hL hLL hpl hfl
      subst hf0
      simp only [cast0] at HTok HRef
      clear hne2
      go_enter Try.func3, Try.ntmps3
      go_wp2_with (first
        | (go_at_call 10; (with_reducible refine hroom.out.mono ?_); rintro e w1 ⟨Ar, cr, rfl, hcr, hrr, b1⟩; have z1 := Below.size b1; obtain ⟨ad, rfl, _, _⟩ := hrr s.size (by omega); have rb1 := room_bytes hrr)
        | (go_at_call 11; (with_reducible refine (HTok.out w1 (some ad) cr (by (repeat (first | (with_reducible exact Below.refl _ _) | (with_reducible assumption) | (with_reducible refine Below.setCell ?_ (by first | omega | (simp <;> omega)) _) | (with_reducible refine Below.alloc ?_ (by first | omega | (simp <;> omega)) _) | (with_reducible refine Below.drew ?_) | (with_reducible refine below_drewN ?_ _) | (with_reducible refine Below.trans ?_ (Below.mono (by with_reducible assumption) (by first | omega | (simp <;> omega))))))) rb1).mono ?_); rintro e w2 ⟨⟨v1, rfl, ho1⟩, b2⟩; have z2 := Below.size b2; (obtain ⟨Al, cl, rfl, hcl, ht1, hob1⟩ := own_trd ho1))
        | ((go_at_call 12; (with_reducible refine (HRef.out w2 (by (repeat (first | (with_reducible exact Below.refl _ _) | (with_reducible assumption) | (with_reducible refine Below.setCell ?_ (by first | omega | (simp <;> omega)) _) | (with_reducible refine Below.alloc ?_ (by first | omega | (simp <;> omega)) _) | (with_reducible refine Below.drew ?_) | (with_reducible refine below_drewN ?_ _) | (with_reducible refine Below.trans ?_ (Below.mono (by with_reducible assumption) (by first | omega | (simp <;> omega)))))))).mono ?_); rintro e w3 ⟨⟨v2, rfl, ho2⟩, b3⟩; have z3 := Below.size b3); obtain ⟨A2, c2, rfl, hc2, ht2, hob2⟩ := own_trd ho2)
        | (go_at_call 13; (with_reducible refine (stands_any s _ _ _ _ rfl rfl _ _ hcr (by omega) w3 ((hrr.below b2).below (b3.mono z2)) (h.below (by (repeat (first | (with_reducible exact Below.refl _ _) | (with_reducible assumption) | (with_reducible refine Below.setCell ?_ (by first | omega | (simp <;> omega)) _) | (with_reducible refine Below.alloc ?_ (by first | omega | (simp <;> omega)) _) | (with_reducible refine Below.drew ?_) | (with_reducible refine below_drewN ?_ _) | (with_reducible refine Below.trans ?_ (Below.mono (by with_reducible assumption) (by first | omega | (simp <;> omega))))))))).mono ?_); rintro e w4 ⟨rfl, k4, rfl⟩)
        | (go_at_call 14; (with_reducible refine (tokens_same L _ _ _ _ rfl rfl _ _ (by omega) _ ((ht1.below b3).drewN k4) (ht2.drewN k4)).mono ?_); rintro e w5 ⟨rfl, k5, rfl⟩))
      obtain ⟨W5, hW5⟩ : ∃ W5, W5 = w3.drewN (k4 + k5) := ⟨_, rfl⟩
      rw [← hW5]
      have b5 : Below w.heap.size w W5 := by rw [hW5]; (repeat (first | (with_reducible exact Below.refl _ _) | (with_reducible assumption) | (with_reducible refine Below.setCell ?_ (by first | omega | (simp <;> omega)) _) | (with_reducible refine Below.alloc ?_ (by first | omega | (simp <;> omega)) _) | (with_reducible refine Below.drew ?_) | (with_reducible refine below_drewN ?_ _) | (with_reducible refine Below.trans ?_ (Below.mono (by with_reducible assumption) (by first | omega | (simp <;> omega))))))
      have t2 : TRd W5 W5.heap.size A2 L := by rw [hW5]; exact ht2.drewN _
      have o1 : W5.ownsRow w1.heap.size 33 4 (.slice Al L.length cl) L.length (toksC L) := by rw [hW5]; exact own_below (own_below ho1 b3) (below_drewN (Below.refl _ _) _)
      have hrow : L = [] ∨ ∃ g cur, Al = some ⟨g, 0, none⟩ ∧ w1.heap.size ≤ g ∧ g < w2.heap.size ∧ Row W5 g 33 cur ∧ cur.size = cl * 4 := by
        obtain ⟨_, _, hsl, _, hrow⟩ := own_toks o1
        injection hsl with e1 e2 e3
        subst e1 e3
        rcases hrow with q | ⟨g, cur, q1, q2, q3, q4, _⟩
        · exact .inl q
        · exact .inr ⟨g, cur, q1, q2, (hob1 g (by rw [q1]; rfl)).2, q3, q4⟩
      have hsz5 : w3.heap.size ≤ W5.heap.size := by rw [hW5]; exact Nat.le_refl _
      clear hW5 ho1 ht1 hob1 ho2 ht2 o1
      go_loopw [10] (fun vi wr => ∃ m : Nat, m ≤ L.length ∧ vi = .int .i64 (m : Int) ∧ Below w.heap.size w wr ∧ TRd wr wr.heap.size A2 L ∧ (L = [] ∨ ∃ g cur, Al = some ⟨g, 0, none⟩ ∧ w1.heap.size ≤ g ∧ g < w2.heap.size ∧ Row wr g 33 cur ∧ cur.size = cl * 4)) (fun i _ => L.length - (intOf i).toNat)
      case atStart => exact ⟨0, Nat.zero_le _, rfl, b5, t2, hrow⟩
      case round =>
        obtain ⟨m, hm1, rfl, hb, ht, hr⟩ := hrel
        have hz := hb.size
        by_cases hlt : m < L.length
        · obtain ⟨g, cur, rfl, hg1, hg2, hrow, hcs⟩ := hr.resolve_left (by rintro rfl; simp at hlt)
          have q0 := hrow.cell (m * 4)
          have q1 := hrow.cell (m * 4 + 1)
          have q2 := hrow.cell (m * 4 + 2)
          have q3 := hrow.cell (m * 4 + 3)
          have f0 := hrow.free (m * 4)
          have f1 := hrow.free (m * 4 + 1)
          have f2 := hrow.free (m * 4 + 2)
          have f3 := hrow.free (m * 4 + 3)
          rw [Array.getElem?_eq_getElem (show m * 4 < cur.size by omega)] at q0
          rw [Array.getElem?_eq_getElem (show m * 4 + 1 < cur.size by omega)] at q1
          rw [Array.getElem?_eq_getElem (show m * 4 + 2 < cur.size by omega)] at q2
          rw [Array.getElem?_eq_getElem (show m * 4 + 3 < cur.size by omega)] at q3
          have hne : ∀ ad', A2 = some ad' → g ≠ ad'.block := fun ad' e => by have := (hob2 ad'.block (by rw [e]; rfl)).1; omega
          go_wp2
          refine ⟨⟨m + 1, by omega, by go_num, (((hb.setCell (p := ⟨g, m * 4, none⟩) (by simp; omega) _).setCell (p := ⟨g, m * 4 + 1, none⟩) (by simp; omega) _).setCell (p := ⟨g, m * 4 + 2, none⟩) (by simp; omega) _).setCell (p := ⟨g, m * 4 + 3, none⟩) (by simp; omega) _,
            ((((ht.set (p := ⟨g, m * 4, none⟩) hne _).set (p := ⟨g, m * 4 + 1, none⟩) hne _).set (p := ⟨g, m * 4 + 2, none⟩) hne _).set (p := ⟨g, m * 4 + 3, none⟩) hne _).more (by simp),
            .inr ⟨g, _, rfl, hg1, hg2, (((hrow.put _ _).put _ _).put _ _).put _ _, by simp [hcs]⟩⟩, by simp [intOf]; omega⟩
        · have hrb := (h.below hb).more hz
          go_wp2_with (first
            | (go_at_call 11; (with_reducible refine (HTok.out wr A c hb hrb).mono ?_); rintro e w6 ⟨⟨v6, rfl, ho6⟩, b6⟩; have z6 := Below.size b6; obtain ⟨A6, c6, rfl, hc6, ht6, hob6⟩ := own_trd ho6)
            | (go_at_call 14; (with_reducible refine (tokens_same L _ _ _ _ rfl rfl _ _ (by omega) _ ht6 (ht.below b6)).mono ?_); rintro e w7 ⟨rfl, k7, rfl⟩)
            | (go_at_call 15; (with_reducible refine (HK.out _ (by (repeat (first | (with_reducible exact Below.refl _ _) | (with_reducible assumption) | (with_reducible refine Below.setCell ?_ (by first | omega | (simp <;> omega)) _) | (with_reducible refine Below.alloc ?_ (by first | omega | (simp <;> omega)) _) | (with_reducible refine Below.drew ?_) | (with_reducible refine below_drewN ?_ _) | (with_reducible refine Below.trans ?_ (Below.mono (by with_reducible assumption) (by first | omega | (simp <;> omega)))))))).mono ?_); rintro e wk ⟨rfl, bk⟩; have zk := Below.size bk))
          all_goals (refine bodyPost_ret (v := .bool true) (by simp [results, Try.results3, go_sem]) rfl ⟨rfl, (by (repeat (first | (with_reducible exact Below.refl _ _) | (with_reducible assumption) | (with_reducible refine Below.setCell ?_ (by first | omega | (simp <;> omega)) _) | (with_reducible refine Below.alloc ?_ (by first | omega | (simp <;> omega)) _) | (with_reducible refine Below.drew ?_) | (with_reducible refine below_drewN ?_ _) | (with_reducible refine Below.trans ?_ (Below.mono (by with_reducible assumption) (by first | omega | (simp <;> omega)))))))⟩)
    · have hL : tokL s = [] := if_neg (fun e => hf0 (hfl.trans e))
      obtain ⟨P, hP⟩ : ∃ P, P = (tokR s).1 := ⟨_, rfl⟩
      rw [hL] at HTok
      rw [← hpl, ← hfl] at HTok HRef
      rw [← hP] at HRef
      clear hL hP hpl hfl
      have hn1 : ((fl : Int) != 0) = true := by simp; omega
      have hn2 : ((fl : Int) == 0) = false := by simp; omega
      go_enter Try.func3, Try.ntmps3
      go_wp2_with (first
        | (go_at_call 10; (with_reducible refine hroom.out.mono ?_); rintro e w1 ⟨Ar, cr, rfl, hcr, hrr, b1⟩; have z1 := Below.size b1; obtain ⟨ad, rfl, _, _⟩ := hrr s.size (by omega); have rb1 := room_bytes hrr)
        | (go_at_call 11; (with_reducible refine (HTok.out w1 (some ad) cr (by (repeat (first | (with_reducible exact Below.refl _ _) | (with_reducible assumption) | (with_reducible refine Below.setCell ?_ (by first | omega | (simp <;> omega)) _) | (with_reducible refine Below.alloc ?_ (by first | omega | (simp <;> omega)) _) | (with_reducible refine Below.drew ?_) | (with_reducible refine below_drewN ?_ _) | (with_reducible refine Below.trans ?_ (Below.mono (by with_reducible assumption) (by first | omega | (simp <;> omega))))))) rb1).mono ?_); rintro e w2 ⟨⟨v1, rfl, ho1⟩, b2⟩; have z2 := Below.size b2; (obtain ⟨Al, cl, rfl, hcl, ht1, hob1⟩ := own_trd ho1))
        | ((go_at_call 12; (with_reducible refine (HRef.out w2 (by (repeat (first | (with_reducible exact Below.refl _ _) | (with_reducible assumption) | (with_reducible refine Below.setCell ?_ (by first | omega | (simp <;> omega)) _) | (with_reducible refine Below.alloc ?_ (by first | omega | (simp <;> omega)) _) | (with_reducible refine Below.drew ?_) | (with_reducible refine below_drewN ?_ _) | (with_reducible refine Below.trans ?_ (Below.mono (by with_reducible assumption) (by first | omega | (simp <;> omega)))))))).mono ?_); rintro e w3 ⟨⟨v2, rfl, ho2⟩, b3⟩; have z3 := Below.size b3); obtain ⟨A2, c2, rfl, hc2, ht2, hob2⟩ := own_trd ho2)
        | (go_at_call 13; (with_reducible refine (stands_any s _ _ _ _ rfl rfl _ _ hcr (by omega) w3 ((hrr.below b2).below (b3.mono z2)) (h.below (by (repeat (first | (with_reducible exact Below.refl _ _) | (with_reducible assumption) | (with_reducible refine Below.setCell ?_ (by first | omega | (simp <;> omega)) _) | (with_reducible refine Below.alloc ?_ (by first | omega | (simp <;> omega)) _) | (with_reducible refine Below.drew ?_) | (with_reducible refine below_drewN ?_ _) | (with_reducible refine Below.trans ?_ (Below.mono (by with_reducible assumption) (by first | omega | (simp <;> omega))))))))).mono ?_); rintro e w4 ⟨rfl, k4, rfl⟩))
      obtain ⟨W5, hW5⟩ : ∃ W5, W5 = w3.drewN k4 := ⟨_, rfl⟩
      rw [← hW5]
      have b5 : Below w.heap.size w W5 := by rw [hW5]; (repeat (first | (with_reducible exact Below.refl _ _) | (with_reducible assumption) | (with_reducible refine Below.setCell ?_ (by first | omega | (simp <;> omega)) _) | (with_reducible refine Below.alloc ?_ (by first | omega | (simp <;> omega)) _) | (with_reducible refine Below.drew ?_) | (with_reducible refine below_drewN ?_ _) | (with_reducible refine Below.trans ?_ (Below.mono (by with_reducible assumption) (by first | omega | (simp <;> omega))))))
      clear hW5 ho1 ht1 hob1 ho2 ht2 hob2
      go_loopw [10] (fun vi wr => vi = .int .i64 0 ∧ Below w.heap.size w wr) (fun _ _ => 0)
      case atStart => exact ⟨rfl, b5⟩
      case round =>
        obtain ⟨rfl, hb⟩ := hrel
        have hz := hb.size
        have hrb := (h.below hb).more hz
        go_wp2_with (first
          | (go_at_call 11; (with_reducible refine (HTok.out wr A c hb hrb).mono ?_); rintro e w6 ⟨⟨v6, rfl, ho6⟩, b6⟩; have z6 := Below.size b6; obtain ⟨A6, c6, rfl, hc6, ht6, hob6⟩ := own_trd ho6)
          | (go_at_call 15; (with_reducible refine (HK.out _ (by (repeat (first | (with_reducible exact Below.refl _ _) | (with_reducible assumption) | (with_reducible refine Below.setCell ?_ (by first | omega | (simp <;> omega)) _) | (with_reducible refine Below.alloc ?_ (by first | omega | (simp <;> omega)) _) | (with_reducible refine Below.drew ?_) | (with_reducible refine below_drewN ?_ _) | (with_reducible refine Below.trans ?_ (Below.mono (by with_reducible assumption) (by first | omega | (simp <;> omega)))))))).mono ?_); rintro e wk ⟨rfl, bk⟩; have zk := Below.size bk))
        all_goals (refine bodyPost_ret (v := .bool true) (by simp [results, Try.results3, go_sem]) rfl ⟨rfl, (by (repeat (first | (with_reducible exact Below.refl _ _) | (with_reducible assumption) | (with_reducible refine Below.setCell ?_ (by first | omega | (simp <;> omega)) _) | (with_reducible refine Below.alloc ?_ (by first | omega | (simp <;> omega)) _) | (with_reducible refine Below.drew ?_) | (with_reducible refine below_drewN ?_ _) | (with_reducible refine Below.trans ?_ (Below.mono (by with_reducible assumption) (by first | omega | (simp <;> omega)))))))⟩)
  · have h15' : ((s.size : Int) > 1500) = True := by simp; omega
    go_enter Try.func3, Try.ntmps3
    go_wp2
    exact bodyPost_ret (v := .bool true) (by simp [results, Try.results3, go_sem]) rfl ⟨rfl, Below.refl _ _⟩
end Go.Proofs.Ytdlppdoankeilaa
