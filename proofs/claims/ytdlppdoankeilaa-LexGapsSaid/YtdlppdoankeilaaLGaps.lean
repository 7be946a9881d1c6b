/- The walk of LexGaps. -/
import Derived.Test.YtdlppdoankeilaaLaw3
namespace Go.Proofs.Ytdlppdoankeilaa
set_option linter.unusedVariables false
set_option linter.unusedSimpArgs false
set_option linter.unnecessarySimpa false
open Go.RowKit
attribute [local go_sem] cell_alloc_add cell_set_add lt_more
theorem Mx.pos {w : World} (hm : Mx w) : 0 < w.heap.size := by obtain ⟨y, hy⟩ := hm; exact Nat.lt_of_le_of_lt (Nat.zero_le _) (World.block_lt_of_cell? w ⟨0, 0, none⟩ hy)
/-- A gap's bytes, a line's end behind them, are no token. -/
theorem gap_line_end {s : ByteArray} {at_ lo : Nat} (h : skip s at_ = (lo, true)) (h1 : at_ ≤ lo) (h2 : lo ≤ s.size) : toks (s.extract at_ lo ++ ⟨#[10]⟩) 0 [] = ([endT ((s.extract at_ lo).size + 1)], none) := by
  have hz := ext_size h1 h2
  have hzz : (s.extract at_ lo ++ ⟨#[10]⟩ : ByteArray).size = lo - at_ + 1 := by rw [size_app, hz]; rfl
  have hg := gap_blank (s := s) (u := s.extract at_ lo ++ ⟨#[10]⟩) (i := at_) (n := lo - at_) (by rw [h, show at_ + (lo - at_) = lo by omega]) ⟨by omega, by omega, fun k hk => by
      rw [Nat.zero_add, bt_app _ _ _ (by rw [hz]; omega), if_pos (by rw [hz]; exact hk), bt_extract (by omega) h2]⟩ hzz (by rw [bt_app _ _ _ (by rw [hz]; show lo - at_ < lo - at_ + 1; omega), if_neg (by omega), hz, Nat.sub_self]; rfl)
  rw [hg, hzz, hz]
/-- A token's bytes. -/
theorem tok_bytes {s : ByteArray} {holes hh : List Bool} {t : Tok} (hj : t.lo < s.size) (h : tokAt s t.lo holes = some (t, hh)) (h7 : t.kind ≠ 7) (h8 : t.kind ≠ 8) (hns : NoSkip s t.lo) : toks (s.extract t.lo t.hi) 0 [] = ([⟨t.kind, t.text, 0, t.hi - t.lo⟩, endT (t.hi - t.lo)], none) := by
  have hb := tokAt_bd hj h
  have hz := ext_size (s := s) (lo := t.lo) (hi := t.hi) (by omega) hb.2.2
  have := tok_alone (u := s.extract t.lo t.hi) hj h h7 h8 hns ⟨by omega, by omega, fun k hk => by rw [Nat.zero_add, bt_extract hk hb.2.2]⟩ hz
  rw [hz] at this
  exact this
set_option maxRecDepth 100000 in
set_option maxHeartbeats 8000000 in
theorem LexGaps_any (s : ByteArray) (A : Option Addr) (c : Nat) (hs : s.size ≤ 140737488351232) (hcap : s.size ≤ c) (w : World) (hm : Mx w) (h : Rd w w.heap.size A s.size (byteC s)) :
    Calls Try.prog 5 #[.slice A s.size c] w fun e w' => e = .returned (.bool true) ∧ Below w.heap.size w w' := by
  have h0 := hm.pos
  by_cases h15 : s.size ≤ 300
  · have h15' : ((s.size : Int) > 300) = False := by simp; omega
    have HTok := Lib.hid (Tokens_any s A c (by omega) w hm h)
    have HK := Lib.hid (fun W (hb : Below w.heap.size w W) => known_any W (hm.below hb h0))
    by_cases hf0 : (tokR s).2.2 = 0
    · have hti := tokR_inv (s := s) (by omega) hf0
      have hlen := toks_len s _ 0 [] (Nat.le_refl _) (Nat.zero_le _)
      obtain ⟨L, hL⟩ : ∃ L, L = tokL s := ⟨_, rfl⟩
      rw [hf0, hti.2, ← hL] at HTok
      rw [hti.1, ← hL] at hlen
      have hT := hti.1
      rw [← hL] at hT
      clear hti hf0 hL
      simp only [cast0] at HTok
      simp only at hlen
      have HTT := Lib.hid hT
      clear hT
      go_enter Try.func5, Try.ntmps5
      go_wp2_with (go_at_call 11; (with_reducible refine HTok.out.mono ?_); rintro e w1 ⟨⟨v1, rfl, ho1⟩, b1⟩; have z1 := Below.size b1; obtain ⟨Al, cl, rfl, hcl, ht1, hob1⟩ := own_trd ho1)
      clear ho1 hob1
      go_loopw [6, 7] (fun va vi wr => ∃ (m at_ : Nat) (holes : List Bool), m ≤ L.length ∧ va = .int .i64 (at_ : Int) ∧ vi = .int .i64 (m : Int) ∧ at_ ≤ s.size ∧ (m < L.length → toks s at_ holes = (L.drop m, none)) ∧ Below w1.heap.size w1 wr) (fun _ i _ => L.length - (intOf i).toNat)
      case atStart => exact ⟨0, 0, [], Nat.zero_le _, rfl, rfl, Nat.zero_le _, fun _ => HTT.out, Below.refl _ _⟩
      case round =>
        obtain ⟨m, at_, holes, hm1, rfl, rfl, hat, htk, hb⟩ := hrel
        have hz := hb.size
        have hbw : Below w.heap.size w wr := b1.trans (hb.mono z1)
        by_cases hlt : m < L.length
        · obtain ⟨g, rfl, hg, ⟨q0, q1, q2, q3⟩⟩ := (ht1.below hb) m _ (tok_at hlt)
          have hd : L.drop m = L[m] :: L.drop (m + 1) := List.drop_eq_getElem_cons hlt
          obtain ⟨⟨tk, tx, tl, th⟩, htt⟩ : ∃ t, t = L[m] := ⟨_, rfl⟩
          rw [← htt] at q0 q1 q2 q3 hd
          clear htt
          obtain ⟨p1, p2, p3, p4, p5⟩ := gap_step (by rw [htk hlt, hd]) hat
          clear htk hd
          simp only at q0 q1 q2 q3 p1 p2 p3 p4 p5
          have hgap := Lib.hid (gap_line_end p4 p1 (by omega))
          have hr := (h.below hbw).more hbw.size
          have hs1 := fun W => run_cut_mid (P := Try.prog) A (n := s.size) (c := c) (lo := at_) (hi := tl) W Try.underlying22 (fun _ => by kernel_rfl) p1 (by omega)
          have hr1 := Rd.mid hr p1 (by omega) hcap
          obtain ⟨A1, hA1⟩ : ∃ A1, A1 = if c = at_ then A else A.map (·.add at_) := ⟨_, rfl⟩
          rw [← hA1] at hs1 hr1
          clear hA1
          have hz1 := ext_size (s := s) p1 (by omega)
          have HB := Lib.hid (fun W (hbl : Below wr.heap.size wr W) => blank_any (s.extract at_ tl) (tl - at_) hz1.symm A1 (c - at_) (by omega) W ((hm.below hbw h0).below hbl (by have := hbw.size; omega)) ((hr1.below hbl).more hbl.size) hgap.out)
          clear hgap hr1
          have k1 : ((tl : Int) < (at_ : Int)) = False := by simp; omega
          have k2 : ((th : Int) < (tl : Int)) = False := by simp; omega
          have k3 : ((th : Int) > (s.size : Int)) = False := by simp; omega
          rcases p5 with ⟨e1, e2⟩ | ⟨p6, p7, hh, p8, p9⟩
          · have hk10 : tk = 10 := congrArg Tok.kind e1
            have hth : th = s.size := congrArg Tok.hi e1
            have hm2 : ¬ m + 1 < L.length := by
              have := congrArg List.length e2
              rw [List.length_drop] at this
              simp at this
              omega
            have p9 : m + 1 < L.length → toks s th holes = (L.drop (m + 1), none) := fun q => absurd q hm2
            have HP := Lib.hid p9
            subst hk10
            clear e1 e2 p9
            go_wp2_with (go_at_call 19; (with_reducible refine (HB.out _ (by (repeat (first | (with_reducible exact Below.refl _ _) | (with_reducible assumption) | (with_reducible refine Below.setCell ?_ (by first | omega | (simp <;> omega)) _) | (with_reducible refine Below.alloc ?_ (by first | omega | (simp <;> omega)) _) | (with_reducible refine Below.drew ?_) | (with_reducible refine below_drewN ?_ _) | (with_reducible refine Below.trans ?_ (Below.mono (by with_reducible assumption) (by first | omega | (simp <;> omega)))))))).mono ?_); rintro e w2 ⟨rfl, b2⟩; have z2 := Below.size b2; have r2 := Row.below (row_new rfl) b2 (by simp); have n2 := r2.lt; have y0 := r2.cell 0; have y1 := r2.cell 1; have y2 := r2.cell 2; have y3 := r2.cell 3; simp at y0 y1 y2 y3)
            go_roundw
            case rel => exact ⟨m + 1, th, holes, by omega, by go_num, by go_num, by omega, HP.out, (by (repeat (first | (with_reducible exact Below.refl _ _) | (with_reducible assumption) | (with_reducible refine Below.setCell ?_ (by first | omega | (simp <;> omega)) _) | (with_reducible refine Below.alloc ?_ (by first | omega | (simp <;> omega)) _) | (with_reducible refine Below.drew ?_) | (with_reducible refine below_drewN ?_ _) | (with_reducible refine Below.trans ?_ (Below.mono (by with_reducible assumption) (by first | omega | (simp <;> omega)))))))⟩
            case measure => simp [intOf]; omega
          · have HP : Hid (m + 1 < L.length → toks s th hh = (L.drop (m + 1), none)) := Lib.hid (fun _ => p9)
            clear p9
            by_cases k7 : tk = 7
            · subst k7
              go_wp2_with (go_at_call 19; (with_reducible refine (HB.out _ (by (repeat (first | (with_reducible exact Below.refl _ _) | (with_reducible assumption) | (with_reducible refine Below.setCell ?_ (by first | omega | (simp <;> omega)) _) | (with_reducible refine Below.alloc ?_ (by first | omega | (simp <;> omega)) _) | (with_reducible refine Below.drew ?_) | (with_reducible refine below_drewN ?_ _) | (with_reducible refine Below.trans ?_ (Below.mono (by with_reducible assumption) (by first | omega | (simp <;> omega)))))))).mono ?_); rintro e w2 ⟨rfl, b2⟩; have z2 := Below.size b2; have r2 := Row.below (row_new rfl) b2 (by simp); have n2 := r2.lt; have y0 := r2.cell 0; have y1 := r2.cell 1; have y2 := r2.cell 2; have y3 := r2.cell 3; simp at y0 y1 y2 y3); go_roundw; (case rel => exact ⟨m + 1, th, hh, by omega, by go_num, by go_num, by omega, HP.out, (by (repeat (first | (with_reducible exact Below.refl _ _) | (with_reducible assumption) | (with_reducible refine Below.setCell ?_ (by first | omega | (simp <;> omega)) _) | (with_reducible refine Below.alloc ?_ (by first | omega | (simp <;> omega)) _) | (with_reducible refine Below.drew ?_) | (with_reducible refine below_drewN ?_ _) | (with_reducible refine Below.trans ?_ (Below.mono (by with_reducible assumption) (by first | omega | (simp <;> omega)))))))⟩); (case measure => simp [intOf]; omega)
            · have k7' : (tk != 7) = true := by simpa using k7
              by_cases k8 : tk = 8
              · subst k8
                go_wp2_with (go_at_call 19; (with_reducible refine (HB.out _ (by (repeat (first | (with_reducible exact Below.refl _ _) | (with_reducible assumption) | (with_reducible refine Below.setCell ?_ (by first | omega | (simp <;> omega)) _) | (with_reducible refine Below.alloc ?_ (by first | omega | (simp <;> omega)) _) | (with_reducible refine Below.drew ?_) | (with_reducible refine below_drewN ?_ _) | (with_reducible refine Below.trans ?_ (Below.mono (by with_reducible assumption) (by first | omega | (simp <;> omega)))))))).mono ?_); rintro e w2 ⟨rfl, b2⟩; have z2 := Below.size b2; have r2 := Row.below (row_new rfl) b2 (by simp); have n2 := r2.lt; have y0 := r2.cell 0; have y1 := r2.cell 1; have y2 := r2.cell 2; have y3 := r2.cell 3; simp at y0 y1 y2 y3); go_roundw; (case rel => exact ⟨m + 1, th, hh, by omega, by go_num, by go_num, by omega, HP.out, (by (repeat (first | (with_reducible exact Below.refl _ _) | (with_reducible assumption) | (with_reducible refine Below.setCell ?_ (by first | omega | (simp <;> omega)) _) | (with_reducible refine Below.alloc ?_ (by first | omega | (simp <;> omega)) _) | (with_reducible refine Below.drew ?_) | (with_reducible refine below_drewN ?_ _) | (with_reducible refine Below.trans ?_ (Below.mono (by with_reducible assumption) (by first | omega | (simp <;> omega)))))))⟩); (case measure => simp [intOf]; omega)
              · have k8' : (tk != 8) = true := by simpa using k8
                by_cases k6 : tk = 6
                · subst k6
                  go_wp2_with (go_at_call 19; (with_reducible refine (HB.out _ (by (repeat (first | (with_reducible exact Below.refl _ _) | (with_reducible assumption) | (with_reducible refine Below.setCell ?_ (by first | omega | (simp <;> omega)) _) | (with_reducible refine Below.alloc ?_ (by first | omega | (simp <;> omega)) _) | (with_reducible refine Below.drew ?_) | (with_reducible refine below_drewN ?_ _) | (with_reducible refine Below.trans ?_ (Below.mono (by with_reducible assumption) (by first | omega | (simp <;> omega)))))))).mono ?_); rintro e w2 ⟨rfl, b2⟩; have z2 := Below.size b2; have r2 := Row.below (row_new rfl) b2 (by simp); have n2 := r2.lt; have y0 := r2.cell 0; have y1 := r2.cell 1; have y2 := r2.cell 2; have y3 := r2.cell 3; simp at y0 y1 y2 y3); go_roundw; (case rel => exact ⟨m + 1, th, hh, by omega, by go_num, by go_num, by omega, HP.out, (by (repeat (first | (with_reducible exact Below.refl _ _) | (with_reducible assumption) | (with_reducible refine Below.setCell ?_ (by first | omega | (simp <;> omega)) _) | (with_reducible refine Below.alloc ?_ (by first | omega | (simp <;> omega)) _) | (with_reducible refine Below.drew ?_) | (with_reducible refine below_drewN ?_ _) | (with_reducible refine Below.trans ?_ (Below.mono (by with_reducible assumption) (by first | omega | (simp <;> omega)))))))⟩); (case measure => simp [intOf]; omega)
                · have k6' : (tk != 6) = true := by simpa using k6
                  have k10' : (tk != 10) = true := by simpa using p7
                  have htb := tok_bytes (t := ⟨tk, tx, tl, th⟩) p6 p8 k7 k8 (skip_fix s _ at_ tl (Nat.le_refl _) p4 p6)
                  simp only at htb
                  have hs2 := fun W => run_cut_mid (P := Try.prog) A (n := s.size) (c := c) (lo := tl) (hi := th) W Try.underlying22 (fun _ => by kernel_rfl) p2 (by omega)
                  have hr2 := Rd.mid hr p2 p3 hcap
                  obtain ⟨A2, hA2⟩ : ∃ A2, A2 = if c = tl then A else A.map (·.add tl) := ⟨_, rfl⟩
                  rw [← hA2] at hs2 hr2
                  clear hA2
                  have hz2 := ext_size (s := s) p2 p3
                  have HT := Lib.hid (fun W (hbl : Below wr.heap.size wr W) => Tokens_n (s.extract tl th) (th - tl) hz2.symm A2 (c - tl) (by omega) W ((hm.below hbw h0).below hbl (by have := hbw.size; omega)) ((hr2.below hbl).more hbl.size) htb)
                  have hsub : ((th - tl : Nat) : Int) = (th : Int) - (tl : Int) := by omega
                  clear htb hr2 k6 k7 k8 p4 p7 p8
                  go_wp2_with (first
                    | (go_at_call 19; (with_reducible refine (HB.out _ (by (repeat (first | (with_reducible exact Below.refl _ _) | (with_reducible assumption) | (with_reducible refine Below.setCell ?_ (by first | omega | (simp <;> omega)) _) | (with_reducible refine Below.alloc ?_ (by first | omega | (simp <;> omega)) _) | (with_reducible refine Below.drew ?_) | (with_reducible refine below_drewN ?_ _) | (with_reducible refine Below.trans ?_ (Below.mono (by with_reducible assumption) (by first | omega | (simp <;> omega)))))))).mono ?_); rintro e w2 ⟨rfl, b2⟩; have z2 := Below.size b2; have r2 := Row.below (row_new rfl) b2 (by simp); have n2 := r2.lt; have y0 := r2.cell 0; have y1 := r2.cell 1; have y2 := r2.cell 2; have y3 := r2.cell 3; simp at y0 y1 y2 y3)
                    | (go_at_call 11; (with_reducible refine (HT.out w2 (by (repeat (first | (with_reducible exact Below.refl _ _) | (with_reducible assumption) | (with_reducible refine Below.setCell ?_ (by first | omega | (simp <;> omega)) _) | (with_reducible refine Below.alloc ?_ (by first | omega | (simp <;> omega)) _) | (with_reducible refine Below.drew ?_) | (with_reducible refine below_drewN ?_ _) | (with_reducible refine Below.trans ?_ (Below.mono (by with_reducible assumption) (by first | omega | (simp <;> omega)))))))).mono ?_); rintro e w3 ⟨⟨v3, rfl, ho3⟩, b3⟩; have z3 := Below.size b3; obtain ⟨A3, c3, rfl, hc3, ht3, hob3⟩ := own_trd ho3; obtain ⟨g3, rfl, hg3, x0, x1, x2, x3⟩ := ht3 0 _ rfl; have r3 := r2.below b3 n2; have u0 := r3.cell 0; have u1 := r3.cell 1; have u2 := r3.cell 2; have u3 := r3.cell 3; simp only [hsub] at x3; simp at u0 u1 u2 u3 x0 x1 x2 x3))
                  go_quiet (fail)
                  go_wp2
                  exact ⟨⟨m + 1, th, hh, by omega, rfl, by go_num, by omega, HP.out, (by (repeat (first | (with_reducible exact Below.refl _ _) | (with_reducible assumption) | (with_reducible refine Below.setCell ?_ (by first | omega | (simp <;> omega)) _) | (with_reducible refine Below.alloc ?_ (by first | omega | (simp <;> omega)) _) | (with_reducible refine Below.drew ?_) | (with_reducible refine below_drewN ?_ _) | (with_reducible refine Below.trans ?_ (Below.mono (by with_reducible assumption) (by first | omega | (simp <;> omega)))))))⟩, by simp [intOf]; omega⟩
        · go_wp2_with (go_at_call 15; (with_reducible refine (HK.out _ (by (repeat (first | (with_reducible exact Below.refl _ _) | (with_reducible assumption) | (with_reducible refine Below.setCell ?_ (by first | omega | (simp <;> omega)) _) | (with_reducible refine Below.alloc ?_ (by first | omega | (simp <;> omega)) _) | (with_reducible refine Below.drew ?_) | (with_reducible refine below_drewN ?_ _) | (with_reducible refine Below.trans ?_ (Below.mono (by with_reducible assumption) (by first | omega | (simp <;> omega)))))))).mono ?_); rintro e wk ⟨rfl, bk⟩; have zk := Below.size bk)
          all_goals (refine bodyPost_ret (v := .bool true) (by simp [results, Try.results5, go_sem]) rfl ⟨rfl, (by (repeat (first | (with_reducible exact Below.refl _ _) | (with_reducible assumption) | (with_reducible refine Below.setCell ?_ (by first | omega | (simp <;> omega)) _) | (with_reducible refine Below.alloc ?_ (by first | omega | (simp <;> omega)) _) | (with_reducible refine Below.drew ?_) | (with_reducible refine below_drewN ?_ _) | (with_reducible refine Below.trans ?_ (Below.mono (by with_reducible assumption) (by first | omega | (simp <;> omega)))))))⟩)
    · have hL : tokL s = [] := if_neg hf0
      obtain ⟨pl, hpl⟩ : ∃ pl, pl = (tokR s).2.1 := ⟨_, rfl⟩
      obtain ⟨fl, hfl⟩ : ∃ fl, fl = (tokR s).2.2 := ⟨_, rfl⟩
      rw [hL, ← hpl, ← hfl] at HTok
      rw [← hfl] at hf0
      clear hL hpl hfl
      have hn1 : ((fl : Int) != 0) = true := by simp; omega
      go_enter Try.func5, Try.ntmps5
      go_wp2_with (first
        | (go_at_call 11; (with_reducible refine HTok.out.mono ?_); rintro e w1 ⟨⟨v1, rfl, ho1⟩, b1⟩; have z1 := Below.size b1; obtain ⟨Al, cl, rfl, hcl, ht1, hob1⟩ := own_trd ho1)
        | (go_at_call 15; (with_reducible refine (HK.out _ (by (repeat (first | (with_reducible exact Below.refl _ _) | (with_reducible assumption) | (with_reducible refine Below.setCell ?_ (by first | omega | (simp <;> omega)) _) | (with_reducible refine Below.alloc ?_ (by first | omega | (simp <;> omega)) _) | (with_reducible refine Below.drew ?_) | (with_reducible refine below_drewN ?_ _) | (with_reducible refine Below.trans ?_ (Below.mono (by with_reducible assumption) (by first | omega | (simp <;> omega)))))))).mono ?_); rintro e wk ⟨rfl, bk⟩; have zk := Below.size bk))
      all_goals (refine bodyPost_ret (v := .bool true) (by simp [results, Try.results5, go_sem]) rfl ⟨rfl, (by (repeat (first | (with_reducible exact Below.refl _ _) | (with_reducible assumption) | (with_reducible refine Below.setCell ?_ (by first | omega | (simp <;> omega)) _) | (with_reducible refine Below.alloc ?_ (by first | omega | (simp <;> omega)) _) | (with_reducible refine Below.drew ?_) | (with_reducible refine below_drewN ?_ _) | (with_reducible refine Below.trans ?_ (Below.mono (by with_reducible assumption) (by first | omega | (simp <;> omega)))))))⟩)
  · have h15' : ((s.size : Int) > 300) = True := by simp; omega
    go_enter Try.func5, Try.ntmps5
    go_wp2
    exact bodyPost_ret (v := .bool true) (by simp [results, Try.results5, go_sem]) rfl ⟨rfl, Below.refl _ _⟩
end Go.Proofs.Ytdlppdoankeilaa
