/- The walk of the reference's Find. -/
import Derived.Test.YtjaijlkonkgnmaaGreatDoorHBRE
import Derived.Test.YtjaijlkonkgnmaaGreatDoorHBX
import Derived.Test.YtjaijlkonkgnmaaGreatDoorHFd
import Derived.Test.YtjaijlkonkgnmaaGreatDoorHBA
import Derived.Test.YtjaijlkonkgnmaaGreatDoorHBC
namespace Go.Proofs.YtjaijlkonkgnmaaGreatDoor
set_option linter.unusedVariables false
set_option linter.unusedSimpArgs false
set_option linter.unnecessarySimpa false
open Go.RowKit
attribute [local go_sem] cell_alloc_add cell_set_add lt_more
set_option maxRecDepth 100000 in
set_option maxHeartbeats 8000000 in
theorem rFind_any (A : Option Addr) (L : List Nd) (N c : Nat) (hN : L.length = N) (hc : N ≤ c) (hm : c ≤ maxLen) (hL : N ≤ 1000000) (hx : ∀ j : Nat, (nd L j).x.size ≤ 4000000) (n kind : Int) (w : World) (h : TreeAt w w.heap.size A L) : Calls Tryz.prog 14 #[.agg #[.slice A N c], .int .i64 n, .int .i64 kind] w fun r w' => (∃ v l, r = .returned v ∧ w'.ownsRow w.heap.size 3 1 v l.length (intsC l) ∧ FindOf L n kind l) ∧ Below w.heap.size w w' := by
  obtain ⟨j0, hj0, jz0, jz1, jz2⟩ := info_parts infoInt
  obtain ⟨wa, hwa⟩ : ∃ wa : World, wa = w.alloc (.cells #[.slice A N c] 24) := ⟨_, rfl⟩
  have bA : Below w.heap.size w wa := by rw [hwa]; exact (by (repeat (first | (with_reducible exact Below.refl _ _) | (with_reducible assumption) | (with_reducible refine Below.setCell ?_ (by first | omega | (simp <;> omega)) _) | (with_reducible refine Below.alloc ?_ (by first | omega | (simp <;> omega)) _) | (with_reducible refine Below.drew ?_) | (with_reducible refine below_drewN ?_ _) | (with_reducible refine Below.trans ?_ (Below.mono (by with_reducible assumption) (by first | omega | (simp <;> omega)))))))
  have zA : w.heap.size < wa.heap.size := by rw [hwa]; simp
  have rT : Row wa w.heap.size 24 #[.slice A N c] := by rw [hwa]; exact row_new rfl
  have t0 := rT.cell 0
  simp at t0
  have HC := Lib.hid (fun W (hb : Below w.heap.size w W) => hN ▸ rGoodT_any A L c (by omega) hm (by omega) (fun j => by have := hx j; omega) W (h.later hb))
  have HEN := Lib.hid (fun n e hs W (hb : Below w.heap.size w W) => rEnd_any A L N c hN hc hm n e hs W (h.later hb))
  have HG := Lib.hid (good_iff (L := L))
  have HGD := Lib.hid (show goodT L = decide ((chk L).2 = 0) from rfl)
  have HF := Lib.hid (fun l => (show FindOf L n kind l ↔ ((¬ ((chk L).2 = 0 ∧ 0 ≤ n ∧ n < (L.length : Int)) → l = []) ∧ ((chk L).2 = 0 ∧ 0 ≤ n ∧ n < (L.length : Int) → ∃ e, Sp L n.toNat e ∧ l = scanF L kind (e - (n.toNat + 1)) (n.toNat + 1) (-1))) from Iff.rfl))
  have HN := Lib.hid hN
  have hT := Lib.hid h
  rcases hR : chk L with ⟨ra, re⟩
  rw [hR] at HG HGD HF
  simp only at HG HGD HF
  rw [HGD.out] at HC
  unfold maxLen at hm
  clear h hx hN hR HGD
  have no : ∀ w', ¬ (re = 0 ∧ 0 ≤ n ∧ n < (L.length : Int)) → Below w.heap.size w w' → (∃ v l, Ending.returned (.slice none 0 0) = .returned v ∧ w'.ownsRow w.heap.size 3 1 v (l : List Int).length (intsC l) ∧ FindOf L n kind l) ∧ Below w.heap.size w w' := fun w' hno hb =>
    ⟨⟨_, [], rfl, World.ownsRow_nil _ _ _ _, (HF.out []).2 ⟨fun _ => rfl, fun h => absurd h hno⟩⟩, hb⟩
  have NO := Lib.hid no
  clear no
  go_enter Tryz.func14, Tryz.ntmps14
  go_upto_region 1 with fail
  rw [← hwa]
  clear hwa
  by_cases he : re = 0
  · rw [decide_eq_true he] at HC
    by_cases hin : 0 ≤ n ∧ n < (N : Int)
    · have HGT := Lib.hid (HG.out.1 he)
      obtain ⟨hn1, hn2⟩ := hin
      obtain ⟨i0, rfl⟩ : ∃ i : Nat, n = (i : Int) := ⟨n.toNat, by omega⟩
      have hiN : i0 < N := by omega
      obtain ⟨e, hs⟩ := good_sub HGT.out (by rw [HN.out]; exact hiN)
      have HE := Lib.hid (HEN.out i0 e hs)
      have HS := Lib.hid hs
      have hse := hs.len
      have hsl := hs.lt
      rw [HN.out] at hse
      have HSUB := Lib.hid (fun x (h1 : i0 + 1 ≤ x) (h2 : x < e) => hs.2.2.sub x h1 h2)
      have hi0 : ((i0 : Int) < 0) = False := eq_false (by omega)
      have hi1 : ((N : Int) ≤ (i0 : Int)) = False := eq_false (by omega)
      have HFF := Lib.hid (show FindOf L (i0 : Int) kind (scanF L kind (e - (i0 + 1)) (i0 + 1) (-1)) from (HF.out _).2 ⟨fun h => absurd ⟨he, hn1, by rw [HN.out]; exact hn2⟩ h, fun _ => ⟨e, by rw [Int.toNat_natCast]; exact hs, by rw [Int.toNat_natCast]⟩⟩)
      clear hs HF HG he NO
      go_upto_region 3 with (first
        | (go_at_call 18; (with_reducible refine (HC.out _ bA).mono ?_); rintro r w1 ⟨rfl, b1⟩; have q1 := bA.trans (b1.mono bA.size); have rT1 := rT.below b1 zA; have e1 := rT1.cell 0; simp at e1)
        | fail)
      clear rT t0 bA zA HC e1 b1
      go_wp2
      go_loopw [7, 8] (fun v t wr => ∃ (i : Nat) (l : List Int), t = .int .i64 (i : Int) ∧ i0 < i ∧ i ≤ e ∧ l.length ≤ i ∧ Hid (wr.ownsRow (w.heap.size + 1) 3 1 v l.length (intsC l)) ∧ Hid (l ++ scanF L kind (e - i) i (-1) = scanF L kind (e - (i0 + 1)) (i0 + 1) (-1)) ∧ Row wr w.heap.size 24 #[.slice A N c] ∧ Below w.heap.size w wr) (fun _ t _ => e - (intOf t).toNat)
      case atStart => exact ⟨i0 + 1, [], by go_num, by omega, by omega, by simp, Lib.hid (World.ownsRow_nil _ _ _ _), Lib.hid rfl, rT1, q1⟩
      case round =>
        obtain ⟨i, l, rfl, h1, h2, hl, HO, HM, rA, hb⟩ := hrel
        clear rT1 q1
        generalize hwo : wr = wo at *
        clear hwo
        have hz := Below.size hb
        have lA := rA.lt
        have a0 := rA.cell 0
        simp at a0
        by_cases hlt : i < e
        · have hiL : i < L.length := by rw [HN.out]; omega
          obtain ⟨ad, rfl, hn⟩ := hT.out i hiL
          obtain ⟨m, hsm, hme⟩ := HSUB.out i (by omega) hlt
          have hml := hsm.lt
          have HE2 := Lib.hid (HEN.out i m hsm)
          have HSP := Lib.hid (fun hk => scan_span (kind := kind) HGT.out hsm hme (by rw [HN.out]; exact hse) hk)
          have HMS := Lib.hid (fun (hk : (nd L (i : Int)).k ≠ kind) => (show scanF L kind (e - i) i (-1) = scanF L kind (e - (i + 1)) (i + 1) (-1) from by
            have hh : e - i = (e - (i + 1)) + 1 := by omega
            rw [hh]; exact scan_miss (by omega) hk))
          obtain ⟨Av, cv, hv, hcv, hmv⟩ := own_slice HO.out
          subst hv
          have hq : (i : Int) < (e : Int) := by omega
          have hiN2 : (i : Int) < (N : Int) := by omega
          by_cases hk : (nd L (i : Int)).k = kind
          · have HM2 := Lib.hid (show (l ++ [(i : Int)]) ++ scanF L kind (e - m) m (-1) = scanF L kind (e - (i0 + 1)) (i0 + 1) (-1) from by
              have := HM.out
              rw [HSP.out hk] at this
              rw [List.append_assoc]; exact this)
            go_upto_region 6 with (first
              | (go_at_call 28; (with_reducible refine (HE.out _ hb).mono ?_); rintro r w2 ⟨rfl, b2⟩)
              | fail)
            have q2 := hb.trans (b2.mono hz)
            have rA2 := rA.below b2 lA
            have lA2 := rA2.lt
            have a2 := rA2.cell 0
            simp at a2
            have g2 := hn.keep (W' := w2) (fun p hp => q2.cell hp)
            have hb1 : (ad.add (i * 5)).block < w2.heap.size := Nat.lt_of_lt_of_le g2.blk q2.size
            have hb3 : ad.block < w2.heap.size := by rw [block_add] at hb1; exact hb1
            have c0 := g2.c0
            rw [hk] at c0
            have HO2 := Lib.hid (own_below HO.out (b2.mono (Nat.le_refl _)))
            have hz2 := q2.size
            clear hn g2 hk HO HM HMS HSP
            go_wp2_with (first
              | (at_builtin; refine wpList_append_rd _ rfl (.tmp 38) (.tmp 40) 26 rfl (w.heap.size + 1) 3 j0 _ 8 Tryz.underlying26 hj0 jz0 jz1 jz2 rfl (.slice Av l.length cv) l.length _ rfl (HO2.out.alloc _) _ _ 1 1 _ rfl (rd_one w2 3 _) (fun _ => rfl) (by unfold maxLen; omega) (by omega) (by simp; omega) ?_; intro v3 w3 own3 hg3 hob3; have b3 : Below w.heap.size w w3 := Below.grown (q2.alloc hz2 _) hg3 (by simp; omega) (fun k hk => by have := own_ge HO2.out k hk; omega); have rA3 := row_grown (rA2.alloc _) hg3 (fun e => by have := own_ge HO2.out _ e; omega); have a3 := rA3.cell 0; simp at a3)
              | (go_at_call 28; (with_reducible refine (HE2.out _ b3).mono ?_); rintro r w4 ⟨rfl, b4⟩)
              | fail)
            go_roundw
            case rel =>
              refine ⟨m, l ++ [(i : Int)], rfl, by omega, hme, by rw [List.length_append]; simp; omega, Lib.hid ?_, HM2, rA3.below b4 rA3.lt, b3.trans (b4.mono b3.size)⟩
              rw [List.length_append, intsC, List.map_append]
              exact own_below own3 b4
            case measure => simp [intOf]; omega
          · have HM2 := Lib.hid (show l ++ scanF L kind (e - (i + 1)) (i + 1) (-1) = scanF L kind (e - (i0 + 1)) (i0 + 1) (-1) from by
              have := HM.out
              rw [HMS.out hk] at this
              exact this)
            have hke : ((nd L (i : Int)).k == kind) = false := by simpa using hk
            go_upto_region 6 with (first
              | (go_at_call 28; (with_reducible refine (HE.out _ hb).mono ?_); rintro r w2 ⟨rfl, b2⟩)
              | fail)
            have q2 := hb.trans (b2.mono hz)
            have rA2 := rA.below b2 lA
            have lA2 := rA2.lt
            have a2 := rA2.cell 0
            simp at a2
            have g2 := hn.keep (W' := w2) (fun p hp => q2.cell hp)
            have hb1 : (ad.add (i * 5)).block < w2.heap.size := Nat.lt_of_lt_of_le g2.blk q2.size
            have hb3 : ad.block < w2.heap.size := by rw [block_add] at hb1; exact hb1
            have c0 := g2.c0
            have HO2 := Lib.hid (own_below HO.out (b2.mono (Nat.le_refl _)))
            clear hn g2 hk HO HM HMS HSP
            generalize (nd L (i : Int)).k = kk at *
            go_wp2
            go_roundw
            case rel =>
              exact ⟨i + 1, l, by go_num, by omega, by omega, by omega, HO2, HM2, rA2, q2⟩
            case measure => simp [intOf]; omega
        · obtain rfl : i = e := by omega
          have HM2 := Lib.hid (show l = scanF L kind (i - (i0 + 1)) (i0 + 1) (-1) from by
            have := HM.out
            rw [Nat.sub_self] at this
            simpa [scanF] using this)
          have HFL := Lib.hid (show FindOf L (i0 : Int) kind l from by rw [HM2.out]; exact HFF.out)
          have HO := Lib.hid (own_mono HO.out (B := w.heap.size) (by omega))
          clear HM HFF HM2
          go_wp2_with (first
            | (go_at_call 28; (with_reducible refine (HE.out _ hb).mono ?_); rintro r w2 ⟨rfl, b2⟩)
            | fail)
          go_ret
          exact ⟨⟨_, l, rfl, own_below HO.out b2, HFL.out⟩, hb.trans (b2.mono hz)⟩
    · have HNO := Lib.hid (fun w' hb => NO.out w' (fun h => hin (by have := h.2; rw [HN.out] at this; exact this)) hb)
      clear HF HEN HG NO
      by_cases h0 : n < 0
      · go_wp2_with (first
          | (go_at_call 18; (with_reducible refine (HC.out _ bA).mono ?_); rintro r w1 ⟨rfl, b1⟩; have q1 := bA.trans (b1.mono bA.size); have rT1 := rT.below b1 zA; have e1 := rT1.cell 0; simp at e1)
          | fail)
        go_ret
        exact HNO.out _ q1
      · have h1 : (N : Int) ≤ n := by omega
        go_wp2_with (first
          | (go_at_call 18; (with_reducible refine (HC.out _ bA).mono ?_); rintro r w1 ⟨rfl, b1⟩; have q1 := bA.trans (b1.mono bA.size); have rT1 := rT.below b1 zA; have e1 := rT1.cell 0; simp at e1)
          | fail)
        go_ret
        exact HNO.out _ q1
  · have HNO := Lib.hid (fun w' hb => NO.out w' (fun h => he h.1) hb)
    rw [decide_eq_false he] at HC
    clear HF HEN HG NO
    go_wp2_with (first
      | (go_at_call 18; (with_reducible refine (HC.out _ bA).mono ?_); rintro r w1 ⟨rfl, b1⟩; have q1 := bA.trans (b1.mono bA.size); have rT1 := rT.below b1 zA; have e1 := rT1.cell 0; simp at e1)
      | fail)
    go_ret
    exact HNO.out _ q1
end Go.Proofs.YtjaijlkonkgnmaaGreatDoor
