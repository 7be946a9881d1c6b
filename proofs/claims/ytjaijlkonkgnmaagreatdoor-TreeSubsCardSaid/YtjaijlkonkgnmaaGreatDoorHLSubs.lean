/- The walk of chapter 3's law TreeSubs. -/
import Derived.Test.YtjaijlkonkgnmaaGreatDoorHLSub
import Derived.Test.YtjaijlkonkgnmaaGreatDoorHBL
namespace Go.Proofs.YtjaijlkonkgnmaaGreatDoor
set_option linter.unusedVariables false
set_option linter.unusedSimpArgs false
set_option linter.unnecessarySimpa false
open Go.RowKit
attribute [local go_sem] cell_alloc_add cell_set_add lt_more
set_option maxRecDepth 100000 in
set_option maxHeartbeats 8000000 in
theorem TreeSubs_any (A : Option Addr) (L : List Nd) (N c : Nat) (hN : L.length = N) (hc : N ≤ c) (hm : c ≤ maxLen) (n : Int) (hx : ∀ j : Nat, (nd L j).ks.length ≤ 1000000000000000 ∧ (nd L j).x.size ≤ 1000000000000000) (w : World) (h : TreeAt w w.heap.size A L) (hmx : Mx w) (hw00 : 0 < w.heap.size) : Calls Tryz.prog 4 #[.agg #[.slice A N c], .int .i64 n] w fun e w' => e = .returned (.bool true) ∧ Below w.heap.size w w' := by
  obtain ⟨wa, hwa⟩ : ∃ wa : World, wa = w.alloc (.cells #[.slice A N c] 24) := ⟨_, rfl⟩
  have bA : Below w.heap.size w wa := by rw [hwa]; exact (by (repeat (first | (with_reducible exact Below.refl _ _) | (with_reducible assumption) | (with_reducible refine Below.setCell ?_ (by first | omega | (simp <;> omega)) _) | (with_reducible refine Below.alloc ?_ (by first | omega | (simp <;> omega)) _) | (with_reducible refine Below.drew ?_) | (with_reducible refine below_drewN ?_ _) | (with_reducible refine Below.trans ?_ (Below.mono (by with_reducible assumption) (by first | omega | (simp <;> omega)))))))
  have zA : w.heap.size < wa.heap.size := by rw [hwa]; simp
  have rT : Row wa w.heap.size 24 #[.slice A N c] := by rw [hwa]; exact row_new rfl
  have t0 := rT.cell 0
  simp at t0
  have HG := Lib.hid (hN ▸ great_any A L c (by omega) hm hx wa (h.later bA))
  have hX := Lib.hid hmx
  have HSU := Lib.hid (fun (hg : wt L ≤ 3000) (i : Int) W (hb : Below w.heap.size w W) => sub_any A L N c hN hc hm (by have := wt_len L; omega) (fun j => by have := wt_nd L j; omega) (fun j => by have := wt_nd L j; omega) i W (h.later hb) (hmx.below hb hw00) (by have := Below.size hb; omega))
  unfold maxLen at hm
  clear h hx hmx hN
  go_enter Tryz.func4, Tryz.ntmps4
  go_upto_region 1 with fail
  rw [← hwa]
  clear hwa
  by_cases hg1 : 3000 < wt L
  · rw [decide_eq_true hg1] at HG
    go_wp2_with (first
      | (go_at_call 6; (with_reducible refine HG.out.mono ?_); rintro e w1 ⟨rfl, b1⟩)
      | fail)
    go_ret
    exact ⟨rfl, bA.trans (b1.mono (by omega))⟩
  · rw [decide_eq_false hg1] at HG
    have HSU := Lib.hid (HSU.out (by omega))
    by_cases h60 : 60 < N
    · have h60' : (60 : Int) < (N : Int) := by omega
      go_wp2_with (first
        | (go_at_call 6; (with_reducible refine HG.out.mono ?_); rintro e w1 ⟨rfl, b1⟩; have q1 := bA.trans (b1.mono bA.size); have rA1 := rT.below b1 zA; have e1 := rA1.cell 0; simp at e1)
        | fail)
      go_ret
      exact ⟨rfl, q1⟩
    · have h60' : ¬ (60 : Int) < (N : Int) := by omega
      go_upto_region 3 with (first
        | (go_at_call 6; (with_reducible refine HG.out.mono ?_); rintro e w1 ⟨rfl, b1⟩; have q1 := bA.trans (b1.mono bA.size); have rA1 := rT.below b1 zA; have e1 := rA1.cell 0; simp at e1)
        | fail)
      clear rT zA bA t0 HG e1 b1
      have hNN : N ≤ 60 := by omega
      clear hg1 h60 h60'
      go_wp2
      go_loopw [5] (fun t wr => ∃ z : Int, t = .int .i64 z ∧ -1 ≤ z ∧ z ≤ (N : Int) + 1 ∧ Row wr w.heap.size 24 #[.slice A N c] ∧ Below w.heap.size w wr) (fun t _ => ((N : Int) + 1 - intOf t).toNat)
      case atStart => exact ⟨-1, rfl, by omega, by omega, rA1, q1⟩
      case round =>
        obtain ⟨z, rfl, hz1, hz2, rA, hb⟩ := hrel
        clear rA1 q1
        generalize hwo : wr = wo at *
        clear hwo
        have a0 := rA.cell 0
        have lA := rA.lt
        have hzb := Below.size hb
        simp at a0
        by_cases hlt : z ≤ (N : Int)
        · go_wp2_with (first
            | (go_at_call 13; (with_reducible refine (HSU.out z _ hb).mono ?_); rintro e w2 ⟨rfl, b2⟩)
            | fail)
          refine ⟨⟨z + 1, by go_num, by omega, by omega, rA.below b2 lA, hb.trans (b2.mono hzb)⟩, by simp [intOf]; omega⟩
        · go_wp2_with (first
            | (go_at_call 13; (with_reducible refine (HSU.out n _ hb).mono ?_); rintro e w2 ⟨rfl, b2⟩; have q2 := hb.trans (b2.mono hzb))
            | (go_at_call 12; (with_reducible refine (known_any _ (hX.out.below (B := w.heap.size) q2 hw00) (by have := Below.size q2; omega)).mono ?_); rintro r wk ⟨rfl, bk⟩)
            | fail)
          go_ret
          exact ⟨rfl, q2.trans (bk.mono q2.size)⟩
end Go.Proofs.YtjaijlkonkgnmaaGreatDoor
