/- The walk of LexDepths. -/
import Derived.Test.YtdlppdoankeilaaKnown
import Derived.Test.YtdlppdoankeilaaDepth
namespace Go.Proofs.Ytdlppdoankeilaa
set_option linter.unusedVariables false
set_option linter.unusedSimpArgs false
set_option linter.unnecessarySimpa false
open Go.RowKit
attribute [local go_sem] cell_alloc_add cell_set_add lt_more
set_option maxRecDepth 100000 in
set_option maxHeartbeats 4000000 in
theorem LexDepths_any (f : Nat → TokI) (A : Option Addr) (n c : Nat) (hnc : n ≤ c) (hcm : c ≤ maxLen) (most : Int) (w : World) (hm : Mx w) (h : Rd w w.heap.size A (n * 4) (toksAt f)) : Calls Try.prog 9 #[.slice A n c, .int .i64 most] w fun r w' => r = .returned (.bool true) ∧ Below w.heap.size w w' := by
  have h0 : 0 < w.heap.size := by obtain ⟨y, hy⟩ := hm; exact Nat.lt_of_le_of_lt (Nat.zero_le _) (World.block_lt_of_cell? w ⟨0, 0, none⟩ hy)
  by_cases hn : n ≤ 1500
  · have hn' : ((n : Int) > 1500) = False := by simp; omega
    obtain ⟨d, hd⟩ : ∃ d, d = deepN f n := ⟨_, rfl⟩
    obtain ⟨fi, hfi⟩ : ∃ fi, fi = firstN f most n := ⟨_, rfl⟩
    have HS := Lib.hid (fun W (hb : Below w.heap.size w W) => Depth_any f A n c (by omega) hnc most W (B := w.heap.size) hb.size (h.below hb))
    have HR := Lib.hid (fun W (hb : Below w.heap.size w W) => rDepth_any f A n c (by omega) hnc most W (B := w.heap.size) hb.size (h.below hb))
    rw [← hd, ← hfi] at HS HR
    clear hd hfi
    have HK := Lib.hid (fun W (hb : Below w.heap.size w W) => known_any W (hm.below hb h0))
    clear h
    go_enter Try.func9, Try.ntmps9
    go_wp2_with (first
      | (go_at_call 22; (with_reducible refine (HS.out _ (Below.refl _ _)).mono ?_); rintro e w1 ⟨rfl, b1⟩; have z1 := Below.size b1)
      | (go_at_call 23; (with_reducible refine (HR.out _ (by (repeat (first | (with_reducible exact Below.refl _ _) | (with_reducible assumption) | (with_reducible refine Below.setCell ?_ (by first | omega | (simp <;> omega)) _) | (with_reducible refine Below.alloc ?_ (by first | omega | (simp <;> omega)) _) | (with_reducible refine Below.drew ?_) | (with_reducible refine below_drewN ?_ _) | (with_reducible refine Below.trans ?_ (Below.mono (by with_reducible assumption) (by first | omega | (simp <;> omega)))))))).mono ?_); rintro e w2 ⟨rfl, b2⟩; have z2 := Below.size b2)
      | (go_at_call 15; (with_reducible refine (HK.out _ (by (repeat (first | (with_reducible exact Below.refl _ _) | (with_reducible assumption) | (with_reducible refine Below.setCell ?_ (by first | omega | (simp <;> omega)) _) | (with_reducible refine Below.alloc ?_ (by first | omega | (simp <;> omega)) _) | (with_reducible refine Below.drew ?_) | (with_reducible refine below_drewN ?_ _) | (with_reducible refine Below.trans ?_ (Below.mono (by with_reducible assumption) (by first | omega | (simp <;> omega)))))))).mono ?_); rintro e w3 ⟨rfl, b3⟩; have z3 := Below.size b3))
    all_goals (refine bodyPost_ret (v := .bool true) (by simp [results, Try.results9, go_sem]) rfl ⟨rfl, (by (repeat (first | (with_reducible exact Below.refl _ _) | (with_reducible assumption) | (with_reducible refine Below.setCell ?_ (by first | omega | (simp <;> omega)) _) | (with_reducible refine Below.alloc ?_ (by first | omega | (simp <;> omega)) _) | (with_reducible refine Below.drew ?_) | (with_reducible refine below_drewN ?_ _) | (with_reducible refine Below.trans ?_ (Below.mono (by with_reducible assumption) (by first | omega | (simp <;> omega)))))))⟩)
  · have hn' : ((n : Int) > 1500) = True := by simp; omega
    go_enter Try.func9, Try.ntmps9
    go_wp2
    exact bodyPost_ret (v := .bool true) (by simp [results, Try.results9, go_sem]) rfl ⟨rfl, Below.refl _ _⟩
end Go.Proofs.Ytdlppdoankeilaa
