/- The walk of chapter 1's law TextPlaces. -/
import Derived.Test.YtlfigpmechocmaaDoorL1
namespace Go.Proofs.YtlfigpmechocmaaDoor
set_option linter.unusedVariables false
set_option linter.unusedSimpArgs false
open Go.RowKit
attribute [local go_sem] cell_alloc_add cell_set_add lt_more
set_option maxRecDepth 100000 in
set_option maxHeartbeats 4000000 in
theorem TextPlaces_any (s : ByteArray) (A : Option Addr) (c : Nat) (hs : s.size ≤ 140737488351232) (hcap : s.size ≤ c) (w : World) (h : Rd w w.heap.size A s.size (byteC s)) (at_ : Int) (hT : Tz w) :
    Calls Tryd.prog 6 #[.slice A s.size c, .int .i64 at_] w fun e w' => e = .returned (.bool true) ∧ Below w.heap.size w w' := by
  have hT2 := hT.2
  by_cases h4 : s.size ≤ 400
  · go_enter Tryd.func6, Tryd.ntmps6
    go_wp2
    go_loopw [5] (fun i wr => ∃ k : Nat, k ≤ s.size + 3 ∧ i = .int .i64 ((k : Int) - 1) ∧ Below w.heap.size w wr) (fun i _ => s.size + 4 - (intOf i + 1).toNat)
    case atStart => exact ⟨0, Nat.zero_le _, rfl, Below.refl _ _⟩
    case round =>
      obtain ⟨k, hk, rfl, hb⟩ := hrel
      have hz := hb.size
      have hr0 := (h.below hb)
      have hr1 := hr0.more hz
      by_cases hlt : k ≤ s.size + 2
      · go_wp2_with (first
          | (go_at_call 21; (with_reducible refine (Place_any s A c hs hcap wr hr1 _).mono ?_); rintro e w1 ⟨rfl, hb1⟩; have hz1 := Below.size hb1; have hr2 := (hr1.below hb1).more hz1)
          | (go_at_call 22; (with_reducible refine (rPlace_any s A c hs hcap w1 hr2 _).mono ?_); rintro e w2 ⟨rfl, hb2⟩; have hz2 := Below.size hb2))
        go_roundw
        case rel => exact ⟨k + 1, by omega, by go_num, (by (repeat (first | (with_reducible exact Below.refl _ _) | (with_reducible assumption) | (with_reducible refine Below.setCell ?_ (by first | omega | (simp <;> omega)) _) | (with_reducible refine Below.alloc ?_ (by first | omega | (simp <;> omega)) _) | (with_reducible refine Below.drew ?_) | (with_reducible refine below_drewN ?_ _) | (with_reducible refine Below.trans ?_ (Below.mono (by with_reducible assumption) (by first | omega | (simp <;> omega)))))))⟩
        case measure => simp [intOf]; omega
      · obtain rfl : k = s.size + 3 := by omega
        go_wp2_with (first
          | (go_at_call 21; (with_reducible refine (Place_any s A c hs hcap wr hr1 _).mono ?_); rintro e w1 ⟨rfl, hb1⟩; have hz1 := Below.size hb1; have hr2 := (hr1.below hb1).more hz1)
          | (go_at_call 22; (with_reducible refine (rPlace_any s A c hs hcap w1 hr2 _).mono ?_); rintro e w2 ⟨rfl, hb2⟩; have hz2 := Below.size hb2)
          | (go_at_call 14; (with_reducible refine (known_any _ (hT.later (B := w.heap.size) (by (repeat (first | (with_reducible exact Below.refl _ _) | (with_reducible assumption) | (with_reducible refine Below.setCell ?_ (by first | omega | (simp <;> omega)) _) | (with_reducible refine Below.alloc ?_ (by first | omega | (simp <;> omega)) _) | (with_reducible refine Below.drew ?_) | (with_reducible refine below_drewN ?_ _) | (with_reducible refine Below.trans ?_ (Below.mono (by with_reducible assumption) (by first | omega | (simp <;> omega))))))) hT2)).mono ?_); rintro e wk ⟨rfl, bk⟩; have zk := Below.size bk))
        go_ret
        exact ⟨rfl, (by (repeat (first | (with_reducible exact Below.refl _ _) | (with_reducible assumption) | (with_reducible refine Below.setCell ?_ (by first | omega | (simp <;> omega)) _) | (with_reducible refine Below.alloc ?_ (by first | omega | (simp <;> omega)) _) | (with_reducible refine Below.drew ?_) | (with_reducible refine below_drewN ?_ _) | (with_reducible refine Below.trans ?_ (Below.mono (by with_reducible assumption) (by first | omega | (simp <;> omega)))))))⟩
  · go_enter Tryd.func6, Tryd.ntmps6
    go_wp2
    go_ret
    exact ⟨rfl, Below.refl _ _⟩
end Go.Proofs.YtlfigpmechocmaaDoor
