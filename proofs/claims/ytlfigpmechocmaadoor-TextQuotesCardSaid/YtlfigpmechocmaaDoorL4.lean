/- The walk of chapter 1's law TextQuotes. -/
import Derived.Test.YtlfigpmechocmaaDoorL1
import Derived.Test.YtlfigpmechocmaaDoorW11
import Derived.Test.YtlfigpmechocmaaDoorQok
namespace Go.Proofs.YtlfigpmechocmaaDoor
set_option linter.unusedVariables false
set_option linter.unusedSimpArgs false
open Go.RowKit
theorem get_bt (q : ByteArray) (i : Nat) (h : i < q.size) : (q[i]'h).toNat = bt q i := by
  rw [data_at h, Array.getElem_toList]; rfl
attribute [local go_sem] cell_alloc_add cell_set_add lt_more get_bt
set_option maxRecDepth 100000 in
set_option maxHeartbeats 4000000 in
theorem TextQuotes_any (s : ByteArray) (hs : s.size ≤ 140737488351232) (w : World) (hT : Tz w) :
    Calls Tryd.prog 7 #[.string s] w fun e w' => e = .returned (.bool true) ∧ Below w.heap.size w w' := by
  have hT2 := hT.2
  by_cases h4 : s.size ≤ 4000
  · obtain ⟨q, hP, hR, hsz, hsz2, h0, hl, hok⟩ : ∃ q : ByteArray, (∀ W, Tz W → Calls Tryd.prog 23 #[.string s] W fun e w' => e = .returned (.string q) ∧ Below W.heap.size W w') ∧
        (∀ W, Calls Tryd.prog 24 #[.string s] W fun e w' => e = .returned (.string q) ∧ Below W.heap.size W w') ∧ 2 ≤ q.size ∧ q.size ≤ 1000000 ∧ bt q 0 = 34 ∧ bt q (q.size - 1) = 34 ∧
        (∀ i, 1 ≤ i → i + 1 < q.size → 32 ≤ bt q i ∧ bt q i ≠ 127 ∧ (bt q i = 34 → bt q (i - 1) = 92)) :=
      ⟨quoteB s, fun W h => Quote_any s (by omega) W h, fun W => rQuote_any s (by omega) W, by rw [quote_size]; omega, by rw [quote_size]; have := qbody_len s (places s); have := places_len s; omega, quote_first s, quote_last s, quote_ok s⟩
    have HOK := Lib.hid hok
    clear hok
    have e0 : ((bt q 0 : Int) != 34) = false := by rw [h0]; rfl
    have el : ((bt q (q.size - 1) : Int) != 34) = false := by rw [hl]; rfl
    clear h0 hl
    go_enter Tryd.func7, Tryd.ntmps7
    go_wp2_with (first
      | (go_at_call 23; (with_reducible refine (hP _ hT).mono ?_); rintro e w1 ⟨rfl, b1⟩; have z1 := Below.size b1)
      | (go_at_call 24; (with_reducible refine (hR _).mono ?_); rintro e w2 ⟨rfl, b2⟩; have z2 := Below.size b2))
    have hb2 : Below w.heap.size w w2 := b1.trans (b2.mono z1)
    go_loop [4] (fun i => ∃ k : Nat, 1 ≤ k ∧ k + 1 ≤ q.size ∧ i = .int .i64 k) (fun i => q.size - (intOf i).toNat)
    case atStart => exact ⟨1, by omega, by omega, rfl⟩
    case round =>
      obtain ⟨k, hk1, hk2, rfl⟩ := hrel
      by_cases hlt : k + 1 < q.size
      · obtain ⟨a1, a2, a3⟩ := HOK.out k hk1 hlt
        have f1 : ¬ (bt q k : Int) < 32 := by omega
        have f2 : ((bt q k : Int) == 127) = false := by simp; omega
        by_cases h34 : bt q k = 34
        · have f3 : ((bt q k : Int) == 34) = true := by simp; omega
          have f4 : ((bt q (k - 1) : Int) != 92) = false := by rw [a3 h34]; rfl
          clear a1 a2 a3 h34
          go_wp2
          go_round
          case rel => exact ⟨k + 1, by omega, by omega, by go_num⟩
          case measure => simp [intOf]; omega
        · have f3 : ((bt q k : Int) == 34) = false := by simp; omega
          clear a1 a2 a3 h34
          go_wp2
          go_round
          case rel => exact ⟨k + 1, by omega, by omega, by go_num⟩
          case measure => simp [intOf]; omega
      · go_wp2_with (first
          | (go_at_call 14; (with_reducible refine (known_any _ (hT.later (B := w.heap.size) (by (repeat (first | (with_reducible exact Below.refl _ _) | (with_reducible assumption) | (with_reducible refine Below.setCell ?_ (by first | omega | (simp <;> omega)) _) | (with_reducible refine Below.alloc ?_ (by first | omega | (simp <;> omega)) _) | (with_reducible refine Below.drew ?_) | (with_reducible refine below_drewN ?_ _) | (with_reducible refine Below.trans ?_ (Below.mono (by with_reducible assumption) (by first | omega | (simp <;> omega))))))) hT2)).mono ?_); rintro e wk ⟨rfl, bk⟩; have zk := Below.size bk))
        go_ret
        exact ⟨rfl, (by (repeat (first | (with_reducible exact Below.refl _ _) | (with_reducible assumption) | (with_reducible refine Below.setCell ?_ (by first | omega | (simp <;> omega)) _) | (with_reducible refine Below.alloc ?_ (by first | omega | (simp <;> omega)) _) | (with_reducible refine Below.drew ?_) | (with_reducible refine below_drewN ?_ _) | (with_reducible refine Below.trans ?_ (Below.mono (by with_reducible assumption) (by first | omega | (simp <;> omega)))))))⟩
  · go_enter Tryd.func7, Tryd.ntmps7
    go_wp2
    go_ret
    exact ⟨rfl, Below.refl _ _⟩
end Go.Proofs.YtlfigpmechocmaaDoor
