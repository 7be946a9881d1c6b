/- The walk of chapter 1's law TextPieces. -/
import Derived.Test.YtlfigpmechocmaaDoorL1
import Derived.Test.YtlfigpmechocmaaDoorEnc
namespace Go.Proofs.YtlfigpmechocmaaDoor
set_option linter.unusedVariables false
set_option linter.unusedSimpArgs false
open Go.RowKit
attribute [local go_sem] cell_alloc_add cell_set_add lt_more
theorem Decode_at (s : ByteArray) (A : Option Addr) (c : Nat) (i : Nat) (hi : i < s.size) (hs : s.size ≤ 140737488351232) (hcap : s.size ≤ c) (w : World) {B : Nat} (h : Rd w B A s.size (byteC s)) :
    Calls Tryd.prog 10 #[.slice A s.size c, .int .i64 i] w fun e w' => e = .returned (.tuple #[.int .i32 (rn s i : Int), .int .i64 (wd s i : Int), .bool (gd s i)]) ∧ w' = w := by
  have := Decode_b s A c i hs hcap w h
  rwa [decR_in hi, decN_in hi, decG_in hi] at this
set_option maxRecDepth 100000 in
set_option maxHeartbeats 4000000 in
theorem TextPieces_any (s : ByteArray) (A : Option Addr) (c : Nat) (hs : s.size ≤ 140737488351232) (hcap : s.size ≤ c) (w : World) (h : Rd w w.heap.size A s.size (byteC s)) (hT : Tz w) :
    Calls Tryd.prog 8 #[.slice A s.size c] w fun e w' => e = .returned (.bool true) ∧ Below w.heap.size w w' := by
  have hT2 := hT.2
  obtain ⟨i0, hi, hz0, hz1, hz2⟩ := info_parts infoByte
  by_cases h4 : s.size ≤ 4000
  · go_enter Tryd.func8, Tryd.ntmps8
    go_wp2
    go_loopw [3, 4] (fun i v wr => ∃ k : Nat, k ≤ s.size ∧ i = .int .i64 k ∧ wr.ownsRow w.heap.size 5 1 v k (firsts (byteC s) k) ∧ Below w.heap.size w wr) (fun i _ _ => s.size - (intOf i).toNat)
    case atStart => exact ⟨0, Nat.zero_le _, rfl, World.ownsRow_nil _ _ _ _, Below.refl _ _⟩
    case round =>
      obtain ⟨k, hk, rfl, hown, hb⟩ := hrel
      have hz := hb.size
      have hr0 := (h.below hb)
      by_cases hlt : k < s.size
      · have hw := wd_bd hlt
        have hob := own_base hown
        cases hg : gd s k
        · obtain ⟨e1, e2⟩ := bad_is hlt hg
          have f1 : (rn s k : Int) = 65533 := by omega
          have f2 : (wd s k : Int) = 1 := by omega
          clear e1 e2
          obtain ⟨ad, rfl, hbl, hc⟩ := hr0 k hlt
          have hc' : wr.cell? (ad.add k) = some (.int .u8 (bt s k : Int)) := hc
          clear hw hc
          go_wp2_with (first
            | (go_at_call 10; (with_reducible refine (Decode_at s (some ad) c k hlt hs hcap wr hr0).mono ?_); rintro e w1 ⟨rfl, rfl⟩)
            | (at_builtin; refine wpList_append_rd _ rfl _ _ _ rfl w.heap.size 5 i0 _ 1 Tryd.underlying22 hi hz0 hz1 hz2 rfl _ _ _ rfl (hown.alloc _) _ _ 1 1 _ rfl (rd_one _ 5 (.int .u8 (bt s k : Int))) (fun _ => rfl) (by simp only [maxLen]; omega) (by omega) (by first | omega | (simp; omega)) ?_; intro v2 w2 hown2 hg2 hat2))
          go_roundw
          case rel => exact ⟨k + 1, by omega, by go_num, by rw [firsts_more]; exact hown2, (hb.alloc hz _).grown hg2 (by simp; omega) hob⟩
          case measure => simp [intOf]; omega
        · go_wp2_with (first
            | (go_at_call 10; (with_reducible refine (Decode_at s A c k hlt hs hcap wr hr0).mono ?_); rintro e w1 ⟨rfl, rfl⟩)
            | (at_builtin; refine Lib.wpList_append_own_string _ rfl _ _ 22 9 rfl w.heap.size 5 i0 Tryd.underlying22 Tryd.underlying9 hi hz0 hz1 hz2 _ _ _ rfl hown (Utf8.encode (rn s k : Int)) rfl (by rw [enc_size hlt hg]; simp only [maxLen]; omega) (by rw [enc_size hlt hg]; omega) hz ?_; intro v2 w2 hown2 hg2 _))
          go_roundw
          case rel => exact ⟨k + wd s k, by omega, by go_num, by rw [firsts_more, ← enc_cells hlt hg]; have h3 := hown2; rw [enc_size hlt hg] at h3; exact h3, hb.grown hg2 hz hob⟩
          case measure => simp [intOf]; omega
      · obtain rfl : k = s.size := by omega
        obtain ⟨A2, c2, rfl, hc2, hrd2⟩ := rd_own hown
        have hrd3 := hrd2 (byteC s) (fun j hj => firsts_at hj)
        go_wp2_with (first
          | (go_at_call 25; (with_reducible refine (bytes_same s _ _ _ _ rfl rfl A2 A hs wr hrd3 hr0).mono ?_); rintro e w2 ⟨rfl, j2, rfl⟩)
          | (go_at_call 14; (with_reducible refine (known_any _ (hT.later (B := w.heap.size) (by (repeat (first | (with_reducible exact Below.refl _ _) | (with_reducible assumption) | (with_reducible refine Below.setCell ?_ (by first | omega | (simp <;> omega)) _) | (with_reducible refine Below.alloc ?_ (by first | omega | (simp <;> omega)) _) | (with_reducible refine Below.drew ?_) | (with_reducible refine below_drewN ?_ _) | (with_reducible refine Below.trans ?_ (Below.mono (by with_reducible assumption) (by first | omega | (simp <;> omega))))))) hT2)).mono ?_); rintro e wk ⟨rfl, bk⟩; have zk := Below.size bk))
        go_ret
        exact ⟨rfl, (by (repeat (first | (with_reducible exact Below.refl _ _) | (with_reducible assumption) | (with_reducible refine Below.setCell ?_ (by first | omega | (simp <;> omega)) _) | (with_reducible refine Below.alloc ?_ (by first | omega | (simp <;> omega)) _) | (with_reducible refine Below.drew ?_) | (with_reducible refine below_drewN ?_ _) | (with_reducible refine Below.trans ?_ (Below.mono (by with_reducible assumption) (by first | omega | (simp <;> omega)))))))⟩
  · go_enter Tryd.func8, Tryd.ntmps8
    go_wp2
    go_ret
    exact ⟨rfl, Below.refl _ _⟩
end Go.Proofs.YtlfigpmechocmaaDoor
