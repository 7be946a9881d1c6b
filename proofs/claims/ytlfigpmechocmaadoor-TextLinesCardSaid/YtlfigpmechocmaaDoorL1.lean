/- The walk of chapter 1's known, and of its laws: TextDecodes. -/
import Derived.Test.YtlfigpmechocmaaDoorW6
import Derived.Test.YtlfigpmechocmaaDoorW8
import Derived.Test.YtlfigpmechocmaaDoorW9
import Derived.Lib.SlBytesConst
namespace Go.Proofs.YtlfigpmechocmaaDoor
set_option linter.unusedVariables false
set_option linter.unusedSimpArgs false
set_option linter.unnecessarySimpa false
open Go.RowKit
attribute [local go_sem] cell_alloc_add cell_set_add lt_more
def kA : ByteArray := ⟨#[195, 169]⟩
def kB : ByteArray := ⟨#[97, 10, 195, 169, 98]⟩
theorem rd_lit (s : ByteArray) (w : World) (t : TypeId) (cs : Array Value) (fr : Nat × Nat) (hc : cs = (s.data.toList.map fun b => Value.int .u8 (b.toNat : Int)).toArray) : Rd (w.alloc (.cells cs t fr)) (w.heap.size + 1) (some ⟨w.heap.size, 0, none⟩) s.size (byteC s) := fun j hj =>
  ⟨_, rfl, by simp, by
    rw [add_row, World.cell?_alloc_mark, Nat.zero_add, hc]
    have := bcs_at hj
    unfold bcs at this
    rw [List.getElem?_toArray]; exact this⟩
theorem kA_dec : decR kA 0 = 233 ∧ decN kA 0 = 2 ∧ decG kA 0 = true := by decide
theorem kB_place : ((lnF kB (clampA kB 4)).1 : Int) = 2 ∧ (colS kB (lnF kB (clampA kB 4)).2 (clampA kB 4) : Int) = 2 := by decide
theorem kQ : quoteB ⟨#[97, 10]⟩ = ⟨#[34, 97, 92, 110, 34]⟩ := by decide

theorem dec_kA (w : World) (fr : Nat × Nat) : Calls Tryd.prog 10 #[.slice (some ⟨w.heap.size, 0, none⟩) 2 2, .int .i64 0] (w.alloc (.cells #[.int .u8 195, .int .u8 169] 5 fr)) fun e w' => e = .returned (.tuple #[.int .i32 233, .int .i64 2, .bool true]) ∧ Below w.heap.size w w' :=
  (Decode_any kA _ 2 0 (by decide) (by decide) _ (rd_lit kA w 5 #[.int .u8 195, .int .u8 169] fr rfl)).mono fun e w' ⟨he, hw⟩ => ⟨by rw [he, kA_dec.1, kA_dec.2.1, kA_dec.2.2], by subst hw; exact (Below.refl _ _).alloc (Nat.le_refl _) _⟩
theorem place_kB (w : World) (fr : Nat × Nat) : Calls Tryd.prog 21 #[.slice (some ⟨w.heap.size, 0, none⟩) 5 5, .int .i64 4] (w.alloc (.cells #[.int .u8 97, .int .u8 10, .int .u8 195, .int .u8 169, .int .u8 98] 5 fr)) fun e w' => e = .returned (.tuple #[.int .i64 2, .int .i64 2]) ∧ Below w.heap.size w w' :=
  (Place_any kB _ 5 (by decide) (by decide) _ ((rd_lit kB w 5 #[.int .u8 97, .int .u8 10, .int .u8 195, .int .u8 169, .int .u8 98] fr rfl).more (by simp)) 4).mono fun e w' ⟨he, hw⟩ => ⟨by rw [he, kB_place.1, kB_place.2], (((Below.refl _ w).alloc (Nat.le_refl _) _).trans (hw.mono (by simp)))⟩
set_option maxRecDepth 100000 in
set_option maxHeartbeats 1000000 in
theorem known_any (w : World) (hT : Tz w) : Calls Tryd.prog 14 #[] w fun e w' => e = .returned (.bool true) ∧ Below w.heap.size w w' := by
  have hT2 := hT.2
  have hq := kQ
  have kc := fun (w : World) (C : Array Value) (n c : Nat) => Lib.run_convert_bytes_const (P := Tryd.prog) w 22 5 C n c Tryd.underlying22 Tryd.underlying5
  go_enter Tryd.func14, Tryd.ntmps14
  go_wp2_with (first
    | (go_at_call 10; (with_reducible refine (dec_kA _ _).mono ?_); rintro e w1 ⟨rfl, b1⟩; have z1 := Below.size b1)
    | (go_at_call 21; (with_reducible refine (place_kB _ _).mono ?_); rintro e w2 ⟨rfl, b2⟩; have z2 := Below.size b2)
    | (go_at_call 23; (with_reducible refine (Quote_any _ (by decide) _ (hT.later (B := w.heap.size) ((b1.trans (b2.mono z1))) hT2)).mono ?_); rintro e w3 ⟨rfl, b3⟩; have z3 := Below.size b3))
  go_ret
  exact ⟨rfl, (b1.trans (b2.mono z1)).trans (b3.mono (by omega))⟩

set_option maxRecDepth 100000 in
set_option maxHeartbeats 4000000 in
theorem TextDecodes_any (s : ByteArray) (A : Option Addr) (c : Nat) (hs : s.size ≤ 140737488351232) (hcap : s.size ≤ c) (w : World) (h : Rd w w.heap.size A s.size (byteC s)) (at_ : Int) (hT : Tz w) :
    Calls Tryd.prog 3 #[.slice A s.size c, .int .i64 at_] w fun e w' => e = .returned (.bool true) ∧ Below w.heap.size w w' := by
  have hT2 := hT.2
  by_cases h4 : s.size ≤ 4000
  · go_enter Tryd.func3, Tryd.ntmps3
    go_wp2
    go_loopw [5] (fun i wr => ∃ k : Nat, k ≤ s.size + 2 ∧ i = .int .i64 ((k : Int) - 1) ∧ Below w.heap.size w wr) (fun i _ => s.size + 3 - (intOf i + 1).toNat)
    case atStart => exact ⟨0, Nat.zero_le _, rfl, Below.refl _ _⟩
    case round =>
      obtain ⟨k, hk, rfl, hb⟩ := hrel
      have hz := hb.size
      have hr0 := (h.below hb)
      by_cases hlt : k ≤ s.size + 1
      · go_wp2_with (first
          | (go_at_call 10; (with_reducible refine (Decode_b s A c _ hs hcap wr hr0).mono ?_); rintro e w1 ⟨rfl, rfl⟩)
          | (go_at_call 11; (with_reducible refine (rDecode_b s A c _ hs hcap _ hz hr0).mono ?_); rintro e w2 ⟨rfl, hb2⟩; have hz2 := Below.size hb2))
        go_roundw
        case rel => exact ⟨k + 1, by omega, by go_num, (by (repeat (first | (with_reducible exact Below.refl _ _) | (with_reducible assumption) | (with_reducible refine Below.setCell ?_ (by first | omega | (simp <;> omega)) _) | (with_reducible refine Below.alloc ?_ (by first | omega | (simp <;> omega)) _) | (with_reducible refine Below.drew ?_) | (with_reducible refine below_drewN ?_ _) | (with_reducible refine Below.trans ?_ (Below.mono (by with_reducible assumption) (by first | omega | (simp <;> omega)))))))⟩
        case measure => simp [intOf]; omega
      · obtain rfl : k = s.size + 2 := by omega
        go_wp2_with (first
          | (go_at_call 12; (with_reducible refine (roomy_any s A c (by omega) wr (hr0.more hz)).mono ?_); rintro e w1 ⟨A1, cap1, rfl, hcap1, hrd1, hb1⟩; obtain ⟨ad, rfl, _⟩ := hrd1.addr (by omega); have hz1 := Below.size hb1; have hr1 := hr0.below (hb1.mono hz); have hrs : Rd w1 w1.heap.size (some ad) s.size (byteC s) := ((hrd1.part (by omega)).congr fun j hj => by unfold room; rw [if_pos hj]))
          | (go_at_call 10; (with_reducible refine (Decode_b s (some ad) cap1 _ hs (by omega) w1 hrs).mono ?_); rintro e w2 ⟨rfl, rfl⟩)
          | (go_at_call 11; (with_reducible refine (rDecode_b s A c _ hs hcap _ (by omega) hr1).mono ?_); rintro e w3 ⟨rfl, hb3⟩; have hz3 := Below.size hb3)
          | (go_at_call 13; (with_reducible refine (stands_any s _ _ cap1 c rfl rfl (some ad) A hcap1 (by omega) _ (hrd1.below hb3 |>.alloc hz3 _) (((hr1.below (hb3.mono (by omega))).alloc (by omega) _))).mono ?_); rintro e w4 ⟨rfl, k4, rfl⟩)
          | (go_at_call 14; (with_reducible refine (known_any _ (hT.later (B := w.heap.size) (by (repeat (first | (with_reducible exact Below.refl _ _) | (with_reducible assumption) | (with_reducible refine Below.setCell ?_ (by first | omega | (simp <;> omega)) _) | (with_reducible refine Below.alloc ?_ (by first | omega | (simp <;> omega)) _) | (with_reducible refine Below.drew ?_) | (with_reducible refine below_drewN ?_ _) | (with_reducible refine Below.trans ?_ (Below.mono (by with_reducible assumption) (by first | omega | (simp <;> omega))))))) hT2)).mono ?_); rintro e wk ⟨rfl, bk⟩; have zk := Below.size bk))
        go_ret
        exact ⟨rfl, (by (repeat (first | (with_reducible exact Below.refl _ _) | (with_reducible assumption) | (with_reducible refine Below.setCell ?_ (by first | omega | (simp <;> omega)) _) | (with_reducible refine Below.alloc ?_ (by first | omega | (simp <;> omega)) _) | (with_reducible refine Below.drew ?_) | (with_reducible refine below_drewN ?_ _) | (with_reducible refine Below.trans ?_ (Below.mono (by with_reducible assumption) (by first | omega | (simp <;> omega)))))))⟩
  · go_enter Tryd.func3, Tryd.ntmps3
    go_wp2
    go_ret
    exact ⟨rfl, Below.refl _ _⟩
end Go.Proofs.YtlfigpmechocmaaDoor
