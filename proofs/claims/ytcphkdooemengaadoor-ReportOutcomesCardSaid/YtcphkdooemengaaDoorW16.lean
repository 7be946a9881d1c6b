/- The walk of chapter 1's reference Lines. -/
import Derived.Test.YtcphkdooemengaaDoorW2
import Derived.Test.YtcphkdooemengaaDoorLn2
import Derived.Test.YtcphkdooemengaaDoorOwn
import Derived.Test.YtcphkdooemengaaDoorRow2
import Derived.Shelf.RegionOpen
namespace Go.Proofs.YtcphkdooemengaaDoor
set_option linter.unusedVariables false
set_option linter.unusedSimpArgs false
set_option linter.unnecessarySimpa false
open Go.RowKit
attribute [local go_sem] cell_alloc_add cell_set_add lt_more
/-- A line's cells: where it begins and ends. -/
def lnC (x : Nat × Nat) : List Value := [.int .i64 (x.1 : Int), .int .i64 (x.2 : Int)]
def lnsC (l : List (Nat × Nat)) : List Value := l.flatMap lnC
theorem lnsC_snoc (l : List (Nat × Nat)) (x : Nat × Nat) : lnsC (l ++ [x]) = lnsC l ++ lnC x := by simp [lnsC]
theorem infoPair : (Tryd.prog.info? 56).map (fun i => (i.zero, i.size, i.bytes)) = some (some (.agg #[.int .i64 0, .int .i64 0]), 2, 16) := by kernel_rfl
theorem lnC_one (x : Nat × Nat) : ∀ u ∈ lnC x, u.oneCell' = true := by intro u hu; simp [lnC] at hu; rcases hu with rfl | rfl <;> rfl
theorem lnC_lies (x : Nat × Nat) {w : World} {g : Nat} {t : TypeId} (h : Row w g t #[.int .i64 (x.1 : Int), .int .i64 (x.2 : Int)]) : ∀ j u, (lnC x)[j]? = some u → w.cell? ((⟨g, 0, none⟩ : Addr).add j) = some u := fun j u hj => by
  rw [add_row, h.cell, Nat.zero_add, ← hj]
  simp [lnC]
set_option maxRecDepth 100000 in
set_option maxHeartbeats 4000000 in
theorem rLines_any (s : ByteArray) (A : Option Addr) (c : Nat) (hs : s.size ≤ 1099511627776) (hcap : s.size ≤ c) (w : World) {B : Nat} (hB : B ≤ w.heap.size) (h : Rd w B A s.size (byteC s)) :
    Calls Tryd.prog 25 #[.slice A s.size c] w fun e w' => (∃ v, e = .returned v ∧ w'.ownsRow w.heap.size 56 2 v (linesF s 0).length (lnsC (linesF s 0))) ∧ Below w.heap.size w w' := by
  obtain ⟨i0, hi, iz0, iz1, iz2⟩ := info_parts infoPair
  have hll := Lib.hid (lines_len s)
  go_enter Tryd.func25, Tryd.ntmps25
  go_wp2
  go_loopw [3, 4, 5] (fun v f a wr => ∃ (pre : List (Nat × Nat)) (k i : Nat), f = .int .i64 k ∧ a = .int .i64 i ∧ AtLn s pre k ∧ k ≤ i ∧ i ≤ s.size ∧ lineEnd s k = lineEnd s i ∧ wr.ownsRow w.heap.size 56 2 v pre.length (lnsC pre) ∧ Below w.heap.size w wr) (fun _ _ a _ => s.size - (intOf a).toNat)
  case atStart => exact ⟨[], 0, 0, rfl, rfl, AtLn.start s, Nat.le_refl _, Nat.zero_le _, rfl, World.ownsRow_nil _ _ _ _, Below.refl _ _⟩
  case round =>
    obtain ⟨pre, k, i, rfl, rfl, hp, hki, his, hE, hown, hb⟩ := hrel
    have hz := hb.size
    have hpl := hp.len
    have hpl2 : pre.length ≤ s.size + 1 := by have := hll.out; omega
    have hge := own_ge hown
    by_cases hlt : i < s.size
    · obtain ⟨ad, rfl, _, hc⟩ := (h.below (hb.mono hB)) i hlt
      have hc' : wr.cell? (ad.add i) = some (.int .u8 (bt s i : Int)) := hc
      by_cases h10 : bt s i = 10
      · have he : lineEnd s k = i := by rw [hE, lineEnd_stop (by rintro ⟨_, q⟩; exact q h10)]
        have hst := hp.step (by omega)
        rw [he] at hst
        have h10' : (bt s i : Int) = 10 := by omega
        rw [h10'] at hc'
        have HS := Lib.hid hst
        clear hc hst hE h10 h10'
        go_wp2_with (at_builtin; refine wpList_append_own _ rfl _ _ 57 rfl w.heap.size 56 i0 _ 2 16 Tryd.underlying57 hi iz0 iz1 iz2 rfl (by decide) _ _ _ rfl (hown.alloc _) ⟨wr.heap.size, 0, none⟩ 1 1 (lnC (k, i)) rfl rfl (lnC_lies (k, i) (row_new rfl)) (lnC_one _) (by unfold maxLen; omega) (by omega) (by simp; omega) ?_; intro v2 w2 hown2 hg2 _)
        go_roundw
        case rel => exact ⟨pre ++ [(k, i)], i + 1, i + 1, by go_num, by go_num, HS.out, Nat.le_refl _, by omega, rfl, by rw [lnsC_snoc, List.length_append]; exact hown2, (hb.alloc (by omega) _).grown hg2 (by simp; omega) hge⟩
        case measure => simp [intOf]; omega
      · have hE2 : lineEnd s k = lineEnd s (i + 1) := by rw [hE, lineEnd_go hlt h10]
        have h10' : ((bt s i : Int) == 10) = false := by simp; omega
        have HS := Lib.hid hE2
        clear hc hE hE2 h10
        go_wp2
        go_roundw
        case rel => exact ⟨pre, k, i + 1, rfl, by go_num, hp, by omega, by omega, HS.out, hown, hb⟩
        case measure => simp [intOf]; omega
    · obtain rfl : i = s.size := by omega
      have he : lineEnd s k = s.size := by rw [hE, lineEnd_stop (by omega)]
      have hst := hp.last (by omega)
      rw [he] at hst
      have HS := Lib.hid hst.1
      clear hst hE he
      go_wp2_with (at_builtin; refine wpList_append_own _ rfl _ _ 57 rfl w.heap.size 56 i0 _ 2 16 Tryd.underlying57 hi iz0 iz1 iz2 rfl (by decide) _ _ _ rfl (hown.alloc _) ⟨wr.heap.size, 0, none⟩ 1 1 (lnC (k, s.size)) rfl rfl (lnC_lies (k, s.size) (row_new rfl)) (lnC_one _) (by unfold maxLen; omega) (by omega) (by simp; omega) ?_; intro v2 w2 hown2 hg2 _)
      go_ret
      refine ⟨⟨_, rfl, ?_⟩, (hb.alloc (by omega) _).grown hg2 (by simp; omega) hge⟩
      rw [HS.out, lnsC_snoc, List.length_append]; exact hown2
end Go.Proofs.YtcphkdooemengaaDoor
