/- The walk of chapter 1's reference Runes (for other chapters). -/
import Derived.Test.YtjaijlkonkgnmaaGreatDoorHRefDec
import Derived.Test.YtjaijlkonkgnmaaGreatDoorHBA
namespace Go.Proofs.YtjaijlkonkgnmaaGreatDoor
set_option linter.unusedVariables false
set_option linter.unusedSimpArgs false
set_option linter.unnecessarySimpa false
open Go.RowKit
attribute [local go_sem] cell_alloc_add cell_set_add lt_more
/-- A row's cells. -/
def rowC (s : ByteArray) (i : Nat) : List Value := [.int .i64 (i : Int), .int .i32 (rn s i : Int), .int .i64 (wd s i : Int), .bool (gd s i)]
def rowsC (s : ByteArray) (l : List Nat) : List Value := l.flatMap (rowC s)
theorem rowsC_snoc (s : ByteArray) (l : List Nat) (i : Nat) : rowsC s (l ++ [i]) = rowsC s l ++ rowC s i := by simp [rowsC]
theorem infoRow : (Tryz.prog.info? 102).map (fun i => (i.zero, i.size, i.bytes)) = some (some (.agg #[.int .i64 0, .int .i32 0, .int .i64 0, .bool false]), 4, 32) := by kernel_rfl
theorem rowC_lies (s : ByteArray) (k : Nat) {w : World} {g : Nat} {t : TypeId} (h : Row w g t #[.int .i64 (k : Int), .int .i32 (rn s k : Int), .int .i64 (wd s k : Int), .bool (gd s k)]) : ∀ j u, (rowC s k)[j]? = some u → w.cell? ((⟨g, 0, none⟩ : Addr).add j) = some u := fun j u hj => by
  rw [add_row, h.cell, Nat.zero_add, ← hj]
  simp [rowC]
theorem rowC_one (s : ByteArray) (k : Nat) : ∀ u ∈ rowC s k, u.oneCell' = true := by intro u hu; simp [rowC] at hu; rcases hu with rfl | rfl | rfl | rfl <;> rfl
set_option maxRecDepth 100000 in
set_option maxHeartbeats 4000000 in
theorem rRunes_any (s : ByteArray) (A : Option Addr) (c : Nat) (hs : s.size ≤ 1099511627776) (hcap : s.size ≤ c) (w : World) {B : Nat} (hB : B ≤ w.heap.size) (h : Rd w B A s.size (byteC s)) :
    Calls Tryz.prog 100 #[.slice A s.size c] w fun e w' => (∃ v, e = .returned v ∧ w'.ownsRow w.heap.size 102 4 v (places s).length (rowsC s (places s))) ∧ Below w.heap.size w w' := by
  obtain ⟨i0, hi, iz0, iz1, iz2⟩ := info_parts infoRow
  go_enter Tryz.func100, Tryz.ntmps100
  go_wp2
  go_loopw [3, 4] (fun v a wr => ∃ (pre : List Nat) (k : Nat), a = .int .i64 k ∧ AtPlace s pre k ∧ wr.ownsRow w.heap.size 102 4 v pre.length (rowsC s pre) ∧ Below w.heap.size w wr) (fun _ a _ => s.size - (intOf a).toNat)
  case atStart => exact ⟨[], 0, rfl, AtPlace.start s, World.ownsRow_nil _ _ _ _, Below.refl _ _⟩
  case round =>
    obtain ⟨pre, k, rfl, hp, hown, hb⟩ := hrel
    have hz := hb.size
    have hk := hp.2
    have hpl := hp.len
    have hr0 := (h.below (hb.mono hB))
    by_cases hlt : k < s.size
    · have hw := wd_bd hlt
      go_wp2_with (first
        | (go_at_call 108; (with_reducible refine (rDecode_in s A c k hlt (by omega) hcap wr (by omega) hr0).mono ?_); rintro e w1 ⟨rfl, hb1⟩; have hz1 := Below.size hb1; have hown1 := own_below hown hb1)
        | (at_builtin; refine wpList_append_own _ rfl _ _ 99 rfl w.heap.size 102 i0 _ 4 32 Tryz.underlying99 hi iz0 iz1 iz2 rfl (by decide) _ _ _ rfl ((hown1.alloc _).alloc _) ⟨w1.heap.size + 1, 0, none⟩ 1 1 (rowC s k) rfl rfl (rowC_lies s k (row_new (by simp))) (rowC_one s k) (by unfold maxLen; omega) (by omega) (by simp; omega) ?_; intro v2 w2 hown2 hg2 _; have hrw := row_grown (g := w1.heap.size) (Row.alloc (row_new rfl) _) hg2 (fun e => absurd (own_lt hown1 _ e) (by omega)); have hc2 := hrw.cell 2; simp at hc2))
      go_roundw
      case rel => exact ⟨pre ++ [k], k + wd s k, by go_num, hp.step hlt, by rw [rowsC_snoc, List.length_append]; exact hown2, (((hb.trans (hb1.mono hz)).alloc (by omega) _).alloc (by simp; omega) _).grown hg2 (by simp; omega) (own_ge hown1)⟩
      case measure => simp [intOf]; omega
    · have hf := Lib.hid (hp.fin hlt)
      go_wp2
      go_ret
      refine ⟨⟨_, rfl, ?_⟩, hb⟩
      rw [← hf.out]; exact hown

end Go.Proofs.YtjaijlkonkgnmaaGreatDoor
