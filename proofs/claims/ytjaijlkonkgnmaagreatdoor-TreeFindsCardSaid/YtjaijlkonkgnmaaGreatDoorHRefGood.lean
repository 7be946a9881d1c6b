/- The walk of chapter 1's reference Good. -/
import Derived.Test.YtjaijlkonkgnmaaGreatDoorHRefRun
import Derived.Test.YtjaijlkonkgnmaaGreatDoorHBA
import Derived.Deep.DeepCutAuto
namespace Go.Proofs.YtjaijlkonkgnmaaGreatDoor
set_option linter.unusedVariables false
set_option linter.unusedSimpArgs false
set_option linter.unnecessarySimpa false
open Go.RowKit
attribute [local go_sem] cell_alloc_add cell_set_add lt_more
theorem rowsG_at (s : ByteArray) : ∀ (l : List Nat) (k p j : Nat), l[k]? = some p → j < 4 → (rowsC s l)[k * 4 + j]? = (rowC s p)[j]? := by
  intro l
  induction l with
  | nil => intro k p j h _; simp at h
  | cons a l ih =>
    intro k p j h hj
    have e : rowsC s (a :: l) = rowC s a ++ rowsC s l := by simp [rowsC]
    have hl : (rowC s a).length = 4 := rfl
    rw [e]
    cases k with
    | zero => simp at h; subst h; rw [List.getElem?_append_left (by omega)]; simp
    | succ k => simp at h; rw [List.getElem?_append_right (by omega), hl, show (k + 1) * 4 + j - 4 = k * 4 + j by omega]; exact ih k p j h hj
/-- A row of the reference's rows, read: is the k-th one good? -/
theorem rows_good {w : World} {B : Nat} {v : Value} {s : ByteArray} (hown : w.ownsRow B 102 4 v (places s).length (rowsC s (places s))) :
    ∃ A c, v = .slice A (places s).length c ∧ ∀ k p, (places s)[k]? = some p → ∃ g, A = some ⟨g, 0, none⟩ ∧ g < w.heap.size ∧ w.cell? ⟨g, k * 4 + 3, none⟩ = some (.bool (gd s p)) := by
  rcases hown.2 with ⟨rfl, h0⟩ | ⟨g, cap, cur, rfl, _⟩
  · exact ⟨none, 0, by rw [h0], fun k p hk => by
      have := (List.getElem?_eq_some_iff.1 hk).1; omega⟩
  · refine ⟨_, _, rfl, fun k p hp => ⟨g, rfl, own_lt hown g rfl, ?_⟩⟩
    have := hown.cells (g := g) rfl (k * 4 + 3) (.bool (gd s p)) (by rw [rowsG_at s _ k p 3 hp (by omega)]; rfl)
    rwa [add_row, Nat.zero_add] at this
/-- Are the first k runes good? -/
def goodTo (s : ByteArray) (k : Nat) : Bool := ((places s).take k).all (gd s)
theorem goodTo_step {s : ByteArray} {k p : Nat} (h : (places s)[k]? = some p) (hg : gd s p = true) (ht : goodTo s k = true) : goodTo s (k + 1) = true := by
  unfold goodTo at *
  rw [List.take_add_one, h, List.all_append, ht]
  simp [hg]
theorem good_bad {s : ByteArray} {k p : Nat} (h : (places s)[k]? = some p) (hg : gd s p = false) : good s = false := by
  unfold good
  rw [List.all_eq_false]
  exact ⟨p, List.mem_of_getElem? h, by simp [hg]⟩
theorem good_fin {s : ByteArray} (h : goodTo s (places s).length = true) : good s = true := by
  unfold goodTo at h
  rwa [List.take_length] at h
set_option maxRecDepth 100000 in
set_option maxHeartbeats 4000000 in
theorem rGood_any (s : ByteArray) (hs : s.size ≤ 1099511627776) (w : World) :
    Calls Tryz.prog 83 #[.string s] w fun e w' => e = .returned (.bool (good s)) ∧ Below w.heap.size w w' := by
  have kb := fun (w : World) (x : ByteArray) => run_bytes_of_string (P := Tryz.prog) w 9 87 5 x Tryz.underlying9 Tryz.underlying87 Tryz.underlying5
  have hls := places_len s
  go_enter Tryz.func83, Tryz.ntmps83
  go_upto_region 2 with (first | (go_at_call 100; (with_reducible refine (rRunes_any s (some ⟨w.heap.size, 0, none⟩) _ hs (grownCap_ge _ _ _ _) _ (by simp) (rd_row w s _ _ _).drew).mono ?_); rintro e w1 ⟨⟨v, rfl, hown⟩, hb1⟩))
  obtain ⟨A, c, rfl, hr⟩ := rows_good hown
  have hb : Below w.heap.size w w1 := ((Below.refl _ w).alloc (Nat.le_refl _) _).drew.trans (hb1.mono (by simp))
  have HR := Lib.hid hr
  clear hr hown hb1 kb
  have HN : Hid ((places s).length = (places s).length) := Lib.hid rfl
  go_wp2
  go_loop [4] (fun i => ∃ k : Nat, k ≤ (places s).length ∧ i = .int .i64 k ∧ goodTo s k = true) (fun i => (places s).length - (intOf i).toNat)
  case atStart => exact ⟨0, Nat.zero_le _, rfl, rfl⟩
  case round =>
    obtain ⟨k, hk, rfl, hg⟩ := hrel
    have HG := Lib.hid hg
    clear hg
    by_cases hlt : k < (places s).length
    · obtain ⟨p, hp⟩ : ∃ p, (places s)[k]? = some p := ⟨_, List.getElem?_eq_getElem hlt⟩
      obtain ⟨g, rfl, l1, c1⟩ := HR.out k p hp
      have HP := Lib.hid hp
      clear hp
      cases hgd : gd s p
      · have HD := Lib.hid hgd
        rw [hgd] at c1
        clear hgd
        go_wp2
        go_ret
        exact ⟨by rw [good_bad HP.out HD.out]; rfl, hb⟩
      · have HD := Lib.hid hgd
        rw [hgd] at c1
        clear hgd
        go_wp2
        go_round
        case rel => exact ⟨k + 1, by omega, by go_num, goodTo_step HP.out HD.out HG.out⟩
        case measure => simp [intOf]; omega
    · obtain rfl : k = (places s).length := by omega
      go_wp2
      go_ret
      exact ⟨by rw [good_fin HG.out]; rfl, hb⟩
end Go.Proofs.YtjaijlkonkgnmaaGreatDoor
