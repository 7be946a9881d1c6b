/- The walk of LexSplits. -/
import Derived.Test.YtdlppdoankeilaaKnown
import Derived.Test.YtdlppdoankeilaaSplit
namespace Go.Proofs.Ytdlppdoankeilaa
set_option linter.unusedVariables false
set_option linter.unusedSimpArgs false
set_option linter.unnecessarySimpa false
open Go.RowKit
attribute [local go_sem] cell_alloc_add cell_set_add lt_more
set_option maxRecDepth 100000 in
set_option maxHeartbeats 4000000 in
theorem LexSplits_any (k a e : Int) (x : ByteArray) (hx : x.size ≤ maxLen) (w : World) (hm : Mx w) : Calls Try.prog 8 #[.agg #[.int .i64 k, .string x, .int .i64 a, .int .i64 e]] w fun r w' => r = .returned (.bool true) ∧ Below w.heap.size w w' := by
  have h0 : 0 < w.heap.size := by obtain ⟨y, hy⟩ := hm; exact Nat.lt_of_le_of_lt (Nat.zero_le _) (World.block_lt_of_cell? w ⟨0, 0, none⟩ hy)
  have HS := Lib.hid (fun W => Split_any k a e x hx W)
  have HR := Lib.hid (fun W => rSplit_any k a e x hx W)
  have HK := Lib.hid (fun W (hb : Below w.heap.size w W) => known_any W (hm.below hb h0))
  obtain ⟨sb, hsb⟩ : ∃ sb, sb = (splitT k x a e).2 := ⟨_, rfl⟩
  obtain ⟨k1, x1, a1, e1, hst⟩ : ∃ k1 x1 a1 e1, (splitT k x a e).1 = tokV k1 x1 a1 e1 := by unfold splitT; split <;> exact ⟨_, _, _, _, rfl⟩
  rw [← hsb, hst] at HS HR
  unfold tokV at HS HR
  clear hsb hst
  go_enter Try.func8, Try.ntmps8
  go_wp2_with (first
    | (go_at_call 20; (with_reducible refine (HS.out _).mono ?_); rintro e w1 ⟨rfl, b1⟩; have z1 := Below.size b1; have r1 := Row.below (row_new rfl) b1 (by simp); have n1 := r1.lt; have y0 := r1.cell 0; have y1 := r1.cell 1; have y2 := r1.cell 2; have y3 := r1.cell 3; simp at y0 y1 y2 y3)
    | (go_at_call 21; (with_reducible refine (HR.out _).mono ?_); rintro e w2 ⟨rfl, b2⟩; have z2 := Below.size b2; have r2 := Row.below (row_new rfl) b2 (by simp); have n2 := r2.lt; have v0 := r2.cell 0; have v1 := r2.cell 1; have v2 := r2.cell 2; have v3 := r2.cell 3; simp at v0 v1 v2 v3)
    | (go_at_call 15; (with_reducible refine (HK.out _ (by (repeat (first | (with_reducible exact Below.refl _ _) | (with_reducible assumption) | (with_reducible refine Below.setCell ?_ (by first | omega | (simp <;> omega)) _) | (with_reducible refine Below.alloc ?_ (by first | omega | (simp <;> omega)) _) | (with_reducible refine Below.drew ?_) | (with_reducible refine below_drewN ?_ _) | (with_reducible refine Below.trans ?_ (Below.mono (by with_reducible assumption) (by first | omega | (simp <;> omega)))))))).mono ?_); rintro e w3 ⟨rfl, b3⟩; have z3 := Below.size b3))
  all_goals (refine bodyPost_ret (v := .bool true) (by simp [results, Try.results8, go_sem]) rfl ⟨rfl, (by (repeat (first | (with_reducible exact Below.refl _ _) | (with_reducible assumption) | (with_reducible refine Below.setCell ?_ (by first | omega | (simp <;> omega)) _) | (with_reducible refine Below.alloc ?_ (by first | omega | (simp <;> omega)) _) | (with_reducible refine Below.drew ?_) | (with_reducible refine below_drewN ?_ _) | (with_reducible refine Below.trans ?_ (Below.mono (by with_reducible assumption) (by first | omega | (simp <;> omega)))))))⟩)
end Go.Proofs.Ytdlppdoankeilaa
