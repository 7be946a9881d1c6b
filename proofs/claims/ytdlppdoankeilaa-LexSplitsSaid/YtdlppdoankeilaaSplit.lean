/- The walks of chapter 2's Split, of the program and of the reference. -/
import Derived.Test.YtdlppdoankeilaaLexW1
import Derived.Test.YtdlppdoankeilaaWin
namespace Go.Proofs.Ytdlppdoankeilaa
set_option linter.unusedVariables false
set_option linter.unusedSimpArgs false
set_option linter.unnecessarySimpa false
open Go.RowKit
attribute [local go_sem] cell_alloc_add cell_set_add lt_more
def tokV (k : Int) (x : ByteArray) (a e : Int) : Array Value := #[.int .i64 k, .string x, .int .i64 a, .int .i64 e]
/-- A sign that is more than one byte and begins with '>', less that byte. -/
def splits (k : Int) (x : ByteArray) : Bool := decide (k = 9) && decide (2 ≤ x.size) && decide (bt x 0 = 62)
def splitT (k : Int) (x : ByteArray) (a e : Int) : Array Value × Bool := if splits k x = true then (tokV 9 (x.extract 1 x.size) (wrap64 (a + 1)) e, true) else (tokV 0 ⟨#[]⟩ 0 0, false)
set_option maxRecDepth 100000 in
set_option maxHeartbeats 4000000 in
theorem Split_any (k a e : Int) (x : ByteArray) (hx : x.size ≤ maxLen) (w : World) : Calls Try.prog 20 #[.agg #[.int .i64 k, .string x, .int .i64 a, .int .i64 e]] w fun r w' => r = .returned (.tuple #[.agg (splitT k x a e).1, .bool (splitT k x a e).2]) ∧ Below w.heap.size w w' := by
  have hno : ∀ h : ¬ splits k x = true, Hid (splitT k x a e = (tokV 0 ⟨#[]⟩ 0 0, false)) := fun h => Lib.hid (if_neg h)
  by_cases k9 : k = 9
  · subst k9
    by_cases h2 : 2 ≤ x.size
    · have h2' : ((x.size : Int) < 2) = False := by simp; omega
      obtain ⟨c, hc⟩ : ∃ c, c = bt x 0 := ⟨_, rfl⟩
      have hi : ∀ (W : World), (Instr.index 9 (.string x) (.int .i64 0)).run Try.prog W = .ok (.int .u8 (c : Int)) W := fun W => by rw [run_index_string W 9 x .i64 0 Try.underlying9, dif_pos ⟨by omega, by omega⟩, hc, ← get_bt x 0 (by omega)]; rfl
      by_cases h62 : bt x 0 = 62
      · have HS : Hid (splitT 9 x a e = (tokV 9 (x.extract 1 x.size) (wrap64 (a + 1)) e, true)) := Lib.hid (if_pos (by simp [splits, h2, h62]))
        have hc1 : c = 62 := by rw [hc]; exact h62
        subst hc1
        clear h62 hno hc
        go_enter Try.func20, Try.ntmps20
        go_wp2
        go_region
        go_wp2
        all_goals (refine bodyPost_ret (v := .tuple #[.agg (splitT 9 x a e).1, .bool (splitT 9 x a e).2]) (by simp [results, Try.results20, go_sem, HS.out, tokV, *]) rfl ⟨rfl, (by (repeat (first | (with_reducible exact Below.refl _ _) | (with_reducible assumption) | (with_reducible refine Below.setCell ?_ (by first | omega | (simp <;> omega)) _) | (with_reducible refine Below.alloc ?_ (by first | omega | (simp <;> omega)) _) | (with_reducible refine Below.drew ?_) | (with_reducible refine below_drewN ?_ _) | (with_reducible refine Below.trans ?_ (Below.mono (by with_reducible assumption) (by first | omega | (simp <;> omega)))))))⟩)
      · have HS := hno (by simp [splits, h62])
        have hc1 : ((c : Int) != 62) = true := by simp; omega
        clear hno hc
        go_enter Try.func20, Try.ntmps20
        go_wp2
        all_goals (refine bodyPost_ret (v := .tuple #[.agg (splitT 9 x a e).1, .bool (splitT 9 x a e).2]) (by simp [results, Try.results20, go_sem, HS.out, tokV, *]) rfl ⟨rfl, (by (repeat (first | (with_reducible exact Below.refl _ _) | (with_reducible assumption) | (with_reducible refine Below.setCell ?_ (by first | omega | (simp <;> omega)) _) | (with_reducible refine Below.alloc ?_ (by first | omega | (simp <;> omega)) _) | (with_reducible refine Below.drew ?_) | (with_reducible refine below_drewN ?_ _) | (with_reducible refine Below.trans ?_ (Below.mono (by with_reducible assumption) (by first | omega | (simp <;> omega)))))))⟩)
    · have HS := hno (by simp [splits, h2])
      have h2' : ((x.size : Int) < 2) = True := by simp; omega
      clear hno
      go_enter Try.func20, Try.ntmps20
      go_wp2
      all_goals (refine bodyPost_ret (v := .tuple #[.agg (splitT 9 x a e).1, .bool (splitT 9 x a e).2]) (by simp [results, Try.results20, go_sem, HS.out, tokV, *]) rfl ⟨rfl, (by (repeat (first | (with_reducible exact Below.refl _ _) | (with_reducible assumption) | (with_reducible refine Below.setCell ?_ (by first | omega | (simp <;> omega)) _) | (with_reducible refine Below.alloc ?_ (by first | omega | (simp <;> omega)) _) | (with_reducible refine Below.drew ?_) | (with_reducible refine below_drewN ?_ _) | (with_reducible refine Below.trans ?_ (Below.mono (by with_reducible assumption) (by first | omega | (simp <;> omega)))))))⟩)
  · have HS := hno (by simp [splits, k9])
    have k9' : (k != 9) = true := by simpa using k9
    clear hno
    go_enter Try.func20, Try.ntmps20
    go_wp2
    all_goals (refine bodyPost_ret (v := .tuple #[.agg (splitT k x a e).1, .bool (splitT k x a e).2]) (by simp [results, Try.results20, go_sem, HS.out, tokV, *]) rfl ⟨rfl, (by (repeat (first | (with_reducible exact Below.refl _ _) | (with_reducible assumption) | (with_reducible refine Below.setCell ?_ (by first | omega | (simp <;> omega)) _) | (with_reducible refine Below.alloc ?_ (by first | omega | (simp <;> omega)) _) | (with_reducible refine Below.drew ?_) | (with_reducible refine below_drewN ?_ _) | (with_reducible refine Below.trans ?_ (Below.mono (by with_reducible assumption) (by first | omega | (simp <;> omega)))))))⟩)
set_option maxRecDepth 100000 in
set_option maxHeartbeats 4000000 in
theorem rSplit_any (k a e : Int) (x : ByteArray) (hx : x.size ≤ maxLen) (w : World) : Calls Try.prog 21 #[.agg #[.int .i64 k, .string x, .int .i64 a, .int .i64 e]] w fun r w' => r = .returned (.tuple #[.agg (splitT k x a e).1, .bool (splitT k x a e).2]) ∧ Below w.heap.size w w' := by
  have hno : ∀ h : ¬ splits k x = true, Hid (splitT k x a e = (tokV 0 ⟨#[]⟩ 0 0, false)) := fun h => Lib.hid (if_neg h)
  by_cases k9 : k = 9
  · subst k9
    by_cases h2 : 2 ≤ x.size
    · have h2' : ((x.size : Int) < 2) = False := by simp; omega
      obtain ⟨c, hc⟩ : ∃ c, c = bt x 0 := ⟨_, rfl⟩
      have hi : ∀ (W : World), (Instr.index 9 (.string x) (.int .i64 0)).run Try.prog W = .ok (.int .u8 (c : Int)) W := fun W => by rw [run_index_string W 9 x .i64 0 Try.underlying9, dif_pos ⟨by omega, by omega⟩, hc, ← get_bt x 0 (by omega)]; rfl
      by_cases h62 : bt x 0 = 62
      · have HS : Hid (splitT 9 x a e = (tokV 9 (x.extract 1 x.size) (wrap64 (a + 1)) e, true)) := Lib.hid (if_pos (by simp [splits, h2, h62]))
        have hc1 : c = 62 := by rw [hc]; exact h62
        subst hc1
        clear h62 hno hc
        go_enter Try.func21, Try.ntmps21
        go_wp2
        go_region
        go_wp2
        all_goals (refine bodyPost_ret (v := .tuple #[.agg (splitT 9 x a e).1, .bool (splitT 9 x a e).2]) (by simp [results, Try.results21, go_sem, HS.out, tokV, *]) rfl ⟨rfl, (by (repeat (first | (with_reducible exact Below.refl _ _) | (with_reducible assumption) | (with_reducible refine Below.setCell ?_ (by first | omega | (simp <;> omega)) _) | (with_reducible refine Below.alloc ?_ (by first | omega | (simp <;> omega)) _) | (with_reducible refine Below.drew ?_) | (with_reducible refine below_drewN ?_ _) | (with_reducible refine Below.trans ?_ (Below.mono (by with_reducible assumption) (by first | omega | (simp <;> omega)))))))⟩)
      · have HS := hno (by simp [splits, h62])
        have hc1 : ((c : Int) != 62) = true := by simp; omega
        clear hno hc
        go_enter Try.func21, Try.ntmps21
        go_wp2
        all_goals (refine bodyPost_ret (v := .tuple #[.agg (splitT 9 x a e).1, .bool (splitT 9 x a e).2]) (by simp [results, Try.results21, go_sem, HS.out, tokV, *]) rfl ⟨rfl, (by (repeat (first | (with_reducible exact Below.refl _ _) | (with_reducible assumption) | (with_reducible refine Below.setCell ?_ (by first | omega | (simp <;> omega)) _) | (with_reducible refine Below.alloc ?_ (by first | omega | (simp <;> omega)) _) | (with_reducible refine Below.drew ?_) | (with_reducible refine below_drewN ?_ _) | (with_reducible refine Below.trans ?_ (Below.mono (by with_reducible assumption) (by first | omega | (simp <;> omega)))))))⟩)
    · have HS := hno (by simp [splits, h2])
      have h2' : ((x.size : Int) < 2) = True := by simp; omega
      clear hno
      go_enter Try.func21, Try.ntmps21
      go_wp2
      all_goals (refine bodyPost_ret (v := .tuple #[.agg (splitT 9 x a e).1, .bool (splitT 9 x a e).2]) (by simp [results, Try.results21, go_sem, HS.out, tokV, *]) rfl ⟨rfl, (by (repeat (first | (with_reducible exact Below.refl _ _) | (with_reducible assumption) | (with_reducible refine Below.setCell ?_ (by first | omega | (simp <;> omega)) _) | (with_reducible refine Below.alloc ?_ (by first | omega | (simp <;> omega)) _) | (with_reducible refine Below.drew ?_) | (with_reducible refine below_drewN ?_ _) | (with_reducible refine Below.trans ?_ (Below.mono (by with_reducible assumption) (by first | omega | (simp <;> omega)))))))⟩)
  · have HS := hno (by simp [splits, k9])
    have k9' : (k != 9) = true := by simpa using k9
    clear hno
    go_enter Try.func21, Try.ntmps21
    go_wp2
    all_goals (refine bodyPost_ret (v := .tuple #[.agg (splitT k x a e).1, .bool (splitT k x a e).2]) (by simp [results, Try.results21, go_sem, HS.out, tokV, *]) rfl ⟨rfl, (by (repeat (first | (with_reducible exact Below.refl _ _) | (with_reducible assumption) | (with_reducible refine Below.setCell ?_ (by first | omega | (simp <;> omega)) _) | (with_reducible refine Below.alloc ?_ (by first | omega | (simp <;> omega)) _) | (with_reducible refine Below.drew ?_) | (with_reducible refine below_drewN ?_ _) | (with_reducible refine Below.trans ?_ (Below.mono (by with_reducible assumption) (by first | omega | (simp <;> omega)))))))⟩)
end Go.Proofs.Ytdlppdoankeilaa
