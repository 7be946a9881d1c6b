/- The walks of chapter 14's Binary of the program, operator by operator. -/
import Derived.Test.YtkfpomkfgdkjdaaDoorW4
import Derived.Test.YtkfpomkfgdkjdaaDoorAr2
import Derived.Deep.DeepCutAuto
import Derived.Deep.RegionWith
import Derived.Deep.RegionHeld3
namespace Go.Proofs.YtkfpomkfgdkjdaaDoor
set_option linter.unusedVariables false
set_option linter.unusedSimpArgs false
open Go.RowKit
theorem valEq (k n k' n' : Int) (s s' : ByteArray) (w : World) : (Op.equalIn 10000 23 (.agg #[.int .i64 k, .int .i64 n, .string s]) (.agg #[.int .i64 k', .int .i64 n', .string s'])).run Tryd.prog w = .ok ((k == k') && (n == n') && (s.toList == s'.toList)) w := by
  have u3 := Tryd.underlying3
  have a3 := Tryd.isAgg3
  have z3 := Tryd.sizeOf3
  have u9 := Tryd.underlying9
  have a9 := Tryd.isAgg9
  have z9 := Tryd.sizeOf9
  have hS : Tryd.prog.underlying 23 = some (.struct (Tryd.prog.fieldsOf 23)) := by kernel_rfl
  rw [show (10000 : Nat) = 9999 + 1 from rfl, run_equalIn_agg w 9999 23 _ _ hS (by kernel_rfl)]
  simp only [Program.fieldsOf, Tryd.underlying23]
  go_simp
  by_cases h1 : k = k' <;> by_cases h2 : n = n' <;> by_cases h3 : s.toList = s'.toList <;> simp [h1, h2, h3]
abbrev cellsOf (v : V) : Array Value := #[.int .i64 v.k, .int .i64 v.n, .string v.s]
/-- An answer that is not yet written. -/
abbrev zeroO : Array Value := #[.int .i64 0, .int .i64 0, .string ⟨#[]⟩, .string ⟨#[]⟩, .int .i64 0]
def Kept (a b : V) (w wc : World) : Prop :=
  Row wc w.heap.size 23 (cellsOf (sane a)) ∧ Row wc (w.heap.size + 1) 23 (cellsOf (sane b)) ∧ Row wc (w.heap.size + 1 + 1) 23 (cellsOf vu) ∧ Below w.heap.size w wc
theorem kept_fin (a b : V) (w : World) {w1 w2 : World} (h2 : Below (w.heap.size + 3) w1 w2)
    (h1 : Below (w.heap.size + 3) (((w.alloc (.cells (cellsOf a) 23)).alloc (.cells (cellsOf b) 23)).alloc (.cells #[.int .i64 0, .int .i64 0, .string ⟨#[]⟩] 23)).drew w1) :
    Kept a b w ((((((w2.setCell ⟨w.heap.size, 0, none⟩ (.int .i64 (sane a).k)).setCell ⟨w.heap.size, 1, none⟩ (.int .i64 (sane a).n)).setCell ⟨w.heap.size, 2, none⟩ (.string (sane a).s)).setCell ⟨w.heap.size + 1, 0, none⟩ (.int .i64 (sane b).k)).setCell ⟨w.heap.size + 1, 1, none⟩ (.int .i64 (sane b).n)).setCell ⟨w.heap.size + 1, 2, none⟩ (.string (sane b).s)) := by
  have r1 := (((Row.new w 23 (cellsOf a)).alloc (.cells (cellsOf b) 23)).alloc (.cells #[.int .i64 0, .int .i64 0, .string ⟨#[]⟩] 23)).drew
  have r2 := ((Row.new (w.alloc (.cells (cellsOf a) 23)) 23 (cellsOf b)).alloc (.cells #[.int .i64 0, .int .i64 0, .string ⟨#[]⟩] 23)).drew
  have r3 := (Row.new ((w.alloc (.cells (cellsOf a) 23)).alloc (.cells (cellsOf b) 23)) 23 #[.int .i64 0, .int .i64 0, .string ⟨#[]⟩]).drew
  rw [World.size_alloc] at r2 r3
  rw [World.size_alloc] at r3
  have q1 := (r1.below h1 (by omega)).below h2 (by omega)
  have q2 := (r2.below h1 (by omega)).below h2 (by omega)
  have q3 := (r3.below h1 (by omega)).below h2 (by omega)
  have hB : Below w.heap.size w w2 := ((((((Below.refl _ w).alloc (Nat.le_refl _) _).alloc (by simp) _).alloc (by simp; omega) _).drew).trans (h1.mono (by omega))).trans (h2.mono (by omega))
  refine ⟨?_, ?_, ?_, (((((hB.setCell (by simp) _).setCell (by simp) _).setCell (by simp) _).setCell (by simp) _).setCell (by simp) _).setCell (by simp) _⟩
  · exact (((q1.put3).far (by simp <;> omega) _).far (by simp <;> omega) _).far (by simp <;> omega) _
  · exact (((q2.far (by simp <;> omega) _).far (by simp <;> omega) _).far (by simp <;> omega) _).put3
  · exact (((((q3.far (by simp <;> omega) _).far (by simp <;> omega) _).far (by simp <;> omega) _).far (by simp <;> omega) _).far (by simp <;> omega) _).far (by simp <;> omega) _

theorem plus_fin {w w1 w2 wc : World} (r3 : Row wc (w.heap.size + 1 + 1) 23 (cellsOf vu)) (b0 : Below w.heap.size w wc) (h2 : Below (w.heap.size + 3) w1 w2) (h1 : Below (w.heap.size + 3) wc.drew w1) :
    Row w2 (w.heap.size + 1 + 1) 23 (cellsOf vu) ∧ Below w.heap.size w w2 :=
  ⟨(r3.drew.below h1 (by omega)).below h2 (by omega), (b0.drew.trans (h1.mono (by omega))).trans (h2.mono (by omega))⟩
theorem nfn1 (fn : Fn) (f c : Array Value) (w : World) : (binOp .neq 51 (.func fn f c) .nilFunc).run Tryd.prog w = .ok (.bool true) w := by
  kernel_rfl
theorem nfn2 (w : World) : (binOp .neq 51 .nilFunc .nilFunc).run Tryd.prog w = .ok (.bool false) w := by
  kernel_rfl
theorem nfn3 (fn : Fn) (f c : Array Value) (w : World) : (binOp .neq 54 (.func fn f c) .nilFunc).run Tryd.prog w = .ok (.bool true) w := by
  kernel_rfl
theorem nfn4 (w : World) : (binOp .neq 54 .nilFunc .nilFunc).run Tryd.prog w = .ok (.bool false) w := by
  kernel_rfl
attribute [local go_sem] nfn1 nfn2 nfn3 nfn4


theorem rem_all (a b : Int) (w : World) (ha : -9007199254740991 ≤ a ∧ a ≤ 9007199254740991) :
    Calls Tryd.prog 53 #[.int .i64 a, .int .i64 b] w fun e w' => e = .returned (.tuple #[.int .i64 (fRem a b).1, .bool (fRem a b).2]) ∧ w' = w := by
  by_cases h : b = 0
  · subst h; exact (rem_none a w).mono fun e w' ⟨he, hw⟩ => ⟨by rw [he]; rfl, hw⟩
  · exact (rem_any a b w h ha).mono fun e w' ⟨he, hw⟩ => ⟨by rw [he]; unfold fRem; rw [if_neg h], hw⟩
end Go.Proofs.YtkfpomkfgdkjdaaDoor
