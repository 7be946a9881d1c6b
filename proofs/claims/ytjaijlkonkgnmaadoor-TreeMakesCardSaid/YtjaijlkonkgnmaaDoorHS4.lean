/- The walk of the program's said: texts and numbers. -/
import Derived.Test.YtjaijlkonkgnmaaDoorHBF
import Derived.Test.YtjaijlkonkgnmaaDoorHBD
import Derived.Test.YtjaijlkonkgnmaaDoorHBC
namespace Go.Proofs.YtjaijlkonkgnmaaDoor
set_option linter.unusedVariables false
set_option linter.unusedSimpArgs false
set_option linter.unnecessarySimpa false
open Go.RowKit
attribute [local go_sem] cell_alloc_add cell_set_add lt_more
def unW : ByteArray := ⟨#[33, 32, 45, 32, 126, 32, 116, 121, 112, 101, 111, 102]⟩
def biW : ByteArray := ⟨#[124, 124, 32, 38, 38, 32, 124, 32, 94, 32, 38, 32, 61, 61, 61, 32, 33, 61, 61, 32, 60, 32, 60, 61, 32, 62, 32, 62, 61, 32, 105, 110, 32, 60, 60, 32, 62, 62, 32, 62, 62, 62, 32, 43, 32, 45, 32, 42, 32, 37]⟩
def asW : ByteArray := ⟨#[61, 32, 43, 61, 32, 45, 61, 32, 42, 61, 32, 37, 61]⟩
theorem emp_eqS (s : ByteArray) : s.toList.isEmpty = s.data.toList.isEmpty := by rw [ByteArray.toList_eq]
theorem not4p {m : Int} (hm : -9223372036854775808 ≤ m ∧ m ≤ 9223372036854775807) : (bits .andNot .i64 m 4 = 0) = (m = 0 ∨ m = 4) := by
  have h := not4 hm
  rw [Bool.eq_iff_iff] at h
  simp only [beq_iff_eq, Bool.or_eq_true] at h
  exact propext h
theorem not7p {m : Int} (hm : -9223372036854775808 ≤ m ∧ m ≤ 9223372036854775807) : (bits .andNot .i64 m 7 = 0) = (0 ≤ m ∧ m ≤ 7) := by
  have h := not7 hm
  rw [Bool.eq_iff_iff] at h
  simp only [beq_iff_eq, Bool.and_eq_true, decide_eq_true_eq] at h
  exact propext h
theorem half0 (m : Int) : (m / 2 = 0) = (m = 0 ∨ m = 1) := propext (by omega)
theorem emp_eqP (s : ByteArray) : (s.toList = []) = (s.data.toList = []) := by rw [ByteArray.toList_eq]
set_option maxRecDepth 100000 in
set_option maxHeartbeats 16000000 in
theorem said_any (k m p : Int) (x : ByteArray) (hx : x.size ≤ 4000000) (hw64 : -9223372036854775808 ≤ m ∧ m ≤ 9223372036854775807) (K : Option Addr) (n kc : Nat) (w : World) (hm : Mx w) (hw00 : 0 < w.heap.size) :
    Calls Tryd.prog 33 #[.agg #[.int .i64 k, .string x, .int .i64 m, .slice K n kc, .int .i64 p]] w fun e w' => e = .returned (.bool (textK k x && numK k m)) ∧ Below w.heap.size w w' := by
  have HT := Lib.hid (show textK k x = if k = 11 ∨ k = 82 then good x else if namesK k = true then isName x.data.toList else if k = 23 then inS x.data.toList unaries else if k = 24 then inS x.data.toList binaries else if k = 26 then inS x.data.toList assigns else if k = 80 then dottedB x.data.toList || constB x else x.data.toList.isEmpty from rfl)
  have HN := Lib.hid (show numK k m = if k = 10 then decide (0 ≤ m) && decide (m ≤ 9007199254740991) else if k = 81 then decide (-9007199254740991 ≤ m) && decide (m ≤ 9007199254740991) else if k = 40 ∨ k = 47 ∨ k = 56 ∨ k = 85 then m == 0 || m == 1 else if k = 44 then m == 0 || m == 4 else if k = 66 then decide (0 ≤ m) && decide (m ≤ 7) else m == 0 from rfl)
  generalize textK k x = R1 at *
  generalize numK k m = R2 at *
  go_enter Tryd.func33, Tryd.ntmps33
  go_upto_region 1 with fail
  obtain ⟨wa, hwa⟩ : ∃ wa : World, wa = w.alloc (.cells #[.int .i64 k, .string x, .int .i64 m, .slice K n kc, .int .i64 p] 24) := ⟨_, rfl⟩
  have a0 : wa.cell? ⟨w.heap.size, 0, none⟩ = some (.int .i64 k) := by rw [hwa]; simp [World.cell?_alloc_mark]
  have a1 : wa.cell? ⟨w.heap.size, 1, none⟩ = some (.string x) := by rw [hwa]; simp [World.cell?_alloc_mark]
  have a2 : wa.cell? ⟨w.heap.size, 2, none⟩ = some (.int .i64 m) := by rw [hwa]; simp [World.cell?_alloc_mark]
  have bx : Below w.heap.size w wa := by rw [hwa]; (repeat (first | (with_reducible exact Below.refl _ _) | (with_reducible assumption) | (with_reducible refine Below.setCell ?_ (by first | omega | (simp <;> omega)) _) | (with_reducible refine Below.alloc ?_ (by first | omega | (simp <;> omega)) _) | (with_reducible refine Below.drew ?_) | (with_reducible refine below_drewN ?_ _) | (with_reducible refine Below.trans ?_ (Below.mono (by with_reducible assumption) (by first | omega | (simp <;> omega))))))
  have zx := Below.size bx
  have hma := hm.below bx hw00
  have HGo := Lib.hid (good_any x (by omega) wa)
  have HNa := Lib.hid (Name_any x hx wa hma)
  have HPa := Lib.hid (path_any x hx wa hma (by omega))
  have HA1 := Lib.hid (among_any x ⟨#[33, 32, 45, 32, 126, 32, 116, 121, 112, 101, 111, 102]⟩ unaries hx (by rfl) (by decide) (by decide) wa hma)
  have HA2 := Lib.hid (among_any x ⟨#[124, 124, 32, 38, 38, 32, 124, 32, 94, 32, 38, 32, 61, 61, 61, 32, 33, 61, 61, 32, 60, 32, 60, 61, 32, 62, 32, 62, 61, 32, 105, 110, 32, 60, 60, 32, 62, 62, 32, 62, 62, 62, 32, 43, 32, 45, 32, 42, 32, 37]⟩ binaries hx (by rfl) (by decide) (by decide) wa hma)
  have HA3 := Lib.hid (among_any x ⟨#[61, 32, 43, 61, 32, 45, 61, 32, 42, 61, 32, 37, 61]⟩ assigns hx (by rfl) (by decide) (by decide) wa hma)
  rw [← hwa]
  clear hwa hm hma
  go_wp2_with (first
    | (go_at_call 42; (with_reducible refine HGo.out.mono ?_); rintro e w1 ⟨rfl, b1⟩; have z1 := Below.size b1)
    | (go_at_call 45; (with_reducible refine HNa.out.mono ?_); rintro e w9 ⟨rfl, rfl⟩)
    | (go_at_call 44; (with_reducible refine HPa.out.mono ?_); rintro e w1 ⟨rfl, b1⟩; have z1 := Below.size b1)
    | (go_at_call 43; (with_reducible refine HA1.out.mono ?_); rintro e w9 ⟨rfl, rfl⟩)
    | (go_at_call 43; (with_reducible refine HA2.out.mono ?_); rintro e w9 ⟨rfl, rfl⟩)
    | (go_at_call 43; (with_reducible refine HA3.out.mono ?_); rintro e w9 ⟨rfl, rfl⟩)
    | fail)
  all_goals go_ret
  all_goals (refine ⟨ret_bool ?_, (by (repeat (first | (with_reducible exact Below.refl _ _) | (with_reducible assumption) | (with_reducible refine Below.setCell ?_ (by first | omega | (simp <;> omega)) _) | (with_reducible refine Below.alloc ?_ (by first | omega | (simp <;> omega)) _) | (with_reducible refine Below.drew ?_) | (with_reducible refine below_drewN ?_ _) | (with_reducible refine Below.trans ?_ (Below.mono (by with_reducible assumption) (by first | omega | (simp <;> omega)))))))⟩; (try simp only [beq_iff_eq, beq_eq_false_iff_ne, bne_iff_ne, bne_eq_false_iff_eq, ne_eq, decide_eq_true_eq, decide_eq_false_iff_not, Bool.and_eq_true, Bool.or_eq_true, Bool.not_eq_true, Bool.not_eq_false, Bool.false_eq_true, Decidable.not_not, Bool.not_eq_eq_eq_not, Bool.not_true, Bool.not_false] at *); rw [HT.out, HN.out]; first | (simp_all [namesK]; done) | (simp only [not4p hw64, not7p hw64, half0, emp_eqP, emp_eqS] at *; first | (simp_all [namesK]; done) | (simp_all [namesK]; omega) | (simp_all [namesK] <;> omega)) | fail)
end Go.Proofs.YtjaijlkonkgnmaaDoor
