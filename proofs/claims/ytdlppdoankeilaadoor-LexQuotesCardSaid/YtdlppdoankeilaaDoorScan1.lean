/- The walks of chapter 2's scanner: has, cut. -/
import Derived.Test.YtdlppdoankeilaaDoorLexP
import Derived.StillTailTactics
import Derived.Deep.QuietTactic
import Derived.BigQuiet
namespace Go.Proofs.YtdlppdoankeilaaDoor
set_option linter.unusedVariables false
set_option linter.unusedSimpArgs false
set_option linter.unnecessarySimpa false
open Go.RowKit
attribute [local go_sem] cell_alloc_add cell_set_add lt_more
/-- The scanner at g: its bytes, the byte it stands at, its brackets. -/
def Scn (w : World) (g : Nat) (A : Option Addr) (n c i : Nat) (hv : Value) : Prop := Row w g 63 #[.slice A n c, .int .i64 (i : Int), hv]
/-- Does a text stand here? -/
def hasB (s : ByteArray) (i : Nat) (x : ByteArray) : Bool := decide (i + x.size ≤ s.size) && decide (s.extract i (i + x.size) = x)
set_option maxRecDepth 100000 in
set_option maxHeartbeats 4000000 in
theorem has_any (s : ByteArray) (A : Option Addr) (c : Nat) (hs : s.size ≤ 4000000) (hcap : s.size ≤ c) (w : World) {B : Nat} (h : Rd w B A s.size (byteC s)) (g i : Nat) (hv : Value) (hg : Scn w g A s.size c i hv) (k : Nat) (hk : k ≤ 4000100) (x : ByteArray) (hx : 0 < x.size) (hx2 : x.size ≤ 100) :
    Calls Tryd.prog 40 #[.pointer (some ⟨g, 0, none⟩), .int .i64 (k : Int), .string x] w fun e w' => e = .returned (.bool (hasB s k x)) ∧ w' = w := by
  have z0 := hg.cell 0
  have fz0 := hg.free 0
  simp at z0
  by_cases hle : k + x.size ≤ s.size
  · obtain ⟨ad, rfl, hadB, ci⟩ := h k (by omega)
    have t1 : ((s.size : Int) - (k : Int) ≥ (x.size : Int)) = True := by simp; omega
    have kc : ∀ m, (convert 26 9 (.slice (some (ad.add k)) x.size m)).run Tryd.prog w = .ok (.string (s.extract k (k + x.size))) w := fun m => run_part (P := Tryd.prog) 26 9 5 Tryd.underlying26 Tryd.underlying5 Tryd.underlying9 h k x.size m hle
    clear ci
    by_cases hq : s.extract k (k + x.size) = x
    · have HB := Lib.hid (show hasB s k x = true by simp [hasB, hle, hq])
      rw [hq] at kc
      clear hq
      go_enter Tryd.func40, Tryd.ntmps40
      go_wp2
      go_ret
      exact ⟨by rw [HB.out]; rfl, rfl⟩
    · have HB := Lib.hid (show hasB s k x = false by simp [hasB, hle, hq])
      generalize s.extract k (k + x.size) = y at *
      have tq : (y.toList == x.toList) = false := by rw [str_eq]; exact decide_eq_false fun e => hq (ByteArray.ext (Array.toList_inj.1 e))
      go_enter Tryd.func40, Tryd.ntmps40
      go_wp2
      go_ret
      exact ⟨by rw [HB.out]; rfl, rfl⟩
  · have t1 : ((s.size : Int) - (k : Int) ≥ (x.size : Int)) = False := by simp; omega
    have HB := Lib.hid (show hasB s k x = false by simp [hasB, hle])
    go_enter Tryd.func40, Tryd.ntmps40
    go_wp2
    go_ret
    exact ⟨by rw [HB.out]; rfl, rfl⟩
set_option maxRecDepth 100000 in
set_option maxHeartbeats 4000000 in
/-- The token up to a byte. -/
theorem cut_any (s : ByteArray) (A : Option Addr) (c : Nat) (hs : s.size ≤ 4000000) (hcap : s.size ≤ c) (w : World) (h : Rd w w.heap.size A s.size (byteC s)) (g i : Nat) (hv : Value) (hg : Scn w g A s.size c i hv) (hi : i < s.size) (k : Int) (E : Nat) (hE : i ≤ E) (hE2 : E ≤ s.size) :
    Calls Tryd.prog 42 #[.pointer (some ⟨g, 0, none⟩), .int .i64 k, .int .i64 (E : Int)] w fun e w' => e = .returned (.agg (tokA ⟨k, s.extract i E, i, E⟩)) ∧ Below w.heap.size w w' := by
  have lz := hg.lt
  obtain ⟨ad, rfl, hadB, ci⟩ := h i hi
  have kc0 : ∀ (W : World) (m : Nat), Below w.heap.size w W → (convert 26 9 (.slice (some (ad.add i)) (E - i) m)).run Tryd.prog W = .ok (.string (s.extract i E)) W := fun W m hb => (by have hh := run_part (P := Tryd.prog) 26 9 5 Tryd.underlying26 Tryd.underlying5 Tryd.underlying9 (h.below hb) i (E - i) m (by omega); rwa [show i + (E - i) = E by omega] at hh)
  have HK := Lib.hid kc0
  clear ci h kc0
  generalize s.extract i E = tx at *
  go_enter Tryd.func42, Tryd.ntmps42
  go_upto_region 1 with (fail)
  obtain ⟨wo, hwo⟩ : ∃ wo : World, wo = w.alloc (.cells #[.int .i64 0, .string ⟨#[]⟩, .int .i64 0, .int .i64 0] 29) := ⟨_, rfl⟩
  rw [← hwo]
  have rz : Row wo w.heap.size 29 #[.int .i64 0, .string ⟨#[]⟩, .int .i64 0, .int .i64 0] := by rw [hwo]; exact row_new rfl
  have hbr : Below w.heap.size w wo := by rw [hwo]; (repeat (first | (with_reducible exact Below.refl _ _) | (with_reducible assumption) | (with_reducible refine Below.setCell ?_ (by first | omega | (simp <;> omega)) _) | (with_reducible refine Below.alloc ?_ (by first | omega | (simp <;> omega)) _) | (with_reducible refine Below.drew ?_) | (with_reducible refine below_drewN ?_ _) | (with_reducible refine Below.trans ?_ (Below.mono (by with_reducible assumption) (by first | omega | (simp <;> omega))))))
  clear hwo
  refine wp_region_still_tail 18 (by kernel_rfl) (by kernel_rfl) ?_
  simp only [List.take_succ_cons, List.take_zero, List.drop_succ_cons, List.drop_zero]
  obtain ⟨wd, hwd⟩ : ∃ wd : World, wd = { wo with drawn := wo.drawn + 1 } := ⟨_, rfl⟩
  rw [← hwd]
  replace rz : Row wd w.heap.size 29 #[.int .i64 0, .string ⟨#[]⟩, .int .i64 0, .int .i64 0] := by rw [hwd]; exact rz
  replace hbr : Below w.heap.size w wd := by rw [hwd]; exact hbr.drew
  clear hwd
  have rg := Row.below hg hbr lz
  have kc := fun m => HK.out wd m hbr
  have z0 := rg.cell 0
  have z1 := rg.cell 1
  have fz0 := rg.free 0
  have fz1 := rg.free 1
  simp at z0 z1
  have y0 := rz.cell 0
  have y1 := rz.cell 1
  have y2 := rz.cell 2
  have y3 := rz.cell 3
  have fy0 := rz.free 0
  have fy1 := rz.free 1
  have fy2 := rz.free 2
  have fy3 := rz.free 3
  have ly := rz.lt
  have hEc : E ≤ c := by omega
  have hci : (c = i) = False := by simp; omega
  repeat still_step
  refine wpStill_nil ?_
  go_wp2
  exact bodyPost_ret (v := .agg (tokA ⟨k, tx, i, E⟩)) (by simp [results, Tryd.results42, go_sem, tokA, *]) rfl ⟨rfl, (by (repeat (first | (with_reducible exact Below.refl _ _) | (with_reducible assumption) | (with_reducible refine Below.setCell ?_ (by first | omega | (simp <;> omega)) _) | (with_reducible refine Below.alloc ?_ (by first | omega | (simp <;> omega)) _) | (with_reducible refine Below.drew ?_) | (with_reducible refine below_drewN ?_ _) | (with_reducible refine Below.trans ?_ (Below.mono (by with_reducible assumption) (by first | omega | (simp <;> omega)))))))⟩
end Go.Proofs.YtdlppdoankeilaaDoor
