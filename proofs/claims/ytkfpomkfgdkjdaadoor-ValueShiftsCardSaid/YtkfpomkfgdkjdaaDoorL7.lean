/- The walk of chapter 14's law ValueShifts. -/
import Derived.Test.YtkfpomkfgdkjdaaDoorL4
import Derived.Test.YtkfpomkfgdkjdaaDoorBinShl32
import Derived.Test.YtkfpomkfgdkjdaaDoorBinShr32
import Derived.Test.YtkfpomkfgdkjdaaDoorBinUshr32
import Derived.Deep.RegionHeld3
import Derived.Deep.DeepCutAuto
namespace Go.Proofs.YtkfpomkfgdkjdaaDoor
set_option linter.unusedVariables false
set_option linter.unusedSimpArgs false
open Go.RowKit
theorem shl_bdd (a : Int) (k : Nat) : -2147483648 ≤ shl32 a k ∧ shl32 a k ≤ 2147483647 := s32_bd _
theorem shr_bdd (a : Int) (k : Nat) : -2147483648 ≤ shr32 a k ∧ shr32 a k ≤ 2147483647 := shr_bd a k
theorem ushr_bdd (a : Int) (k : Nat) : 0 ≤ ushr32 a k ∧ ushr32 a k ≤ 4294967295 := ushr_bd a k
theorem shl_in (a b : Int) (ha : -9007199254740991 ≤ a ∧ a ≤ 9007199254740991) (hb : -9007199254740991 ≤ b ∧ b ≤ 9007199254740991) (w : World) :
    Calls Tryd.prog 16 #[.string ⟨#[60, 60]⟩, .agg #[.int .i64 3, .int .i64 a, .string ⟨#[]⟩], .agg #[.int .i64 3, .int .i64 b, .string ⟨#[]⟩]] w fun e w' => e = .returned (.tuple #[.agg #[.int .i64 3, .int .i64 (shl32 a (b % 32).toNat), .string ⟨#[]⟩], .string ⟨#[]⟩, .int .i64 0]) ∧ Below w.heap.size w w' :=
  (Binary_shl32 ⟨3, a, ⟨#[]⟩⟩ ⟨3, b, ⟨#[]⟩⟩ w).mono fun e w' ⟨he, hb'⟩ => ⟨by
    have hbd := shl_bdd a (b % 32).toNat
    have e1 : exactO (fShl a b).1 (fShl a b).2 = ⟨⟨3, shl32 a (b % 32).toNat, ⟨#[]⟩⟩, ⟨#[]⟩, 0⟩ := exactO_done (n := shl32 a (b % 32).toNat) (by omega)
    rw [he, numO_yes rfl rfl, sane_num ha, sane_num hb, e1], hb'⟩
theorem shr_in (a b : Int) (ha : -9007199254740991 ≤ a ∧ a ≤ 9007199254740991) (hb : -9007199254740991 ≤ b ∧ b ≤ 9007199254740991) (w : World) :
    Calls Tryd.prog 16 #[.string ⟨#[62, 62]⟩, .agg #[.int .i64 3, .int .i64 a, .string ⟨#[]⟩], .agg #[.int .i64 3, .int .i64 b, .string ⟨#[]⟩]] w fun e w' => e = .returned (.tuple #[.agg #[.int .i64 3, .int .i64 (shr32 a (b % 32).toNat), .string ⟨#[]⟩], .string ⟨#[]⟩, .int .i64 0]) ∧ Below w.heap.size w w' :=
  (Binary_shr32 ⟨3, a, ⟨#[]⟩⟩ ⟨3, b, ⟨#[]⟩⟩ w).mono fun e w' ⟨he, hb'⟩ => ⟨by
    have hbd := shr_bdd a (b % 32).toNat
    have e1 : exactO (fShr a b).1 (fShr a b).2 = ⟨⟨3, shr32 a (b % 32).toNat, ⟨#[]⟩⟩, ⟨#[]⟩, 0⟩ := exactO_done (n := shr32 a (b % 32).toNat) (by omega)
    rw [he, numO_yes rfl rfl, sane_num ha, sane_num hb, e1], hb'⟩
theorem ushr_in (a b : Int) (ha : -9007199254740991 ≤ a ∧ a ≤ 9007199254740991) (hb : -9007199254740991 ≤ b ∧ b ≤ 9007199254740991) (w : World) :
    Calls Tryd.prog 16 #[.string ⟨#[62, 62, 62]⟩, .agg #[.int .i64 3, .int .i64 a, .string ⟨#[]⟩], .agg #[.int .i64 3, .int .i64 b, .string ⟨#[]⟩]] w fun e w' => e = .returned (.tuple #[.agg #[.int .i64 3, .int .i64 (ushr32 a (b % 32).toNat), .string ⟨#[]⟩], .string ⟨#[]⟩, .int .i64 0]) ∧ Below w.heap.size w w' :=
  (Binary_ushr32 ⟨3, a, ⟨#[]⟩⟩ ⟨3, b, ⟨#[]⟩⟩ w).mono fun e w' ⟨he, hb'⟩ => ⟨by
    have hbd := ushr_bdd a (b % 32).toNat
    have e1 : exactO (fUshr a b).1 (fUshr a b).2 = ⟨⟨3, ushr32 a (b % 32).toNat, ⟨#[]⟩⟩, ⟨#[]⟩, 0⟩ := exactO_done (n := ushr32 a (b % 32).toNat) (by omega)
    rw [he, numO_yes rfl rfl, sane_num ha, sane_num hb, e1], hb'⟩

set_option maxRecDepth 100000 in
set_option maxHeartbeats 8000000 in
theorem ValueShifts_any (a b : Int) (wfa : -9223372036854775808 ≤ a ∧ a ≤ 9223372036854775807) (wfb : -9223372036854775808 ≤ b ∧ b ≤ 9223372036854775807) (w : World) (ht : Tab w) :
    Calls Tryd.prog 10 #[.int .i64 a, .int .i64 b] w fun e w' => e = .returned (.bool true) ∧ Below w.heap.size w w' := by
  by_cases hin : (-9007199254740991 ≤ a ∧ a ≤ 9007199254740991) ∧ (-9007199254740991 ≤ b ∧ b ≤ 9007199254740991)
  · obtain ⟨ha, hb⟩ := hin
    have sa := sig_form a
    have mb : bits .and .u32 (b % 4294967296) 31 = b % 32 := mask31u b
    go_enter Tryd.func10, Tryd.ntmps10
    go_upto_region 8 with (first
      | (go_at_call 13; refine (known_any _ (ht.keep (by (repeat (first | (with_reducible exact Below.refl _ _) | (with_reducible assumption) | (with_reducible refine Below.setCell ?_ (by first | omega | (simp <;> omega)) _) | (with_reducible refine Below.alloc ?_ (by first | omega | (simp <;> omega)) _) | (with_reducible refine Below.drew ?_) | (with_reducible refine Below.trans ?_ (Below.mono (by with_reducible assumption) (by first | omega | (simp <;> omega))))))))).mono ?_; rintro e wkn ⟨rfl, bkn⟩)
      | (go_at_call 24; (with_reducible refine (num_any _ _).mono ?_); rintro e wbn ⟨rfl, bn⟩; have zbn := Below.size bn; (try simp at zbn); obtain ⟨hcbn, hfbn⟩ := bcell bn; (try simp only [World.size_alloc] at hcbn hfbn))
      | (go_at_call 16; (with_reducible refine (shl_in a b ha hb _).mono ?_); rintro e wb1 ⟨rfl, b1⟩; have zb1 : w.heap.size ≤ wb1.heap.size := (by have hzz := Below.size b1; first | omega | (simp at hzz; omega)); replace b1 := Below.mono (B' := w.heap.size) b1 (by first | omega | (simp <;> omega)); obtain ⟨hcb1, hfb1⟩ := bcell b1)
      | (go_at_call 16; (with_reducible refine (shr_in a b ha hb _).mono ?_); rintro e wb2 ⟨rfl, b2⟩; have zb2 : wb1.heap.size + 1 ≤ wb2.heap.size := (by have hzz := Below.size b2; first | omega | (simp at hzz; omega)); replace b2 := Below.mono (B' := wb1.heap.size + 1) b2 (by first | omega | (simp <;> omega)); obtain ⟨hcb2, hfb2⟩ := bcell b2; have nb20 : wb1.heap.size < wb2.heap.size := (by omega))
      | (go_at_call 16; (with_reducible refine (ushr_in a b ha hb _).mono ?_); rintro e wb3 ⟨rfl, b3⟩; have zb3 : wb2.heap.size + 1 ≤ wb3.heap.size := (by have hzz := Below.size b3; first | omega | (simp at hzz; omega)); replace b3 := Below.mono (B' := wb2.heap.size + 1) b3 (by first | omega | (simp <;> omega)); obtain ⟨hcb3, hfb3⟩ := bcell b3; have nb30 : wb1.heap.size < wb3.heap.size := (by omega); have nb31 : wb2.heap.size < wb3.heap.size := (by omega)))
    obtain ⟨wc, hwc⟩ : ∃ wc : World, wc = wb3.alloc (.cells #[.int .i64 3, .int .i64 (ushr32 a (b % 32).toNat), .string ⟨#[]⟩] 23) := ⟨_, rfl⟩
    rw [← hwc]
    have c00 : wc.cell? ⟨wb1.heap.size, 0, none⟩ = some (.int .i64 3) := by rw [hwc]; clear hwc; (try simp (disch := first | omega | (simp; omega)) [go_sem, *]) <;> rfl
    have c01 : wc.cell? ⟨wb1.heap.size, 1, none⟩ = some (.int .i64 (shl32 a (b % 32).toNat)) := by rw [hwc]; clear hwc; (try simp (disch := first | omega | (simp; omega)) [go_sem, *]) <;> rfl
    have c02 : wc.cell? ⟨wb1.heap.size, 2, none⟩ = some (.string ⟨#[]⟩) := by rw [hwc]; clear hwc; (try simp (disch := first | omega | (simp; omega)) [go_sem, *]) <;> rfl
    have c10 : wc.cell? ⟨wb2.heap.size, 0, none⟩ = some (.int .i64 3) := by rw [hwc]; clear hwc; (try simp (disch := first | omega | (simp; omega)) [go_sem, *]) <;> rfl
    have c11 : wc.cell? ⟨wb2.heap.size, 1, none⟩ = some (.int .i64 (shr32 a (b % 32).toNat)) := by rw [hwc]; clear hwc; (try simp (disch := first | omega | (simp; omega)) [go_sem, *]) <;> rfl
    have c12 : wc.cell? ⟨wb2.heap.size, 2, none⟩ = some (.string ⟨#[]⟩) := by rw [hwc]; clear hwc; (try simp (disch := first | omega | (simp; omega)) [go_sem, *]) <;> rfl
    have c20 : wc.cell? ⟨wb3.heap.size, 0, none⟩ = some (.int .i64 3) := by rw [hwc]; clear hwc; (try simp (disch := first | omega | (simp; omega)) [go_sem, *]) <;> rfl
    have c21 : wc.cell? ⟨wb3.heap.size, 1, none⟩ = some (.int .i64 (ushr32 a (b % 32).toNat)) := by rw [hwc]; clear hwc; (try simp (disch := first | omega | (simp; omega)) [go_sem, *]) <;> rfl
    have c22 : wc.cell? ⟨wb3.heap.size, 2, none⟩ = some (.string ⟨#[]⟩) := by rw [hwc]; clear hwc; (try simp (disch := first | omega | (simp; omega)) [go_sem, *]) <;> rfl
    have l0 : wb1.heap.size < wc.heap.size := by rw [hwc]; simp <;> omega
    have l1 : wb2.heap.size < wc.heap.size := by rw [hwc]; simp <;> omega
    have l2 : wb3.heap.size < wc.heap.size := by rw [hwc]; simp <;> omega
    have b0 : Below w.heap.size w wc := by rw [hwc]; (repeat (first | (with_reducible exact Below.refl _ _) | (with_reducible assumption) | (with_reducible refine Below.setCell ?_ (by first | omega | (simp <;> omega)) _) | (with_reducible refine Below.alloc ?_ (by first | omega | (simp <;> omega)) _) | (with_reducible refine Below.drew ?_) | (with_reducible refine Below.trans ?_ (Below.mono (by with_reducible assumption) (by first | omega | (simp <;> omega))))))
    clear hwc
    have k0 : IntKind.i64.wrap (shl32 a (b % 32).toNat) = shl32 a (b % 32).toNat := (by have := shl_bdd a (b % 32).toNat; rw [IntKind.wrap_i64]; omega)
    have k1 : IntKind.i64.wrap (shr32 a (b % 32).toNat) = shr32 a (b % 32).toNat := (by have := shr_bdd a (b % 32).toNat; rw [IntKind.wrap_i64]; omega)
    have k2 : IntKind.i64.wrap (ushr32 a (b % 32).toNat) = ushr32 a (b % 32).toNat := (by have := ushr_bdd a (b % 32).toNat; rw [IntKind.wrap_i64]; omega)
    have fi : IntKind.i32.wrap (a % 4294967296) = s32 a := by have := sig_form a; unfold wrap32 at this; rw [IntKind.wrap_i32]; exact this
    have f0 : IntKind.i64.wrap (IntKind.i32.wrap (IntKind.u32.wrap (a % 4294967296 * 2 ^ (b % 32).toNat))) = shl32 a (b % 32).toNat := by
      have h1 := shl_finu a (b % 32).toNat
      have h2 := shl_bdd a (b % 32).toNat
      generalize shl32 a (b % 32).toNat = r at *
      rw [show u32 a = a % 4294967296 from rfl] at h1
      generalize a % 4294967296 * 2 ^ (b % 32).toNat = x at *
      rw [IntKind.wrap_i64, IntKind.wrap_i32, IntKind.wrap_u32]
      unfold s32 wrap64 at h1
      omega
    have f1 : IntKind.i64.wrap (s32 a / 2 ^ (b % 32).toNat) = shr32 a (b % 32).toNat := k1
    have f2 : IntKind.i64.wrap (a % 4294967296 / 2 ^ (b % 32).toNat) = ushr32 a (b % 32).toNat := k2
    clear k0 k1 k2
    go_region_held3 (fun w' => w'.cell? ⟨wb1.heap.size, 0, none⟩ = some (.int .i64 3) ∧ w'.cell? ⟨wb1.heap.size, 1, none⟩ = some (.int .i64 (shl32 a (b % 32).toNat)) ∧ w'.cell? ⟨wb1.heap.size, 2, none⟩ = some (.string ⟨#[]⟩) ∧ w'.cell? ⟨wb2.heap.size, 0, none⟩ = some (.int .i64 3) ∧ w'.cell? ⟨wb2.heap.size, 1, none⟩ = some (.int .i64 (shr32 a (b % 32).toNat)) ∧ w'.cell? ⟨wb2.heap.size, 2, none⟩ = some (.string ⟨#[]⟩) ∧ w'.cell? ⟨wb3.heap.size, 0, none⟩ = some (.int .i64 3) ∧ w'.cell? ⟨wb3.heap.size, 1, none⟩ = some (.int .i64 (ushr32 a (b % 32).toNat)) ∧ w'.cell? ⟨wb3.heap.size, 2, none⟩ = some (.string ⟨#[]⟩)) (go_keep)
      (first
        | (go_at_call 24; (with_reducible refine (num_any _ _).mono ?_); rintro e wbn ⟨rfl, bn⟩; have zbn : wc.heap.size ≤ wbn.heap.size := (by have hzz := Below.size bn; first | omega | (simp at hzz; omega)); replace bn := Below.mono (B' := wc.heap.size) bn (by first | omega | (simp <;> omega)); obtain ⟨hcbn, hfbn⟩ := bcell bn)
        | (go_at_call 13; refine (known_any _ (ht.keep (by (repeat (first | (with_reducible exact Below.refl _ _) | (with_reducible assumption) | (with_reducible refine Below.setCell ?_ (by first | omega | (simp <;> omega)) _) | (with_reducible refine Below.alloc ?_ (by first | omega | (simp <;> omega)) _) | (with_reducible refine Below.drew ?_) | (with_reducible refine Below.trans ?_ (Below.mono (by with_reducible assumption) (by first | omega | (simp <;> omega))))))))).mono ?_; rintro e wbn ⟨rfl, bn⟩; have zbn : wc.heap.size ≤ wbn.heap.size := (by have hzz := Below.size bn; first | omega | (simp at hzz; omega)); replace bn := Below.mono (B' := wc.heap.size) bn (by first | omega | (simp <;> omega)); obtain ⟨hcbn, hfbn⟩ := bcell bn))
    all_goals go_wp2
    all_goals go_ret
    all_goals exact ⟨by first | rfl | simp, (by (repeat (first | (with_reducible exact Below.refl _ _) | (with_reducible assumption) | (with_reducible refine Below.setCell ?_ (by first | omega | (simp <;> omega)) _) | (with_reducible refine Below.alloc ?_ (by first | omega | (simp <;> omega)) _) | (with_reducible refine Below.drew ?_) | (with_reducible refine Below.trans ?_ (Below.mono (by with_reducible assumption) (by first | omega | (simp <;> omega)))))))⟩
  · go_enter Tryd.func10, Tryd.ntmps10
    go_wp2_with (first | (go_at_call 13; refine (known_any _ (ht.keep (by (repeat (first | (with_reducible exact Below.refl _ _) | (with_reducible assumption) | (with_reducible refine Below.setCell ?_ (by first | omega | (simp <;> omega)) _) | (with_reducible refine Below.alloc ?_ (by first | omega | (simp <;> omega)) _) | (with_reducible refine Below.drew ?_) | (with_reducible refine Below.trans ?_ (Below.mono (by with_reducible assumption) (by first | omega | (simp <;> omega))))))))).mono ?_; rintro e wkn ⟨rfl, bkn⟩))
    all_goals first
      | (exfalso; omega)
      | skip
    all_goals go_ret
    all_goals exact ⟨rfl, (by (repeat (first | (with_reducible exact Below.refl _ _) | (with_reducible assumption) | (with_reducible refine Below.setCell ?_ (by first | omega | (simp <;> omega)) _) | (with_reducible refine Below.alloc ?_ (by first | omega | (simp <;> omega)) _) | (with_reducible refine Below.drew ?_) | (with_reducible refine Below.trans ?_ (Below.mono (by with_reducible assumption) (by first | omega | (simp <;> omega)))))))⟩
end Go.Proofs.YtkfpomkfgdkjdaaDoor
