/- The walk of chapter 14's law ValueBits. -/
import Derived.Test.YtkfpomkfgdkjdaaDoorL4
import Derived.Test.YtkfpomkfgdkjdaaDoorBinAnd
import Derived.Test.YtkfpomkfgdkjdaaDoorBinOr
import Derived.Test.YtkfpomkfgdkjdaaDoorBinXor
import Derived.Deep.RegionHeld3
import Derived.Deep.DeepCutAuto
namespace Go.Proofs.YtkfpomkfgdkjdaaDoor
set_option linter.unusedVariables false
set_option linter.unusedSimpArgs false
open Go.RowKit
theorem and_in (a b : Int) (ha : -9007199254740991 ≤ a ∧ a ≤ 9007199254740991) (hb : -9007199254740991 ≤ b ∧ b ≤ 9007199254740991) (w : World) :
    Calls Tryd.prog 16 #[.string ⟨#[38]⟩, .agg #[.int .i64 3, .int .i64 a, .string ⟨#[]⟩], .agg #[.int .i64 3, .int .i64 b, .string ⟨#[]⟩]] w fun e w' => e = .returned (.tuple #[.agg #[.int .i64 3, .int .i64 (b32 .and a b), .string ⟨#[]⟩], .string ⟨#[]⟩, .int .i64 0]) ∧ Below w.heap.size w w' :=
  (Binary_and ⟨3, a, ⟨#[]⟩⟩ ⟨3, b, ⟨#[]⟩⟩ w).mono fun e w' ⟨he, hb'⟩ => ⟨by
    have hbd := b32_bd .and a b
    have e1 : exactO (fBit .and a b).1 (fBit .and a b).2 = ⟨⟨3, b32 .and a b, ⟨#[]⟩⟩, ⟨#[]⟩, 0⟩ := exactO_done (n := b32 .and a b) (by omega)
    rw [he, numO_yes rfl rfl, sane_num ha, sane_num hb, e1], hb'⟩
theorem or_in (a b : Int) (ha : -9007199254740991 ≤ a ∧ a ≤ 9007199254740991) (hb : -9007199254740991 ≤ b ∧ b ≤ 9007199254740991) (w : World) :
    Calls Tryd.prog 16 #[.string ⟨#[124]⟩, .agg #[.int .i64 3, .int .i64 a, .string ⟨#[]⟩], .agg #[.int .i64 3, .int .i64 b, .string ⟨#[]⟩]] w fun e w' => e = .returned (.tuple #[.agg #[.int .i64 3, .int .i64 (b32 .or a b), .string ⟨#[]⟩], .string ⟨#[]⟩, .int .i64 0]) ∧ Below w.heap.size w w' :=
  (Binary_or ⟨3, a, ⟨#[]⟩⟩ ⟨3, b, ⟨#[]⟩⟩ w).mono fun e w' ⟨he, hb'⟩ => ⟨by
    have hbd := b32_bd .or a b
    have e1 : exactO (fBit .or a b).1 (fBit .or a b).2 = ⟨⟨3, b32 .or a b, ⟨#[]⟩⟩, ⟨#[]⟩, 0⟩ := exactO_done (n := b32 .or a b) (by omega)
    rw [he, numO_yes rfl rfl, sane_num ha, sane_num hb, e1], hb'⟩
theorem xor_in (a b : Int) (ha : -9007199254740991 ≤ a ∧ a ≤ 9007199254740991) (hb : -9007199254740991 ≤ b ∧ b ≤ 9007199254740991) (w : World) :
    Calls Tryd.prog 16 #[.string ⟨#[94]⟩, .agg #[.int .i64 3, .int .i64 a, .string ⟨#[]⟩], .agg #[.int .i64 3, .int .i64 b, .string ⟨#[]⟩]] w fun e w' => e = .returned (.tuple #[.agg #[.int .i64 3, .int .i64 (b32 .xor a b), .string ⟨#[]⟩], .string ⟨#[]⟩, .int .i64 0]) ∧ Below w.heap.size w w' :=
  (Binary_xor ⟨3, a, ⟨#[]⟩⟩ ⟨3, b, ⟨#[]⟩⟩ w).mono fun e w' ⟨he, hb'⟩ => ⟨by
    have hbd := b32_bd .xor a b
    have e1 : exactO (fBit .xor a b).1 (fBit .xor a b).2 = ⟨⟨3, b32 .xor a b, ⟨#[]⟩⟩, ⟨#[]⟩, 0⟩ := exactO_done (n := b32 .xor a b) (by omega)
    rw [he, numO_yes rfl rfl, sane_num ha, sane_num hb, e1], hb'⟩
theorem not_in (a : Int) (ha : -9007199254740991 ≤ a ∧ a ≤ 9007199254740991) (w : World) :
    Calls Tryd.prog 14 #[.string ⟨#[126]⟩, .agg #[.int .i64 3, .int .i64 a, .string ⟨#[]⟩]] w fun e w' => e = .returned (.tuple #[.agg #[.int .i64 3, .int .i64 (-(s32 a) - 1), .string ⟨#[]⟩], .string ⟨#[]⟩, .int .i64 0]) ∧ Below w.heap.size w w' :=
  (Unary_any ⟨#[126]⟩ 3 a ⟨#[]⟩ w).mono fun e w' ⟨he, hb'⟩ => ⟨by rw [he]; simp [unO, sane_num ha, done, vn], hb'⟩

theorem not32 (a : Int) : bits .xor .i32 (-1) (s32 a) = -(s32 a) - 1 := by
  have h := s32_bd a
  have e1 : (BitVec.ofInt 32 (-1) ^^^ BitVec.ofInt 32 (s32 a)) = BitVec.ofInt 32 (-(s32 a) - 1) := by
    rw [show BitVec.ofInt 32 (-1) = BitVec.allOnes 32 from rfl, BitVec.allOnes_xor]
    apply BitVec.eq_of_toInt_eq
    rw [BitVec.toInt_not, BitVec.toInt_ofInt]
    simp [Int.bmod, BitVec.toNat_ofInt]
    omega
  show IntKind.i32.wrap ((BitVec.ofInt 32 (-1) ^^^ BitVec.ofInt 32 (s32 a)).toNat : Int) = _
  rw [e1, IntKind.wrap_i32, BitVec.toNat_ofInt]
  omega
set_option maxRecDepth 100000 in
set_option maxHeartbeats 8000000 in
theorem ValueBits_any (a b : Int) (wfa : -9223372036854775808 ≤ a ∧ a ≤ 9223372036854775807) (wfb : -9223372036854775808 ≤ b ∧ b ≤ 9223372036854775807) (w : World) (ht : Tab w) :
    Calls Tryd.prog 9 #[.int .i64 a, .int .i64 b] w fun e w' => e = .returned (.bool true) ∧ Below w.heap.size w w' := by
  by_cases hin : (-9007199254740991 ≤ a ∧ a ≤ 9007199254740991) ∧ (-9007199254740991 ≤ b ∧ b ≤ 9007199254740991)
  · obtain ⟨ha, hb⟩ := hin
    have sa := sig_form a
    have sb := sig_form b
    go_enter Tryd.func9, Tryd.ntmps9
    go_upto_region 9 with (first
      | (go_at_call 13; refine (known_any _ (ht.keep (by (repeat (first | (with_reducible exact Below.refl _ _) | (with_reducible assumption) | (with_reducible refine Below.setCell ?_ (by first | omega | (simp <;> omega)) _) | (with_reducible refine Below.alloc ?_ (by first | omega | (simp <;> omega)) _) | (with_reducible refine Below.drew ?_) | (with_reducible refine Below.trans ?_ (Below.mono (by with_reducible assumption) (by first | omega | (simp <;> omega))))))))).mono ?_; rintro e wkn ⟨rfl, bkn⟩)
      | (go_at_call 24; (with_reducible refine (num_any _ _).mono ?_); rintro e wbn ⟨rfl, bn⟩; have zbn := Below.size bn; (try simp at zbn); obtain ⟨hcbn, hfbn⟩ := bcell bn; (try simp only [World.size_alloc] at hcbn hfbn))
      | (go_at_call 16; (with_reducible refine (and_in a b ha hb _).mono ?_); rintro e wb1 ⟨rfl, b1⟩; have zb1 : w.heap.size ≤ wb1.heap.size := (by have hzz := Below.size b1; first | omega | (simp at hzz; omega)); replace b1 := Below.mono (B' := w.heap.size) b1 (by first | omega | (simp <;> omega)); obtain ⟨hcb1, hfb1⟩ := bcell b1)
      | (go_at_call 16; (with_reducible refine (or_in a b ha hb _).mono ?_); rintro e wb2 ⟨rfl, b2⟩; have zb2 : wb1.heap.size + 1 ≤ wb2.heap.size := (by have hzz := Below.size b2; first | omega | (simp at hzz; omega)); replace b2 := Below.mono (B' := wb1.heap.size + 1) b2 (by first | omega | (simp <;> omega)); obtain ⟨hcb2, hfb2⟩ := bcell b2; have nb20 : wb1.heap.size < wb2.heap.size := (by omega))
      | (go_at_call 16; (with_reducible refine (xor_in a b ha hb _).mono ?_); rintro e wb3 ⟨rfl, b3⟩; have zb3 : wb2.heap.size + 1 ≤ wb3.heap.size := (by have hzz := Below.size b3; first | omega | (simp at hzz; omega)); replace b3 := Below.mono (B' := wb2.heap.size + 1) b3 (by first | omega | (simp <;> omega)); obtain ⟨hcb3, hfb3⟩ := bcell b3; have nb30 : wb1.heap.size < wb3.heap.size := (by omega); have nb31 : wb2.heap.size < wb3.heap.size := (by omega))
      | (go_at_call 14; (with_reducible refine (not_in a ha _).mono ?_); rintro e wb4 ⟨rfl, b4⟩; have zb4 : wb3.heap.size + 1 ≤ wb4.heap.size := (by have hzz := Below.size b4; first | omega | (simp at hzz; omega)); replace b4 := Below.mono (B' := wb3.heap.size + 1) b4 (by first | omega | (simp <;> omega)); obtain ⟨hcb4, hfb4⟩ := bcell b4; have nb40 : wb1.heap.size < wb4.heap.size := (by omega); have nb41 : wb2.heap.size < wb4.heap.size := (by omega); have nb42 : wb3.heap.size < wb4.heap.size := (by omega)))
    obtain ⟨wc, hwc⟩ : ∃ wc : World, wc = wb4.alloc (.cells #[.int .i64 3, .int .i64 (-(s32 a) - 1), .string ⟨#[]⟩] 23) := ⟨_, rfl⟩
    rw [← hwc]
    have c00 : wc.cell? ⟨wb1.heap.size, 0, none⟩ = some (.int .i64 3) := by rw [hwc]; clear hwc; (try simp (disch := first | omega | (simp; omega)) [go_sem, *]) <;> rfl
    have c01 : wc.cell? ⟨wb1.heap.size, 1, none⟩ = some (.int .i64 (b32 .and a b)) := by rw [hwc]; clear hwc; (try simp (disch := first | omega | (simp; omega)) [go_sem, *]) <;> rfl
    have c02 : wc.cell? ⟨wb1.heap.size, 2, none⟩ = some (.string ⟨#[]⟩) := by rw [hwc]; clear hwc; (try simp (disch := first | omega | (simp; omega)) [go_sem, *]) <;> rfl
    have c10 : wc.cell? ⟨wb2.heap.size, 0, none⟩ = some (.int .i64 3) := by rw [hwc]; clear hwc; (try simp (disch := first | omega | (simp; omega)) [go_sem, *]) <;> rfl
    have c11 : wc.cell? ⟨wb2.heap.size, 1, none⟩ = some (.int .i64 (b32 .or a b)) := by rw [hwc]; clear hwc; (try simp (disch := first | omega | (simp; omega)) [go_sem, *]) <;> rfl
    have c12 : wc.cell? ⟨wb2.heap.size, 2, none⟩ = some (.string ⟨#[]⟩) := by rw [hwc]; clear hwc; (try simp (disch := first | omega | (simp; omega)) [go_sem, *]) <;> rfl
    have c20 : wc.cell? ⟨wb3.heap.size, 0, none⟩ = some (.int .i64 3) := by rw [hwc]; clear hwc; (try simp (disch := first | omega | (simp; omega)) [go_sem, *]) <;> rfl
    have c21 : wc.cell? ⟨wb3.heap.size, 1, none⟩ = some (.int .i64 (b32 .xor a b)) := by rw [hwc]; clear hwc; (try simp (disch := first | omega | (simp; omega)) [go_sem, *]) <;> rfl
    have c22 : wc.cell? ⟨wb3.heap.size, 2, none⟩ = some (.string ⟨#[]⟩) := by rw [hwc]; clear hwc; (try simp (disch := first | omega | (simp; omega)) [go_sem, *]) <;> rfl
    have c30 : wc.cell? ⟨wb4.heap.size, 0, none⟩ = some (.int .i64 3) := by rw [hwc]; clear hwc; (try simp (disch := first | omega | (simp; omega)) [go_sem, *]) <;> rfl
    have c31 : wc.cell? ⟨wb4.heap.size, 1, none⟩ = some (.int .i64 (-(s32 a) - 1)) := by rw [hwc]; clear hwc; (try simp (disch := first | omega | (simp; omega)) [go_sem, *]) <;> rfl
    have c32 : wc.cell? ⟨wb4.heap.size, 2, none⟩ = some (.string ⟨#[]⟩) := by rw [hwc]; clear hwc; (try simp (disch := first | omega | (simp; omega)) [go_sem, *]) <;> rfl
    have l0 : wb1.heap.size < wc.heap.size := by rw [hwc]; simp <;> omega
    have l1 : wb2.heap.size < wc.heap.size := by rw [hwc]; simp <;> omega
    have l2 : wb3.heap.size < wc.heap.size := by rw [hwc]; simp <;> omega
    have l3 : wb4.heap.size < wc.heap.size := by rw [hwc]; simp <;> omega
    have b0 : Below w.heap.size w wc := by rw [hwc]; (repeat (first | (with_reducible exact Below.refl _ _) | (with_reducible assumption) | (with_reducible refine Below.setCell ?_ (by first | omega | (simp <;> omega)) _) | (with_reducible refine Below.alloc ?_ (by first | omega | (simp <;> omega)) _) | (with_reducible refine Below.drew ?_) | (with_reducible refine Below.trans ?_ (Below.mono (by with_reducible assumption) (by first | omega | (simp <;> omega))))))
    clear hwc
    have f1 := b32_ss .and a b
    have f2 := b32_ss .or a b
    have f3 := b32_ss .xor a b
    have f4 := not32 a
    have g1 : wrap64 (b32 .and a b) = b32 .and a b := (by have := b32_bd .and a b; unfold wrap64; omega)
    have g2 : wrap64 (b32 .or a b) = b32 .or a b := (by have := b32_bd .or a b; unfold wrap64; omega)
    have g3 : wrap64 (b32 .xor a b) = b32 .xor a b := (by have := b32_bd .xor a b; unfold wrap64; omega)
    have g4 : wrap64 (-(s32 a) - 1) = -(s32 a) - 1 := (by have := s32_bd a; unfold wrap64; omega)
    have k1 : IntKind.i64.wrap (b32 .and a b) = b32 .and a b := (by have := b32_bd .and a b; rw [IntKind.wrap_i64]; omega)
    have k2 : IntKind.i64.wrap (b32 .or a b) = b32 .or a b := (by have := b32_bd .or a b; rw [IntKind.wrap_i64]; omega)
    have k3 : IntKind.i64.wrap (b32 .xor a b) = b32 .xor a b := (by have := b32_bd .xor a b; rw [IntKind.wrap_i64]; omega)
    have k4 : IntKind.i64.wrap (-(s32 a) - 1) = -(s32 a) - 1 := (by have := s32_bd a; rw [IntKind.wrap_i64]; omega)
    go_region_held3 (fun w' => w'.cell? ⟨wb1.heap.size, 0, none⟩ = some (.int .i64 3) ∧ w'.cell? ⟨wb1.heap.size, 1, none⟩ = some (.int .i64 (b32 .and a b)) ∧ w'.cell? ⟨wb1.heap.size, 2, none⟩ = some (.string ⟨#[]⟩) ∧ w'.cell? ⟨wb2.heap.size, 0, none⟩ = some (.int .i64 3) ∧ w'.cell? ⟨wb2.heap.size, 1, none⟩ = some (.int .i64 (b32 .or a b)) ∧ w'.cell? ⟨wb2.heap.size, 2, none⟩ = some (.string ⟨#[]⟩) ∧ w'.cell? ⟨wb3.heap.size, 0, none⟩ = some (.int .i64 3) ∧ w'.cell? ⟨wb3.heap.size, 1, none⟩ = some (.int .i64 (b32 .xor a b)) ∧ w'.cell? ⟨wb3.heap.size, 2, none⟩ = some (.string ⟨#[]⟩) ∧ w'.cell? ⟨wb4.heap.size, 0, none⟩ = some (.int .i64 3) ∧ w'.cell? ⟨wb4.heap.size, 1, none⟩ = some (.int .i64 (-(s32 a) - 1)) ∧ w'.cell? ⟨wb4.heap.size, 2, none⟩ = some (.string ⟨#[]⟩)) (go_keep)
      (first
        | (go_at_call 24; (with_reducible refine (num_any _ _).mono ?_); rintro e wbn ⟨rfl, bn⟩; have zbn : wc.heap.size ≤ wbn.heap.size := (by have hzz := Below.size bn; first | omega | (simp at hzz; omega)); replace bn := Below.mono (B' := wc.heap.size) bn (by first | omega | (simp <;> omega)); obtain ⟨hcbn, hfbn⟩ := bcell bn)
        | (go_at_call 13; refine (known_any _ (ht.keep (by (repeat (first | (with_reducible exact Below.refl _ _) | (with_reducible assumption) | (with_reducible refine Below.setCell ?_ (by first | omega | (simp <;> omega)) _) | (with_reducible refine Below.alloc ?_ (by first | omega | (simp <;> omega)) _) | (with_reducible refine Below.drew ?_) | (with_reducible refine Below.trans ?_ (Below.mono (by with_reducible assumption) (by first | omega | (simp <;> omega))))))))).mono ?_; rintro e wbn ⟨rfl, bn⟩; have zbn : wc.heap.size ≤ wbn.heap.size := (by have hzz := Below.size bn; first | omega | (simp at hzz; omega)); replace bn := Below.mono (B' := wc.heap.size) bn (by first | omega | (simp <;> omega)); obtain ⟨hcbn, hfbn⟩ := bcell bn))
    all_goals go_wp2
    all_goals go_ret
    all_goals exact ⟨by first | rfl | simp, (by (repeat (first | (with_reducible exact Below.refl _ _) | (with_reducible assumption) | (with_reducible refine Below.setCell ?_ (by first | omega | (simp <;> omega)) _) | (with_reducible refine Below.alloc ?_ (by first | omega | (simp <;> omega)) _) | (with_reducible refine Below.drew ?_) | (with_reducible refine Below.trans ?_ (Below.mono (by with_reducible assumption) (by first | omega | (simp <;> omega)))))))⟩
  · go_enter Tryd.func9, Tryd.ntmps9
    go_wp2_with (first | (go_at_call 13; refine (known_any _ (ht.keep (by (repeat (first | (with_reducible exact Below.refl _ _) | (with_reducible assumption) | (with_reducible refine Below.setCell ?_ (by first | omega | (simp <;> omega)) _) | (with_reducible refine Below.alloc ?_ (by first | omega | (simp <;> omega)) _) | (with_reducible refine Below.drew ?_) | (with_reducible refine Below.trans ?_ (Below.mono (by with_reducible assumption) (by first | omega | (simp <;> omega))))))))).mono ?_; rintro e wkn ⟨rfl, bkn⟩))
    all_goals first
      | (exfalso; omega)
      | skip
    all_goals go_ret
    all_goals exact ⟨rfl, (by (repeat (first | (with_reducible exact Below.refl _ _) | (with_reducible assumption) | (with_reducible refine Below.setCell ?_ (by first | omega | (simp <;> omega)) _) | (with_reducible refine Below.alloc ?_ (by first | omega | (simp <;> omega)) _) | (with_reducible refine Below.drew ?_) | (with_reducible refine Below.trans ?_ (Below.mono (by with_reducible assumption) (by first | omega | (simp <;> omega)))))))⟩
end Go.Proofs.YtkfpomkfgdkjdaaDoor
