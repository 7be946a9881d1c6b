/- The walks of chapter 2's scanner: piece. -/
import Derived.Test.YtdlppdoankeilaaDoorScan6
namespace Go.Proofs.YtdlppdoankeilaaDoor
set_option linter.unusedVariables false
set_option linter.unusedSimpArgs false
set_option linter.unnecessarySimpa false
open Go.RowKit
attribute [local go_sem] cell_alloc_add cell_set_add lt_more
theorem hasB_two (s : ByteArray) (k : Nat) (c d : UInt8) : hasB s k ⟨#[c, d]⟩ = (decide (k + 1 < s.size) && (bt s k == c.toNat && bt s (k + 1) == d.toNat)) := by
  unfold hasB
  rw [show (⟨#[c, d]⟩ : ByteArray).size = 2 from rfl]
  by_cases h : k + 2 ≤ s.size
  · rw [decide_eq_true h, decide_eq_true (show k + 1 < s.size by omega), Bool.true_and, Bool.true_and, Bool.eq_iff_iff, decide_eq_true_eq, Bool.and_eq_true, beq_iff_eq, beq_iff_eq]
    have hb : ∀ t : ByteArray, t.size = 2 → (t = ⟨#[c, d]⟩ ↔ bt t 0 = c.toNat ∧ bt t 1 = d.toNat) := fun t ht => by
      obtain ⟨⟨l⟩⟩ := t
      match l, ht with
      | [x, y], _ =>
        constructor
        · intro e; injection e with e; injection e with e; injection e with e1 e; injection e with e2; subst e1 e2; exact ⟨rfl, rfl⟩
        · intro e
          have h1 : x = c := UInt8.toNat_inj.1 e.1
          have h2 : y = d := UInt8.toNat_inj.1 e.2
          rw [h1, h2]
    rw [hb _ (by rw [ByteArray.size_extract]; omega), bt_extract (by omega) h, bt_extract (by omega) h, Nat.add_zero]
  · rw [decide_eq_false h, decide_eq_false (show ¬ k + 1 < s.size by omega), Bool.false_and, Bool.false_and]
/-- The template's piece that begins here (kind 0: none). -/
def tokP (s : ByteArray) (i : Nat) (ends goes : Int) : Tok := match pieceOf s i with
  | some (t, n, m) => ⟨if m = true then goes else ends, t, i, n⟩
  | none => tokZ
theorem tokP_no {s : ByteArray} {i : Nat} {ends goes : Int} (h : pieceOf s i = none) : tokP s i ends goes = tokZ := by unfold tokP; rw [h]
theorem tokP_yes {s : ByteArray} {i : Nat} {ends goes : Int} {t : ByteArray} {n : Nat} {m : Bool} (h : pieceOf s i = some (t, n, m)) : tokP s i ends goes = ⟨if m = true then goes else ends, t, i, n⟩ := by unfold tokP; rw [h]
set_option maxRecDepth 100000 in
set_option maxHeartbeats 8000000 in
theorem piece_any (s : ByteArray) (A : Option Addr) (c : Nat) (hs : s.size ≤ 1000000) (hcap : s.size ≤ c) (w : World) (h : Rd w w.heap.size A s.size (byteC s)) (g i : Nat) (hv : Value) (hg : Scn w g A s.size c i hv) (hi : i < s.size) (ends goes : Int) :
    Calls Tryd.prog 29 #[.pointer (some ⟨g, 0, none⟩), .int .i64 ends, .int .i64 goes] w fun e w' => e = .returned (.agg (tokA (tokP s i ends goes))) ∧ Below w.heap.size w w' := by
  have HN := Lib.hid h
  obtain ⟨ad, rfl, hadB, ci⟩ := h i hi
  clear ci h
  have lz := hg.lt
  have z0 := hg.cell 0
  have z1 := hg.cell 1
  have fz0 := hg.free 0
  have fz1 := hg.free 1
  simp at z0 z1
  go_enter Tryd.func29, Tryd.ntmps29
  go_upto_block 0 with (fail)
  obtain ⟨wo, hwo⟩ : ∃ wo : World, wo = w.alloc (.cells #[.int .i64 0, .string ⟨#[]⟩, .int .i64 0, .int .i64 0] 29) := ⟨_, rfl⟩
  rw [← hwo]
  have rz : Row wo w.heap.size 29 #[.int .i64 0, .string ⟨#[]⟩, .int .i64 0, .int .i64 0] := by rw [hwo]; exact row_new rfl
  have hbr : Below w.heap.size w wo := by rw [hwo]; (repeat (first | (with_reducible exact Below.refl _ _) | (with_reducible assumption) | (with_reducible refine Below.setCell ?_ (by first | omega | (simp <;> omega)) _) | (with_reducible refine Below.alloc ?_ (by first | omega | (simp <;> omega)) _) | (with_reducible refine Below.drew ?_) | (with_reducible refine below_drewN ?_ _) | (with_reducible refine Below.trans ?_ (Below.mono (by with_reducible assumption) (by first | omega | (simp <;> omega))))))
  have hzo : wo.heap.size = w.heap.size + 1 := by rw [hwo]; simp
  clear hwo z0 z1 fz0 fz1
  go_wp2_with fail
  go_loopw [7, 8, 9] (fun o y x wr => ∃ (k : Nat) (acc : ByteArray), i + 1 ≤ k ∧ k ≤ s.size ∧ x = .int .i64 k ∧ y = .bool true ∧ Below (w.heap.size + 1) wo wr ∧ wr.ownsRow (w.heap.size + 1) 5 1 o acc.size (Lib.strCells acc) ∧ acc.size ≤ 4 * k ∧ pieceOf s i = pieceGo s k acc) (fun _ _ x _ => s.size - (intOf x).toNat)
  case atStart => exact ⟨i + 1, ⟨#[]⟩, Nat.le_refl _, by omega, by go_num, rfl, Below.refl _ _, World.ownsRow_nil _ _ _ _, Nat.zero_le _, rfl⟩
  case round =>
    obtain ⟨k, acc, hik, hk, rfl, rfl, hb, hown, hac, hq⟩ := hrel
    have HQ := Lib.hid hq
    clear hq
    have hbw : Below w.heap.size w wr := (by (repeat (first | (with_reducible exact Below.refl _ _) | (with_reducible assumption) | (with_reducible refine Below.setCell ?_ (by first | omega | (simp <;> omega)) _) | (with_reducible refine Below.alloc ?_ (by first | omega | (simp <;> omega)) _) | (with_reducible refine Below.drew ?_) | (with_reducible refine below_drewN ?_ _) | (with_reducible refine Below.trans ?_ (Below.mono (by with_reducible assumption) (by first | omega | (simp <;> omega)))))))
    have hzr := Below.size hb
    have rg := Row.below hg hbw lz
    have z0 := rg.cell 0
    have z1 := rg.cell 1
    have fz0 := rg.free 0
    have fz1 := rg.free 1
    simp at z0 z1
    have ry := rz.below hb (by omega)
    have y0 := ry.cell 0; have y1 := ry.cell 1; have y2 := ry.cell 2; have y3 := ry.cell 3; have fy0 := ry.free 0; have fy1 := ry.free 1; have fy2 := ry.free 2; have fy3 := ry.free 3; have ly := ry.lt
    by_cases hks : k < s.size
    · obtain ⟨ad2, e2, _, c1⟩ := HN.out k hks
      obtain rfl : ad = ad2 := by injection e2
      clear e2
      unfold byteC at c1
      have d1 := (hbw.cell (p := ad.add k) (by rw [block_add]; omega)).trans c1
      clear c1
      by_cases hcl : bt s k = 96
      · have HX := Lib.hid (tokP_yes (ends := ends) (goes := goes) (HQ.out.trans (pieceGo_close hks hcl)))
        rw [hcl] at d1
        clear hcl
        go_wp2_with fail
        refine wp_region_still_tail 10 (by kernel_rfl) (by kernel_rfl) ?_; simp only [List.take_succ_cons, List.take_zero, List.drop_succ_cons, List.drop_zero]; obtain ⟨wd, hwd⟩ : ∃ wd : World, wd = { wr with drawn := wr.drawn + 1 } := ⟨_, rfl⟩; rw [← hwd]; have kc := own_text (W := wd) (by rw [hwd]; exact hown.drew); replace rg : Scn wd g (some ad) s.size c i hv := (by rw [hwd]; exact rg); replace ry : Row wd w.heap.size 29 #[.int .i64 0, .string ⟨#[]⟩, .int .i64 0, .int .i64 0] := (by rw [hwd]; exact ry); replace hbw : Below w.heap.size w wd := (by rw [hwd]; exact hbw.drew); clear hwd; clear y0 y1 y2 y3 fy0 fy1 fy2 fy3 ly z0 z1 fz0 fz1; have z0 := rg.cell 0; have z1 := rg.cell 1; have fz0 := rg.free 0; have fz1 := rg.free 1; simp at z0 z1; have y0 := ry.cell 0; have y1 := ry.cell 1; have y2 := ry.cell 2; have y3 := ry.cell 3; have fy0 := ry.free 0; have fy1 := ry.free 1; have fy2 := ry.free 2; have fy3 := ry.free 3; have ly := ry.lt; repeat still_step
        refine wpStill_nil ?_
        go_wp2
        exact bodyPost_ret (v := .agg (tokA ⟨ends, acc, i, k + 1⟩)) (by simp [results, Tryd.results29, go_sem, tokA, *]) rfl ⟨by rw [HX.out]; rfl, (by (repeat (first | (with_reducible exact Below.refl _ _) | (with_reducible assumption) | (with_reducible refine Below.setCell ?_ (by first | omega | (simp <;> omega)) _) | (with_reducible refine Below.alloc ?_ (by first | omega | (simp <;> omega)) _) | (with_reducible refine Below.drew ?_) | (with_reducible refine below_drewN ?_ _) | (with_reducible refine Below.trans ?_ (Below.mono (by with_reducible assumption) (by first | omega | (simp <;> omega)))))))⟩
      · have en1 : ((bt s k : Int) == 96) = false := by simp; omega
        have HH := has_any s (some ad) c (by omega) hcap wr (HN.out.below hbw) g i hv rg k (by omega) ⟨#[36, 123]⟩ (by decide) (by decide)
        rw [hasB_two] at HH
        by_cases hh : bt s k = 36 ∧ k + 1 < s.size ∧ bt s (k + 1) = 123
        · rw [show (decide (k + 1 < s.size) && (bt s k == UInt8.toNat 36 && bt s (k + 1) == UInt8.toNat 123)) = true by simp [hh.1, hh.2.1, hh.2.2]] at HH
          have HH := Lib.hid HH
          have HX := Lib.hid (tokP_yes (ends := ends) (goes := goes) (HQ.out.trans (pieceGo_hole hh.2.1 hh.1 hh.2.2)))
          have hk1 := hh.2.1
          clear hh hcl
          generalize bt s k = u at *
          go_wp2_with (go_at_call 40; (with_reducible refine (HH.out).mono ?_); rintro e wq ⟨rfl, hwq⟩; obtain rfl := hwq.symm)
          refine wp_region_still_tail 10 (by kernel_rfl) (by kernel_rfl) ?_; simp only [List.take_succ_cons, List.take_zero, List.drop_succ_cons, List.drop_zero]; obtain ⟨wd, hwd⟩ : ∃ wd : World, wd = { wr with drawn := wr.drawn + 1 } := ⟨_, rfl⟩; rw [← hwd]; have kc := own_text (W := wd) (by rw [hwd]; exact hown.drew); replace rg : Scn wd g (some ad) s.size c i hv := (by rw [hwd]; exact rg); replace ry : Row wd w.heap.size 29 #[.int .i64 0, .string ⟨#[]⟩, .int .i64 0, .int .i64 0] := (by rw [hwd]; exact ry); replace hbw : Below w.heap.size w wd := (by rw [hwd]; exact hbw.drew); clear hwd; clear y0 y1 y2 y3 fy0 fy1 fy2 fy3 ly z0 z1 fz0 fz1; have z0 := rg.cell 0; have z1 := rg.cell 1; have fz0 := rg.free 0; have fz1 := rg.free 1; simp at z0 z1; have y0 := ry.cell 0; have y1 := ry.cell 1; have y2 := ry.cell 2; have y3 := ry.cell 3; have fy0 := ry.free 0; have fy1 := ry.free 1; have fy2 := ry.free 2; have fy3 := ry.free 3; have ly := ry.lt; repeat still_step
          refine wpStill_nil ?_
          go_wp2
          exact bodyPost_ret (v := .agg (tokA ⟨goes, acc, i, k + 2⟩)) (by simp [results, Tryd.results29, go_sem, tokA, *]) rfl ⟨by rw [HX.out]; rfl, (by (repeat (first | (with_reducible exact Below.refl _ _) | (with_reducible assumption) | (with_reducible refine Below.setCell ?_ (by first | omega | (simp <;> omega)) _) | (with_reducible refine Below.alloc ?_ (by first | omega | (simp <;> omega)) _) | (with_reducible refine Below.drew ?_) | (with_reducible refine below_drewN ?_ _) | (with_reducible refine Below.trans ?_ (Below.mono (by with_reducible assumption) (by first | omega | (simp <;> omega)))))))⟩
        · rw [show (decide (k + 1 < s.size) && (bt s k == UInt8.toNat 36 && bt s (k + 1) == UInt8.toNat 123)) = false by rw [Bool.eq_false_iff]; intro e; simp at e; exact hh ⟨e.2.1, e.1, e.2.2⟩] at HH
          have HH := Lib.hid HH
          have HR := rune1_any s (some ad) c (by omega) hcap wr (base := w.heap.size + 1) (by omega) ((HN.out.below hbw).more (by omega)) g i (by omega) hv rg k hks acc (by omega) u7 hown
          cases hone : one s k with
          | none =>
            rw [hone] at HR
            simp only [RPost] at HR
            have HR := Lib.hid HR
            have HX := Lib.hid (tokP_no (ends := ends) (goes := goes) (HQ.out.trans (pieceGo_bad hks hcl hh hone)))
            clear hcl hh hone
            generalize bt s k = u at *
            go_wp2_with (first | (go_at_call 40; (with_reducible refine (HH.out).mono ?_); rintro e wq ⟨rfl, hwq⟩; obtain rfl := hwq.symm) | (go_at_call 44; (with_reducible refine (HR.out).mono ?_); rintro e wb1 ⟨⟨kk, vv, rfl⟩, b1⟩; have zb1 := Below.size b1; have ry1 := ry.below b1 (by omega); have x0 := ry1.cell 0; have x1 := ry1.cell 1; have x2 := ry1.cell 2; have x3 := ry1.cell 3; have fx0 := ry1.free 0; have fx1 := ry1.free 1; have fx2 := ry1.free 2; have fx3 := ry1.free 3; have lx := ry1.lt))
            exact bodyPost_ret (v := .agg (tokA tokZ)) (by simp [results, Tryd.results29, go_sem, tokA, tokZ, *]) rfl ⟨by rw [HX.out], (by (repeat (first | (with_reducible exact Below.refl _ _) | (with_reducible assumption) | (with_reducible refine Below.setCell ?_ (by first | omega | (simp <;> omega)) _) | (with_reducible refine Below.alloc ?_ (by first | omega | (simp <;> omega)) _) | (with_reducible refine Below.drew ?_) | (with_reducible refine below_drewN ?_ _) | (with_reducible refine Below.trans ?_ (Below.mono (by with_reducible assumption) (by first | omega | (simp <;> omega)))))))⟩
          | some p =>
            obtain ⟨t, n⟩ := p
            rw [hone] at HR
            simp only [RPost] at HR
            have HR := Lib.hid HR
            have HX := Lib.hid (HQ.out.trans (pieceGo_step hks hcl hh hone))
            have hbd := one_bd hks hone
            have hlen := one_len hone
            clear hcl hh hone
            generalize bt s k = u at *
            go_wp2_with (first | (go_at_call 40; (with_reducible refine (HH.out).mono ?_); rintro e wq ⟨rfl, hwq⟩; obtain rfl := hwq.symm) | (go_at_call 44; (with_reducible refine (HR.out).mono ?_); rintro e wb1 ⟨⟨vv, rfl, hown2⟩, b1⟩; have zb1 := Below.size b1; have ry1 := ry.below b1 (by omega); have x0 := ry1.cell 0; have x1 := ry1.cell 1; have x2 := ry1.cell 2; have x3 := ry1.cell 3; have fx0 := ry1.free 0; have fx1 := ry1.free 1; have fx2 := ry1.free 2; have fx3 := ry1.free 3; have lx := ry1.lt))
            exact ⟨⟨n, acc ++ t, by omega, hbd.2, rfl, rfl, hb.trans b1, hown2, by rw [ByteArray.size_append]; omega, HX.out⟩, by simp [intOf]; omega⟩
    · have HX := Lib.hid (tokP_no (ends := ends) (goes := goes) (HQ.out.trans (pieceGo_end hks)))
      go_wp2_with fail
      exact bodyPost_ret (v := .agg (tokA tokZ)) (by simp [results, Tryd.results29, go_sem, tokA, tokZ, *]) rfl ⟨by rw [HX.out], (by (repeat (first | (with_reducible exact Below.refl _ _) | (with_reducible assumption) | (with_reducible refine Below.setCell ?_ (by first | omega | (simp <;> omega)) _) | (with_reducible refine Below.alloc ?_ (by first | omega | (simp <;> omega)) _) | (with_reducible refine Below.drew ?_) | (with_reducible refine below_drewN ?_ _) | (with_reducible refine Below.trans ?_ (Below.mono (by with_reducible assumption) (by first | omega | (simp <;> omega)))))))⟩
end Go.Proofs.YtdlppdoankeilaaDoor
