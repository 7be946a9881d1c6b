/- The walk of chapter 2's reference: a template's piece. -/
import Derived.Test.YtdlppdoankeilaaLexW5
namespace Go.Proofs.Ytdlppdoankeilaa
set_option linter.unusedVariables false
set_option linter.unusedSimpArgs false
set_option linter.unnecessarySimpa false
open Go.RowKit
attribute [local go_sem] cell_alloc_add cell_set_add lt_more
theorem app_len {acc : ByteArray} {r : Int} {j d : Nat} (h : acc.size ≤ 4 * j) (hd : 1 ≤ d) : (acc ++ Utf8.encode r).size ≤ 4 * (j + d) := by
  have := encode_size_le r
  rw [ByteArray.size_append]; omega
/-- What piece answers. -/
def PPost (s : ByteArray) (i : Nat) (e : Ending) : Prop := ∃ (t : Tok) (m ok : Bool), e = .returned (.tuple #[.agg (tokA t), .bool m, .bool ok]) ∧ (match pieceOf s i with
  | some p => ok = true ∧ m = p.2.2 ∧ t = ⟨0, p.1, i, p.2.1⟩
  | none => ok = false ∧ m = false)
theorem PPost.yes {s : ByteArray} {i : Nat} {t : ByteArray} {n : Nat} {m : Bool} (h : pieceOf s i = some (t, n, m)) : PPost s i (.returned (.tuple #[.agg (tokA ⟨0, t, i, n⟩), .bool m, .bool true])) := ⟨_, _, _, rfl, by rw [h]; exact ⟨rfl, rfl, rfl⟩⟩
theorem PPost.no {s : ByteArray} {i : Nat} {t : Tok} (h : pieceOf s i = none) : PPost s i (.returned (.tuple #[.agg (tokA t), .bool false, .bool false])) := ⟨_, _, _, rfl, by rw [h]; exact ⟨rfl, rfl⟩⟩
set_option maxRecDepth 100000 in
set_option maxHeartbeats 4000000 in
theorem rpiece_any (s : ByteArray) (A : Option Addr) (c : Nat) (hs : s.size ≤ 4000000) (hcap : s.size ≤ c) (w : World) {B : Nat} (hB : B ≤ w.heap.size) (h : Rd w B A s.size (byteC s)) (i : Nat) (hi : i < s.size) :
    Calls Try.prog 47 #[.slice A s.size c, .int .i64 (i : Int)] w fun e w' => PPost s i e ∧ Below w.heap.size w w' := by
  have HN := Lib.hid h
  obtain ⟨ad, rfl, hadB, ci⟩ := h i hi
  clear h ci
  go_enter Try.func47, Try.ntmps47
  go_wp2
  go_loopw [8] (fun a wr => ∃ (j : Nat) (acc : ByteArray), i + 1 ≤ j ∧ j ≤ s.size ∧ a = .int .i64 j ∧ Row wr (w.heap.size + 1) 33 #[.int .i64 0, .string acc, .int .i64 (i : Int), .int .i64 0] ∧ Row wr w.heap.size 33 #[.int .i64 0, .string ⟨#[]⟩, .int .i64 0, .int .i64 0] ∧ Below w.heap.size w wr ∧ acc.size ≤ 4 * j ∧ pieceOf s i = pieceGo s j acc) (fun a _ => s.size - (intOf a).toNat)
  case atStart => exact ⟨i + 1, ⟨#[]⟩, Nat.le_refl _, by omega, by go_num, row_new (by simp), (row_new rfl).alloc _, (by (repeat (first | (with_reducible exact Below.refl _ _) | (with_reducible assumption) | (with_reducible refine Below.setCell ?_ (by first | omega | (simp <;> omega)) _) | (with_reducible refine Below.alloc ?_ (by first | omega | (simp <;> omega)) _) | (with_reducible refine Below.drew ?_) | (with_reducible refine below_drewN ?_ _) | (with_reducible refine Below.trans ?_ (Below.mono (by with_reducible assumption) (by first | omega | (simp <;> omega))))))), Nat.zero_le _, rfl⟩
  case round =>
    obtain ⟨j, acc, hij, hj, rfl, rt, rz, hbr, hac, hq⟩ := hrel
    have HQ := Lib.hid hq
    clear hq
    have t0 := rt.cell 0
    have t1 := rt.cell 1
    have t2 := rt.cell 2
    have t3 := rt.cell 3
    have z0 := rz.cell 0
    have z1 := rz.cell 1
    have z2 := rz.cell 2
    have z3 := rz.cell 3
    have ft0 := rt.free 0
    have ft1 := rt.free 1
    have ft2 := rt.free 2
    have ft3 := rt.free 3
    have fz0 := rz.free 0
    have fz1 := rz.free 1
    have fz2 := rz.free 2
    have fz3 := rz.free 3
    have lt := rt.lt
    have lz := rz.lt
    by_cases hjs : j < s.size
    · obtain ⟨ad2, e2, _, c1⟩ := HN.out j hjs
      obtain rfl : ad = ad2 := by injection e2
      clear e2
      unfold byteC at c1
      have d1 := (hbr.cell (p := ad.add j) (by rw [block_add]; omega)).trans c1
      clear c1
      by_cases hcl : bt s j = 96
      · have HX := Lib.hid (PPost.yes (HQ.out.trans (pieceGo_close hjs hcl)))
        rw [hcl] at d1
        clear hcl
        go_wp2
        exact bodyPost_ret (v := .tuple #[.agg (tokA ⟨0, acc, i, j + 1⟩), .bool false, .bool true]) (by simp [results, Try.results47, go_sem, tokA, *]) rfl ⟨HX.out, (by (repeat (first | (with_reducible exact Below.refl _ _) | (with_reducible assumption) | (with_reducible refine Below.setCell ?_ (by first | omega | (simp <;> omega)) _) | (with_reducible refine Below.alloc ?_ (by first | omega | (simp <;> omega)) _) | (with_reducible refine Below.drew ?_) | (with_reducible refine below_drewN ?_ _) | (with_reducible refine Below.trans ?_ (Below.mono (by with_reducible assumption) (by first | omega | (simp <;> omega)))))))⟩
      · have en0 : ((bt s j : Int) == 96) = false := by simp; omega
        by_cases hh : bt s j = 36 ∧ j + 1 < s.size ∧ bt s (j + 1) = 123
        · obtain ⟨h36, hj1, h123⟩ := hh
          have HX := Lib.hid (PPost.yes (HQ.out.trans (pieceGo_hole hj1 h36 h123)))
          obtain ⟨ad3, e3, _, c3⟩ := HN.out (j + 1) hj1
          obtain rfl : ad = ad3 := by injection e3
          clear e3
          unfold byteC at c3
          have d3 := cell_succ ((hbr.cell (p := ad.add (j + 1)) (by rw [block_add]; omega)).trans c3)
          clear c3
          rw [h36] at d1
          rw [h123] at d3
          clear h36 h123 hcl en0
          go_wp2
          exact bodyPost_ret (v := .tuple #[.agg (tokA ⟨0, acc, i, j + 2⟩), .bool true, .bool true]) (by simp [results, Try.results47, go_sem, tokA, *]) rfl ⟨HX.out, (by (repeat (first | (with_reducible exact Below.refl _ _) | (with_reducible assumption) | (with_reducible refine Below.setCell ?_ (by first | omega | (simp <;> omega)) _) | (with_reducible refine Below.alloc ?_ (by first | omega | (simp <;> omega)) _) | (with_reducible refine Below.drew ?_) | (with_reducible refine below_drewN ?_ _) | (with_reducible refine Below.trans ?_ (Below.mono (by with_reducible assumption) (by first | omega | (simp <;> omega)))))))⟩
        · by_cases hesc : bt s j = 92
          · obtain ⟨t, n, ok, hE⟩ : ∃ t n ok, escR s j = (t, n, ok) := ⟨_, _, _, rfl⟩
            have HC := escape_any s (some ad) c hs hcap
            have h1 := esc_of hE
            rw [← one_esc hesc] at h1
            have HC1 := Lib.hid (fun (W : World) (hb : Below w.heap.size w W) => HC W (HN.out.below (hb.mono hB)) j hjs)
            rw [hE] at HC1
            clear HC hE
            cases ok
            · have HX := Lib.hid (fun t => PPost.no (t := t) (HQ.out.trans (pieceGo_bad hjs hcl hh h1)))
              rw [hesc] at d1 en0
              clear hcl hh hesc h1
              go_wp2_with (go_at_call 58; (with_reducible refine (HC1.out _ (by (repeat (first | (with_reducible exact Below.refl _ _) | (with_reducible assumption) | (with_reducible refine Below.setCell ?_ (by first | omega | (simp <;> omega)) _) | (with_reducible refine Below.alloc ?_ (by first | omega | (simp <;> omega)) _) | (with_reducible refine Below.drew ?_) | (with_reducible refine below_drewN ?_ _) | (with_reducible refine Below.trans ?_ (Below.mono (by with_reducible assumption) (by first | omega | (simp <;> omega)))))))).mono ?_); rintro e w1 ⟨rfl, rfl⟩)
              exact bodyPost_ret (v := .tuple #[.agg (tokA ⟨0, acc, i, 0⟩), .bool false, .bool false]) (by simp [results, Try.results47, go_sem, tokA, *]) rfl ⟨HX.out _, (by (repeat (first | (with_reducible exact Below.refl _ _) | (with_reducible assumption) | (with_reducible refine Below.setCell ?_ (by first | omega | (simp <;> omega)) _) | (with_reducible refine Below.alloc ?_ (by first | omega | (simp <;> omega)) _) | (with_reducible refine Below.drew ?_) | (with_reducible refine below_drewN ?_ _) | (with_reducible refine Below.trans ?_ (Below.mono (by with_reducible assumption) (by first | omega | (simp <;> omega)))))))⟩
            · have HX := Lib.hid (HQ.out.trans (pieceGo_step hjs hcl hh h1))
              have hbd := one_bd hjs h1
              have hlen := one_len h1
              rw [hesc] at d1 en0
              clear hcl hh hesc h1
              go_wp2_with (go_at_call 58; (with_reducible refine (HC1.out _ (by (repeat (first | (with_reducible exact Below.refl _ _) | (with_reducible assumption) | (with_reducible refine Below.setCell ?_ (by first | omega | (simp <;> omega)) _) | (with_reducible refine Below.alloc ?_ (by first | omega | (simp <;> omega)) _) | (with_reducible refine Below.drew ?_) | (with_reducible refine below_drewN ?_ _) | (with_reducible refine Below.trans ?_ (Below.mono (by with_reducible assumption) (by first | omega | (simp <;> omega)))))))).mono ?_); rintro e w1 ⟨rfl, rfl⟩)
              exact ⟨⟨n, acc ++ t, by omega, hbd.2, rfl, by have q1 := rt.put 1 (.string (acc ++ t)); simpa using q1, rz.far (by simp) _, (by (repeat (first | (with_reducible exact Below.refl _ _) | (with_reducible assumption) | (with_reducible refine Below.setCell ?_ (by first | omega | (simp <;> omega)) _) | (with_reducible refine Below.alloc ?_ (by first | omega | (simp <;> omega)) _) | (with_reducible refine Below.drew ?_) | (with_reducible refine below_drewN ?_ _) | (with_reducible refine Below.trans ?_ (Below.mono (by with_reducible assumption) (by first | omega | (simp <;> omega))))))), by rw [ByteArray.size_append]; omega, HX.out⟩, by simp [intOf]; omega⟩
          · have en3 : ((bt s j : Int) == 92) = false := by simp; omega
            have HX := Lib.hid (HQ.out.trans (pieceGo_step hjs hcl hh (one_rune hesc)))
            have hbd := one_bd hjs (one_rune hesc)
            have HRD := Lib.hid (HN.out.below (hbr.mono hB))
            have hlen := one_len (one_rune hesc)
            by_cases h36 : bt s j = 36
            · by_cases hj1 : j + 1 < s.size
              · have h123 : bt s (j + 1) ≠ 123 := fun h => hh ⟨h36, hj1, h⟩
                obtain ⟨ad3, e3, _, c3⟩ := HN.out (j + 1) hj1
                obtain rfl : ad = ad3 := by injection e3
                clear e3
                unfold byteC at c3
                have d3 := cell_succ ((hbr.cell (p := ad.add (j + 1)) (by rw [block_add]; omega)).trans c3)
                have en5 : ((bt s (j + 1) : Int) == 123) = false := by simp; omega
                rw [h36] at d1
                have g1 : decide ((j : Int) + 1 < (s.size : Int)) = true := by simp; omega
                clear c3 h123 h36 hcl hh hesc en0 en3
                (go_wp2_with (go_at_call 59; (with_reducible refine (rDecode_in s (some ad) c j hjs (by omega) hcap _ (by omega) HRD.out).mono ?_); rintro e wb1 ⟨rfl, b1⟩; have zb1 : wr.heap.size ≤ wb1.heap.size := (by have hzz := Below.size b1; first | omega | (simp at hzz; omega)); replace b1 := Below.mono (B' := wr.heap.size) b1 (by first | omega | (simp <;> omega)); obtain ⟨hcb1, hfb1⟩ := bcell b1; have lt1 : w.heap.size + 1 < wb1.heap.size := (by omega)); have rt1 := rt.below b1 lt; have rz1 := rz.below b1 lz; exact ⟨⟨j + wd s j, acc ++ Utf8.encode (rn s j : Int), by omega, hbd.2, by go_num, (by have q1 := (rt1.put 1 (.string (acc ++ Utf8.encode (rn s j : Int)))).alloc (.cells #[.int .i64 (j : Int), .int .i32 (rn s j : Int), .int .i64 (wd s j : Int), .bool (gd s j)] 80); simpa using q1), (rz1.far (by simp) _).alloc _, (by (repeat (first | (with_reducible exact Below.refl _ _) | (with_reducible assumption) | (with_reducible refine Below.setCell ?_ (by first | omega | (simp <;> omega)) _) | (with_reducible refine Below.alloc ?_ (by first | omega | (simp <;> omega)) _) | (with_reducible refine Below.drew ?_) | (with_reducible refine below_drewN ?_ _) | (with_reducible refine Below.trans ?_ (Below.mono (by with_reducible assumption) (by first | omega | (simp <;> omega))))))), app_len (r := (rn s j : Int)) (d := wd s j) hac (by omega), HX.out⟩, (by simp [intOf]; omega)⟩)
              · rw [h36] at d1 en0 en3
                have g1 : decide ((j : Int) + 1 < (s.size : Int)) = false := by simp; omega
                clear h36 hcl hh hesc
                (go_wp2_with (go_at_call 59; (with_reducible refine (rDecode_in s (some ad) c j hjs (by omega) hcap _ (by omega) HRD.out).mono ?_); rintro e wb1 ⟨rfl, b1⟩; have zb1 : wr.heap.size ≤ wb1.heap.size := (by have hzz := Below.size b1; first | omega | (simp at hzz; omega)); replace b1 := Below.mono (B' := wr.heap.size) b1 (by first | omega | (simp <;> omega)); obtain ⟨hcb1, hfb1⟩ := bcell b1; have lt1 : w.heap.size + 1 < wb1.heap.size := (by omega)); have rt1 := rt.below b1 lt; have rz1 := rz.below b1 lz; exact ⟨⟨j + wd s j, acc ++ Utf8.encode (rn s j : Int), by omega, hbd.2, by go_num, (by have q1 := (rt1.put 1 (.string (acc ++ Utf8.encode (rn s j : Int)))).alloc (.cells #[.int .i64 (j : Int), .int .i32 (rn s j : Int), .int .i64 (wd s j : Int), .bool (gd s j)] 80); simpa using q1), (rz1.far (by simp) _).alloc _, (by (repeat (first | (with_reducible exact Below.refl _ _) | (with_reducible assumption) | (with_reducible refine Below.setCell ?_ (by first | omega | (simp <;> omega)) _) | (with_reducible refine Below.alloc ?_ (by first | omega | (simp <;> omega)) _) | (with_reducible refine Below.drew ?_) | (with_reducible refine below_drewN ?_ _) | (with_reducible refine Below.trans ?_ (Below.mono (by with_reducible assumption) (by first | omega | (simp <;> omega))))))), app_len (r := (rn s j : Int)) (d := wd s j) hac (by omega), HX.out⟩, (by simp [intOf]; omega)⟩)
            · have en4 : ((bt s j : Int) == 36) = false := by simp; omega
              clear h36 hcl hh hesc
              (go_wp2_with (go_at_call 59; (with_reducible refine (rDecode_in s (some ad) c j hjs (by omega) hcap _ (by omega) HRD.out).mono ?_); rintro e wb1 ⟨rfl, b1⟩; have zb1 : wr.heap.size ≤ wb1.heap.size := (by have hzz := Below.size b1; first | omega | (simp at hzz; omega)); replace b1 := Below.mono (B' := wr.heap.size) b1 (by first | omega | (simp <;> omega)); obtain ⟨hcb1, hfb1⟩ := bcell b1; have lt1 : w.heap.size + 1 < wb1.heap.size := (by omega)); have rt1 := rt.below b1 lt; have rz1 := rz.below b1 lz; exact ⟨⟨j + wd s j, acc ++ Utf8.encode (rn s j : Int), by omega, hbd.2, by go_num, (by have q1 := (rt1.put 1 (.string (acc ++ Utf8.encode (rn s j : Int)))).alloc (.cells #[.int .i64 (j : Int), .int .i32 (rn s j : Int), .int .i64 (wd s j : Int), .bool (gd s j)] 80); simpa using q1), (rz1.far (by simp) _).alloc _, (by (repeat (first | (with_reducible exact Below.refl _ _) | (with_reducible assumption) | (with_reducible refine Below.setCell ?_ (by first | omega | (simp <;> omega)) _) | (with_reducible refine Below.alloc ?_ (by first | omega | (simp <;> omega)) _) | (with_reducible refine Below.drew ?_) | (with_reducible refine below_drewN ?_ _) | (with_reducible refine Below.trans ?_ (Below.mono (by with_reducible assumption) (by first | omega | (simp <;> omega))))))), app_len (r := (rn s j : Int)) (d := wd s j) hac (by omega), HX.out⟩, (by simp [intOf]; omega)⟩)
    · have HX := Lib.hid (fun t => PPost.no (t := t) (HQ.out.trans (pieceGo_end hjs)))
      go_wp2
      exact bodyPost_ret (v := .tuple #[.agg (tokA ⟨0, acc, i, 0⟩), .bool false, .bool false]) (by simp [results, Try.results47, go_sem, tokA, *]) rfl ⟨HX.out _, (by (repeat (first | (with_reducible exact Below.refl _ _) | (with_reducible assumption) | (with_reducible refine Below.setCell ?_ (by first | omega | (simp <;> omega)) _) | (with_reducible refine Below.alloc ?_ (by first | omega | (simp <;> omega)) _) | (with_reducible refine Below.drew ?_) | (with_reducible refine below_drewN ?_ _) | (with_reducible refine Below.trans ?_ (Below.mono (by with_reducible assumption) (by first | omega | (simp <;> omega)))))))⟩
end Go.Proofs.Ytdlppdoankeilaa
