/- The walk of chapter 2's reference 'ahead': blanks and remarks. -/
import Derived.Test.YtdlppdoankeilaaLexW1
import Derived.Test.YtdlppdoankeilaaConv
import Derived.WalkMore
import Derived.TacticsInMore
namespace Go.Proofs.Ytdlppdoankeilaa
set_option linter.unusedVariables false
set_option linter.unusedSimpArgs false
set_option linter.unnecessarySimpa false
open Go.RowKit
attribute [local go_sem] cell_alloc_add cell_set_add lt_more
theorem ret_ib {a b : Int} {x y : Bool} (h : a = b) (h' : x = y) : Ending.returned (.tuple #[.int .i64 a, .bool x]) = .returned (.tuple #[.int .i64 b, .bool y]) := by rw [h, h']
theorem blank_or {c : Nat} (h : blankB c = true) : c = 9 ∨ c = 10 ∨ c = 13 ∨ c = 32 := by simp [blankB] at h; omega
theorem blank_no {c : Nat} (h : blankB c = false) : c ≠ 9 ∧ c ≠ 10 ∧ c ≠ 13 ∧ c ≠ 32 := by simp [blankB] at h; omega
theorem cell_succ {w : World} {a : Addr} {k : Nat} {v : Option Value} (h : w.cell? (a.add (k + 1)) = v) : w.cell? ⟨a.block, a.off + (k + 1), none⟩ = v := by rwa [Addr.add_succ'] at h
set_option maxRecDepth 100000 in
set_option maxHeartbeats 4000000 in
theorem ahead_any (s : ByteArray) (A : Option Addr) (c : Nat) (hs : s.size ≤ 4000000) (hcap : s.size ≤ c) (w : World) {B : Nat} (h : Rd w B A s.size (byteC s)) (i : Nat) (hi : i ≤ s.size) :
    Calls Try.prog 32 #[.slice A s.size c, .int .i64 (i : Int)] w fun e w' => e = .returned (.tuple #[.int .i64 ((skip s i).1 : Int), .bool (skip s i).2]) ∧ w' = w := by
  have HN := Lib.hid h
  clear h
  go_enter Try.func32, Try.ntmps32
  go_wp2
  go_loop [1] (fun a => ∃ k : Nat, k ≤ s.size ∧ a = .int .i64 k ∧ skip s i = skip s k) (fun a => s.size - (intOf a).toNat)
  case atStart => exact ⟨i, hi, rfl, rfl⟩
  case round =>
    obtain ⟨k, hk, rfl, he⟩ := hrel
    have HE := Lib.hid he
    clear he
    by_cases hlt : k < s.size
    · obtain ⟨ad, rfl, _, c1⟩ := HN.out k hlt
      unfold byteC at c1
      cases hbl : blankB (bt s k)
      · obtain ⟨n1, n2, n3, n4⟩ := blank_no hbl
        have e1 : ((bt s k : Int) == (9 : Int)) = false := by simp; omega
        have e2 : ((bt s k : Int) == (10 : Int)) = false := by simp; omega
        have e3 : ((bt s k : Int) == (13 : Int)) = false := by simp; omega
        have e4 : ((bt s k : Int) == (32 : Int)) = false := by simp; omega
        clear n1 n2 n3 n4
        have HB := Lib.hid hbl
        clear hbl
        by_cases hsl : bt s k = 47
        · have HS := Lib.hid hsl
          rw [hsl] at c1
          clear hsl e1 e2 e3 e4
          by_cases hk1 : k + 1 < s.size
          · obtain ⟨ad2, e, _, c2⟩ := HN.out (k + 1) hk1
            obtain rfl : ad = ad2 := by injection e
            clear e
            unfold byteC at c2
            replace c2 := cell_succ c2
            by_cases h47 : bt s (k + 1) = 47
            · have H2 := Lib.hid h47
              rw [h47] at c2
              clear h47
              go_wp2
              go_loop [1] (fun a => ∃ j : Nat, k ≤ j ∧ j ≤ s.size ∧ a = .int .i64 j ∧ lineEnd s k = lineEnd s j) (fun a => s.size - (intOf a).toNat)
              case atStart => exact ⟨k, Nat.le_refl _, hk, rfl, rfl⟩
              case round =>
                obtain ⟨j, hkj, hj, rfl, hl⟩ := hrel
                have HL := Lib.hid hl
                clear hl
                by_cases hjl : j < s.size
                · obtain ⟨ad3, e3, _, c3⟩ := HN.out j hjl
                  obtain rfl : ad = ad3 := by injection e3
                  clear e3
                  unfold byteC at c3
                  by_cases h10 : bt s j = 10
                  · have HX := Lib.hid (skip_line hk1 HS.out H2.out)
                    have HY := Lib.hid (lineEnd_stop (s := s) (i := j) (by omega))
                    have hgt := (lineEnd_gt hlt (by have := HS.out; omega)).1
                    rw [HL.out, HY.out] at hgt
                    rw [h10] at c3
                    clear h10
                    go_wp2
                    go_round
                    case rel => exact ⟨j, by omega, rfl, by rw [HE.out, HX.out, HL.out, HY.out]⟩
                    case measure => simp [intOf]; omega
                  · have HY := Lib.hid (lineEnd_go hjl h10)
                    have e10' : ((bt s j : Int) != (10 : Int)) = true := by simp; omega
                    clear h10
                    go_wp2
                    go_round
                    case rel => exact ⟨j + 1, by omega, by omega, by go_num, by rw [HL.out, HY.out]⟩
                    case measure => simp [intOf]; omega
                · obtain rfl : j = s.size := by omega
                  have HX := Lib.hid (skip_line hk1 HS.out H2.out)
                  have HY := Lib.hid (lineEnd_stop (s := s) (i := s.size) (by omega))
                  go_wp2
                  go_round
                  case rel => exact ⟨s.size, Nat.le_refl _, rfl, by rw [HE.out, HX.out, HL.out, HY.out]⟩
                  case measure => simp [intOf]; omega
            · by_cases h42 : bt s (k + 1) = 42
              · have H2 := Lib.hid h42
                rw [h42] at c2
                clear h42 h47
                go_wp2
                go_loop [7] (fun a => ∃ j : Nat, k + 2 ≤ j ∧ a = .int .i64 j ∧ j ≤ s.size + 1 ∧ remEnd s (k + 2) = remEnd s j) (fun a => s.size + 1 - (intOf a).toNat)
                case atStart => exact ⟨k + 2, Nat.le_refl _, by go_num, by omega, rfl⟩
                case round =>
                  obtain ⟨j, hkj, rfl, hj, hl⟩ := hrel
                  have HL := Lib.hid hl
                  clear hl
                  by_cases hjl : j + 1 < s.size
                  · obtain ⟨ad3, e3, _, c3⟩ := HN.out j (by omega)
                    obtain rfl : ad = ad3 := by injection e3
                    clear e3
                    unfold byteC at c3
                    obtain ⟨ad4, e4, _, c4⟩ := HN.out (j + 1) hjl
                    obtain rfl : ad = ad4 := by injection e4
                    clear e4
                    unfold byteC at c4
                    replace c4 := cell_succ c4
                    by_cases hst : bt s j = 42
                    · by_cases hsl2 : bt s (j + 1) = 47
                      · have HY := Lib.hid (remEnd_stop (s := s) (i := j) (by omega))
                        have HX := Lib.hid (skip_rem hk1 HS.out H2.out (by rw [HL.out, HY.out]; exact hjl))
                        rw [hst] at c3
                        rw [hsl2] at c4
                        clear hst hsl2
                        go_wp2
                        go_round
                        case rel => exact ⟨j + 2, by omega, by go_num, by rw [HE.out, HX.out, HL.out, HY.out]⟩
                        case measure => simp [intOf]; omega
                      · have HY := Lib.hid (remEnd_go (s := s) (i := j) hjl (by omega))
                        have e47' : ((bt s (j + 1) : Int) != (47 : Int)) = true := by simp; omega
                        rw [hst] at c3
                        clear hst hsl2
                        go_wp2
                        go_round
                        case rel => exact ⟨j + 1, by omega, by go_num, by omega, by rw [HL.out, HY.out]⟩
                        case measure => simp [intOf]; omega
                    · have HY := Lib.hid (remEnd_go (s := s) (i := j) hjl (by omega))
                      have e42' : ((bt s j : Int) != (42 : Int)) = true := by simp; omega
                      clear hst
                      go_wp2
                      go_round
                      case rel => exact ⟨j + 1, by omega, by go_num, by omega, by rw [HL.out, HY.out]⟩
                      case measure => simp [intOf]; omega
                  · have HY := Lib.hid (remEnd_stop (s := s) (i := j) (by omega))
                    have HX := Lib.hid (skip_bad hk1 HS.out H2.out (by rw [HL.out, HY.out]; exact hjl))
                    go_wp2
                    go_ret2
                    exact ⟨by rw [HE.out, HX.out]; rfl, rfl⟩
              · have e5 : ((bt s (k + 1) : Int) == (47 : Int)) = false := by simp; omega
                have e6 : ((bt s (k + 1) : Int) == (42 : Int)) = false := by simp; omega
                have HX := Lib.hid (skip_stop hlt HB.out (by rintro ⟨_, _, h⟩; exact h47 h) (by rintro ⟨_, _, h⟩; exact h42 h))
                clear h47 h42
                go_wp2
                go_ret2
                exact ⟨by rw [HE.out, HX.out]; rfl, rfl⟩
          · have HX := Lib.hid (skip_stop hlt HB.out (by rintro ⟨_, h, _⟩; exact hk1 h) (by rintro ⟨_, h, _⟩; exact hk1 h))
            go_wp2
            go_ret2
            exact ⟨by rw [HE.out, HX.out]; rfl, rfl⟩
        · have e5 : ((bt s k : Int) == (47 : Int)) = false := by simp; omega
          have HX := Lib.hid (skip_stop hlt HB.out (by rintro ⟨h, _, _⟩; exact hsl h) (by rintro ⟨h, _, _⟩; exact hsl h))
          clear hsl
          go_wp2
          go_ret2
          exact ⟨by rw [HE.out, HX.out]; rfl, rfl⟩
      · have HB := Lib.hid (skip_blank hlt hbl)
        rcases blank_or hbl with h9 | h9 | h9 | h9
        all_goals
          rw [h9] at c1
          clear hbl h9
          go_wp2
          go_round
          case rel => exact ⟨k + 1, by omega, by go_num, by rw [HE.out, HB.out]⟩
          case measure => simp [intOf]; omega
    · have HX := Lib.hid (skip_end hlt)
      go_wp2
      go_ret2
      exact ⟨by rw [HE.out, HX.out]; rfl, rfl⟩
end Go.Proofs.Ytdlppdoankeilaa
