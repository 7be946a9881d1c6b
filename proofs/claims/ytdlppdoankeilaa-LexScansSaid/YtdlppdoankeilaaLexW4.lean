/- The walk of chapter 2's reference: an escape. -/
import Derived.Test.YtdlppdoankeilaaLexW3
import Derived.Test.YtdlppdoankeilaaCut
namespace Go.Proofs.Ytdlppdoankeilaa
set_option linter.unusedVariables false
set_option linter.unusedSimpArgs false
set_option linter.unnecessarySimpa false
open Go.RowKit
attribute [local go_sem] cell_alloc_add cell_set_add lt_more
set_option maxRecDepth 100000 in
set_option maxHeartbeats 4000000 in
theorem escape_any (s : ByteArray) (A : Option Addr) (c : Nat) (hs : s.size ≤ 4000000) (hcap : s.size ≤ c) (w : World) {B : Nat} (h : Rd w B A s.size (byteC s)) (i : Nat) (hi : i < s.size) : Calls Try.prog 58 #[.slice A s.size c, .int .i64 (i : Int)] w fun e w' => e = .returned (.tuple #[.string (escR s i).1, .int .i64 ((escR s i).2.1 : Int), .bool (escR s i).2.2]) ∧ w' = w := by
  by_cases h1 : i + 1 < s.size
  · by_cases h117 : bt s (i + 1) = 117
    · exact escape_hex s A c hs hcap w h i hi h1 h117
    · have HN := Lib.hid h
      clear h
      obtain ⟨ad, rfl, _, c1⟩ := HN.out (i + 1) h1
      unfold byteC at c1
      replace c1 := cell_succ c1
      have kc : (convert 22 9 (.slice (some ⟨ad.block, ad.off + (i + 1), none⟩) 1 (c - (i + 1)))).run Try.prog w = .ok (.string (s.extract (i + 1) (i + 2))) w := by
        have := run_part (P := Try.prog) 22 9 5 Try.underlying22 Try.underlying5 Try.underlying9 HN.out (i + 1) 1 (c - (i + 1)) (by omega)
        rwa [Addr.add_succ'] at this
      by_cases g1 : bt s (i + 1) = 110
      · have HV := Lib.hid (escR_some (s := s) (i := i) (t := one1 10) (n := i + 2) (by unfold esc; rw [if_pos h1, if_pos g1]))
        rw [g1] at c1
        clear g1
        go_enter Try.func58, Try.ntmps58
        go_wp2
        go_ret3
        exact ⟨by rw [HV.out]; rfl, rfl⟩
      by_cases g2 : bt s (i + 1) = 114
      · have HV := Lib.hid (escR_some (s := s) (i := i) (t := one1 13) (n := i + 2) (by unfold esc; rw [if_pos h1, if_neg g1, if_pos g2]))
        rw [g2] at c1
        clear g2
        go_enter Try.func58, Try.ntmps58
        go_wp2
        go_ret3
        exact ⟨by rw [HV.out]; rfl, rfl⟩
      by_cases g3 : bt s (i + 1) = 116
      · have HV := Lib.hid (escR_some (s := s) (i := i) (t := one1 9) (n := i + 2) (by unfold esc; rw [if_pos h1, if_neg g1, if_neg g2, if_pos g3]))
        rw [g3] at c1
        clear g3
        go_enter Try.func58, Try.ntmps58
        go_wp2
        go_ret3
        exact ⟨by rw [HV.out]; rfl, rfl⟩
      by_cases g4 : bt s (i + 1) = 48
      · have HV := Lib.hid (escR_some (s := s) (i := i) (t := one1 0) (n := i + 2) (by unfold esc; rw [if_pos h1, if_neg g1, if_neg g2, if_neg g3, if_pos g4]))
        rw [g4] at c1
        clear g4
        go_enter Try.func58, Try.ntmps58
        go_wp2
        go_ret3
        exact ⟨by rw [HV.out]; rfl, rfl⟩
      by_cases g5 : bt s (i + 1) = 92 ∨ bt s (i + 1) = 34 ∨ bt s (i + 1) = 39 ∨ bt s (i + 1) = 36 ∨ bt s (i + 1) = 96
      · have HV := Lib.hid (escR_some (s := s) (i := i) (t := s.extract (i + 1) (i + 2)) (n := i + 2) (by unfold esc; rw [extract_one h1, if_pos h1, if_neg g1, if_neg g2, if_neg g3, if_neg g4, if_pos g5]))
        clear g1 g2 g3 g4 h117
        rcases g5 with g | g | g | g | g
        all_goals
          rw [g] at c1
          clear g
          go_enter Try.func58, Try.ntmps58
          go_wp2
          go_ret3
          exact ⟨by rw [HV.out]; rfl, rfl⟩
      have HV := Lib.hid (escR_none (s := s) (i := i) (by unfold esc; rw [if_pos h1, if_neg g1, if_neg g2, if_neg g3, if_neg g4, if_neg g5, if_neg h117]))
      have f1 : ((bt s (i + 1) : Int) == 110) = false := by simp; omega
      have f2 : ((bt s (i + 1) : Int) == 114) = false := by simp; omega
      have f3 : ((bt s (i + 1) : Int) == 116) = false := by simp; omega
      have f4 : ((bt s (i + 1) : Int) == 48) = false := by simp; omega
      have f5 : ((bt s (i + 1) : Int) == 92) = false := by simp; omega
      have f6 : ((bt s (i + 1) : Int) == 34) = false := by simp; omega
      have f7 : ((bt s (i + 1) : Int) == 39) = false := by simp; omega
      have f8 : ((bt s (i + 1) : Int) == 36) = false := by simp; omega
      have f9 : ((bt s (i + 1) : Int) == 96) = false := by simp; omega
      have f0 : ((bt s (i + 1) : Int) == 117) = false := by simp; omega
      clear g1 g2 g3 g4 g5 h117
      go_enter Try.func58, Try.ntmps58
      go_wp2
      go_ret3
      exact ⟨by rw [HV.out]; rfl, rfl⟩
  · have HV := Lib.hid (escR_none (s := s) (i := i) (by unfold esc; rw [if_neg h1]))
    clear h
    go_enter Try.func58, Try.ntmps58
    go_wp2
    go_ret3
    exact ⟨by rw [HV.out]; rfl, rfl⟩
end Go.Proofs.Ytdlppdoankeilaa
