/- Plain: the tokens of the law's known text. No program in sight. -/
import Derived.Test.YtdlppdoankeilaaDoorWin2
import Derived.KernelRfl
namespace Go.Proofs.YtdlppdoankeilaaDoor
set_option linter.unusedVariables false
set_option linter.unusedSimpArgs false
set_option linter.unnecessarySimpa false
open Go.RowKit
def k14 : ByteArray := ⟨#[108, 101, 116, 32, 120, 32, 61, 32, 34, 97, 92, 110, 34, 59]⟩
theorem k14_size : k14.size = 14 := rfl
theorem skipB {s : ByteArray} {i j : Nat} (h : i < s.size) (hb : blankB (bt s i) = true) (e : skip s (i + 1) = (j, true)) : skip s i = (j, true) := (skip_blank h hb).trans e
theorem skipN {s : ByteArray} {i : Nat} (h : i < s.size) (hn : NoSkip s i) : skip s i = (i, true) := hn.skip h
theorem t0 : tokAt k14 0 [] = some (⟨2, ⟨#[108, 101, 116]⟩, 0, 3⟩, []) := by
  have hw : wordEnd k14 0 = 3 := by rw [wordEnd_go (by decide) (by decide), wordEnd_go (by decide) (by decide), wordEnd_go (by decide) (by decide), wordEnd_stop (by decide)]
  unfold tokAt
  rw [if_pos (by decide), hw, show k14.extract 0 3 = ⟨#[108, 101, 116]⟩ by rfl, if_pos (by decide)]
theorem t1 : tokAt k14 4 [] = some (⟨1, ⟨#[120]⟩, 4, 5⟩, []) := by
  have hw : wordEnd k14 4 = 5 := by rw [wordEnd_go (by decide) (by decide), wordEnd_stop (by decide)]
  unfold tokAt
  rw [if_pos (by decide), hw, show k14.extract 4 5 = ⟨#[120]⟩ by rfl, if_neg (by decide)]
theorem t2 : tokAt k14 6 [] = some (⟨9, ⟨#[61]⟩, 6, 7⟩, []) := by
  have hw : signAt k14 6 = 1 := by unfold signAt; rw [if_neg (by decide), if_neg (by decide), if_pos (by decide)]
  unfold tokAt
  rw [hw, if_neg (by decide), if_neg (by decide), if_neg (by decide), if_neg (by decide), if_neg (by decide), if_neg (by decide), if_neg (by decide), if_neg (by decide)]
  rfl
theorem t3 : tokAt k14 8 [] = some (⟨4, ⟨#[97, 10]⟩, 8, 13⟩, []) := by
  have o1 : one k14 9 = some (⟨#[97]⟩, 10) := by unfold one; rw [if_neg (by decide)]; kernel_rfl
  have o2 : one k14 10 = some (⟨#[10]⟩, 12) := by unfold one; rw [if_pos (by decide)]; rfl
  have hq : quotedOf k14 8 = some (⟨#[97, 10]⟩, 13) := by
    unfold quotedOf
    rw [show bt k14 8 = 34 by rfl, quotedGo_step (by decide) (by decide) (by decide) o1, quotedGo_step (by decide) (by decide) (by decide) o2, quotedGo_close (by decide) (by decide)]
    rfl
  unfold tokAt
  rw [hq, if_neg (by decide), if_neg (by decide), if_pos (by decide)]
  rfl
theorem t4 : tokAt k14 13 [] = some (⟨9, ⟨#[59]⟩, 13, 14⟩, []) := by
  have hw : signAt k14 13 = 1 := by unfold signAt; rw [if_neg (by decide), if_neg (by decide), if_pos (by decide)]
  unfold tokAt
  rw [hw, if_neg (by decide), if_neg (by decide), if_neg (by decide), if_neg (by decide), if_neg (by decide), if_neg (by decide), if_neg (by decide), if_neg (by decide)]
  rfl
def k14L : List Tok := [⟨2, ⟨#[108, 101, 116]⟩, 0, 3⟩, ⟨1, ⟨#[120]⟩, 4, 5⟩, ⟨9, ⟨#[61]⟩, 6, 7⟩, ⟨4, ⟨#[97, 10]⟩, 8, 13⟩, ⟨9, ⟨#[59]⟩, 13, 14⟩, ⟨10, ⟨#[]⟩, 14, 14⟩]
theorem k14_toks : toks k14 0 [] = (k14L, none) := by
  rw [toks_step (by decide) (skipN (by decide) (by unfold NoSkip; decide)) (by decide) t0]
  show ((_ :: (toks k14 3 []).1, (toks k14 3 []).2) : List Tok × Option Nat) = _
  rw [toks_step (by decide) (skipB (by decide) (by decide) (skipN (by decide) (by unfold NoSkip; decide))) (by decide) t1]
  show ((_ :: _ :: (toks k14 5 []).1, (toks k14 5 []).2) : List Tok × Option Nat) = _
  rw [toks_step (by decide) (skipB (by decide) (by decide) (skipN (by decide) (by unfold NoSkip; decide))) (by decide) t2]
  show ((_ :: _ :: _ :: (toks k14 7 []).1, (toks k14 7 []).2) : List Tok × Option Nat) = _
  rw [toks_step (by decide) (skipB (by decide) (by decide) (skipN (by decide) (by unfold NoSkip; decide))) (by decide) t3]
  show ((_ :: _ :: _ :: _ :: (toks k14 13 []).1, (toks k14 13 []).2) : List Tok × Option Nat) = _
  rw [toks_step (by decide) (skipN (by decide) (by unfold NoSkip; decide)) (by decide) t4]
  show ((_ :: _ :: _ :: _ :: _ :: (toks k14 14 []).1, (toks k14 14 []).2) : List Tok × Option Nat) = _
  rw [toks_end (skip_end (by decide)) (by decide)]
  rfl
end Go.Proofs.YtdlppdoankeilaaDoor
