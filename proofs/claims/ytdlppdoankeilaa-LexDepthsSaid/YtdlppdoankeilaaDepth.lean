/- The walks of chapter 2's Depth, of the program and of the reference. -/
import Derived.Test.YtdlppdoankeilaaRowT
import Derived.Test.YtdlppdoankeilaaLexW13
namespace Go.Proofs.Ytdlppdoankeilaa
set_option linter.unusedVariables false
set_option linter.unusedSimpArgs false
set_option linter.unnecessarySimpa false
open Go.RowKit
attribute [local go_sem] cell_alloc_add cell_set_add lt_more
/-- What a token does to how many brackets are open. -/
def turnT (k : Int) (x : ByteArray) : Int :=
  if k = 6 then 1 else if k = 8 then -1 else if k = 9 then (if (x.toList == [40]) = true then 1 else if (x.toList == [91]) = true then 1 else if (x.toList == [123]) = true then 1 else if (x.toList == [41]) = true then -1 else if (x.toList == [93]) = true then -1 else if (x.toList == [125]) = true then -1 else 0) else 0
theorem turnT_bd (k : Int) (x : ByteArray) : -1 ≤ turnT k x ∧ turnT k x ≤ 1 := by
  unfold turnT
  repeat' split
  all_goals omega
set_option maxRecDepth 100000 in
set_option maxHeartbeats 4000000 in
theorem Turn_any (k a e : Int) (x : ByteArray) (w : World) : Calls Try.prog 30 #[.agg #[.int .i64 k, .string x, .int .i64 a, .int .i64 e]] w fun r w' => r = .returned (.int .i64 (turnT k x)) ∧ Below w.heap.size w w' := by
  by_cases k6 : k = 6
  · subst k6
    have HT : Hid (turnT 6 x = 1) := Lib.hid (by simp [turnT])
    go_enter Try.func30, Try.ntmps30
    go_wp2
    all_goals (refine bodyPost_ret (v := .int .i64 (1)) (by simp [results, Try.results30, go_sem]) rfl ⟨by rw [HT.out], (by (repeat (first | (with_reducible exact Below.refl _ _) | (with_reducible assumption) | (with_reducible refine Below.setCell ?_ (by first | omega | (simp <;> omega)) _) | (with_reducible refine Below.alloc ?_ (by first | omega | (simp <;> omega)) _) | (with_reducible refine Below.drew ?_) | (with_reducible refine below_drewN ?_ _) | (with_reducible refine Below.trans ?_ (Below.mono (by with_reducible assumption) (by first | omega | (simp <;> omega)))))))⟩)
  · have k6' : (k == 6) = false := by simpa using k6
    by_cases k8 : k = 8
    · subst k8
      have HT : Hid (turnT 8 x = -1) := Lib.hid (by simp [turnT])
      go_enter Try.func30, Try.ntmps30
      go_wp2
      all_goals (refine bodyPost_ret (v := .int .i64 (-1)) (by simp [results, Try.results30, go_sem]) rfl ⟨by rw [HT.out], (by (repeat (first | (with_reducible exact Below.refl _ _) | (with_reducible assumption) | (with_reducible refine Below.setCell ?_ (by first | omega | (simp <;> omega)) _) | (with_reducible refine Below.alloc ?_ (by first | omega | (simp <;> omega)) _) | (with_reducible refine Below.drew ?_) | (with_reducible refine below_drewN ?_ _) | (with_reducible refine Below.trans ?_ (Below.mono (by with_reducible assumption) (by first | omega | (simp <;> omega)))))))⟩)
    · have k8' : (k == 8) = false := by simpa using k8
      by_cases k9 : k = 9
      · subst k9
        clear k6 k6' k8 k8'
        cases h1 : (x.toList == [40])
        · cases h2 : (x.toList == [91])
          · cases h3 : (x.toList == [123])
            · cases h4 : (x.toList == [41])
              · cases h5 : (x.toList == [93])
                · cases h6 : (x.toList == [125])
                  · have HT : Hid (turnT 9 x = 0) := Lib.hid (by simp only [turnT, h1, h2, h3, h4, h5, h6]; simp)
                    go_enter Try.func30, Try.ntmps30
                    go_wp2
                    all_goals (refine bodyPost_ret (v := .int .i64 (0)) (by simp [results, Try.results30, go_sem]) rfl ⟨by rw [HT.out], (by (repeat (first | (with_reducible exact Below.refl _ _) | (with_reducible assumption) | (with_reducible refine Below.setCell ?_ (by first | omega | (simp <;> omega)) _) | (with_reducible refine Below.alloc ?_ (by first | omega | (simp <;> omega)) _) | (with_reducible refine Below.drew ?_) | (with_reducible refine below_drewN ?_ _) | (with_reducible refine Below.trans ?_ (Below.mono (by with_reducible assumption) (by first | omega | (simp <;> omega)))))))⟩)
                  · have HT : Hid (turnT 9 x = -1) := Lib.hid (by simp only [turnT, h1, h2, h3, h4, h5, h6]; simp)
                    go_enter Try.func30, Try.ntmps30
                    go_wp2
                    all_goals (refine bodyPost_ret (v := .int .i64 (-1)) (by simp [results, Try.results30, go_sem]) rfl ⟨by rw [HT.out], (by (repeat (first | (with_reducible exact Below.refl _ _) | (with_reducible assumption) | (with_reducible refine Below.setCell ?_ (by first | omega | (simp <;> omega)) _) | (with_reducible refine Below.alloc ?_ (by first | omega | (simp <;> omega)) _) | (with_reducible refine Below.drew ?_) | (with_reducible refine below_drewN ?_ _) | (with_reducible refine Below.trans ?_ (Below.mono (by with_reducible assumption) (by first | omega | (simp <;> omega)))))))⟩)
                · have HT : Hid (turnT 9 x = -1) := Lib.hid (by simp only [turnT, h1, h2, h3, h4, h5]; simp)
                  go_enter Try.func30, Try.ntmps30
                  go_wp2
                  all_goals (refine bodyPost_ret (v := .int .i64 (-1)) (by simp [results, Try.results30, go_sem]) rfl ⟨by rw [HT.out], (by (repeat (first | (with_reducible exact Below.refl _ _) | (with_reducible assumption) | (with_reducible refine Below.setCell ?_ (by first | omega | (simp <;> omega)) _) | (with_reducible refine Below.alloc ?_ (by first | omega | (simp <;> omega)) _) | (with_reducible refine Below.drew ?_) | (with_reducible refine below_drewN ?_ _) | (with_reducible refine Below.trans ?_ (Below.mono (by with_reducible assumption) (by first | omega | (simp <;> omega)))))))⟩)
              · have HT : Hid (turnT 9 x = -1) := Lib.hid (by simp only [turnT, h1, h2, h3, h4]; simp)
                go_enter Try.func30, Try.ntmps30
                go_wp2
                all_goals (refine bodyPost_ret (v := .int .i64 (-1)) (by simp [results, Try.results30, go_sem]) rfl ⟨by rw [HT.out], (by (repeat (first | (with_reducible exact Below.refl _ _) | (with_reducible assumption) | (with_reducible refine Below.setCell ?_ (by first | omega | (simp <;> omega)) _) | (with_reducible refine Below.alloc ?_ (by first | omega | (simp <;> omega)) _) | (with_reducible refine Below.drew ?_) | (with_reducible refine below_drewN ?_ _) | (with_reducible refine Below.trans ?_ (Below.mono (by with_reducible assumption) (by first | omega | (simp <;> omega)))))))⟩)
            · have HT : Hid (turnT 9 x = 1) := Lib.hid (by simp only [turnT, h1, h2, h3]; simp)
              go_enter Try.func30, Try.ntmps30
              go_wp2
              all_goals (refine bodyPost_ret (v := .int .i64 (1)) (by simp [results, Try.results30, go_sem]) rfl ⟨by rw [HT.out], (by (repeat (first | (with_reducible exact Below.refl _ _) | (with_reducible assumption) | (with_reducible refine Below.setCell ?_ (by first | omega | (simp <;> omega)) _) | (with_reducible refine Below.alloc ?_ (by first | omega | (simp <;> omega)) _) | (with_reducible refine Below.drew ?_) | (with_reducible refine below_drewN ?_ _) | (with_reducible refine Below.trans ?_ (Below.mono (by with_reducible assumption) (by first | omega | (simp <;> omega)))))))⟩)
          · have HT : Hid (turnT 9 x = 1) := Lib.hid (by simp only [turnT, h1, h2]; simp)
            go_enter Try.func30, Try.ntmps30
            go_wp2
            all_goals (refine bodyPost_ret (v := .int .i64 (1)) (by simp [results, Try.results30, go_sem]) rfl ⟨by rw [HT.out], (by (repeat (first | (with_reducible exact Below.refl _ _) | (with_reducible assumption) | (with_reducible refine Below.setCell ?_ (by first | omega | (simp <;> omega)) _) | (with_reducible refine Below.alloc ?_ (by first | omega | (simp <;> omega)) _) | (with_reducible refine Below.drew ?_) | (with_reducible refine below_drewN ?_ _) | (with_reducible refine Below.trans ?_ (Below.mono (by with_reducible assumption) (by first | omega | (simp <;> omega)))))))⟩)
        · have HT : Hid (turnT 9 x = 1) := Lib.hid (by simp only [turnT, h1]; simp)
          go_enter Try.func30, Try.ntmps30
          go_wp2
          all_goals (refine bodyPost_ret (v := .int .i64 (1)) (by simp [results, Try.results30, go_sem]) rfl ⟨by rw [HT.out], (by (repeat (first | (with_reducible exact Below.refl _ _) | (with_reducible assumption) | (with_reducible refine Below.setCell ?_ (by first | omega | (simp <;> omega)) _) | (with_reducible refine Below.alloc ?_ (by first | omega | (simp <;> omega)) _) | (with_reducible refine Below.drew ?_) | (with_reducible refine below_drewN ?_ _) | (with_reducible refine Below.trans ?_ (Below.mono (by with_reducible assumption) (by first | omega | (simp <;> omega)))))))⟩)
      · have k9' : (k == 9) = false := by simpa using k9
        have HT : Hid (turnT k x = 0) := Lib.hid (by simp [turnT, k6, k8, k9])
        clear k6 k8 k9
        go_enter Try.func30, Try.ntmps30
        go_wp2
        all_goals (refine bodyPost_ret (v := .int .i64 (0)) (by simp [results, Try.results30, go_sem]) rfl ⟨by rw [HT.out], (by (repeat (first | (with_reducible exact Below.refl _ _) | (with_reducible assumption) | (with_reducible refine Below.setCell ?_ (by first | omega | (simp <;> omega)) _) | (with_reducible refine Below.alloc ?_ (by first | omega | (simp <;> omega)) _) | (with_reducible refine Below.drew ?_) | (with_reducible refine below_drewN ?_ _) | (with_reducible refine Below.trans ?_ (Below.mono (by with_reducible assumption) (by first | omega | (simp <;> omega)))))))⟩)
set_option maxRecDepth 100000 in
set_option maxHeartbeats 4000000 in
theorem rTurn_any (k a e : Int) (x : ByteArray) (w : World) : Calls Try.prog 31 #[.agg #[.int .i64 k, .string x, .int .i64 a, .int .i64 e]] w fun r w' => r = .returned (.int .i64 (turnT k x)) ∧ Below w.heap.size w w' := by
  by_cases k6 : k = 6
  · subst k6
    have HT : Hid (turnT 6 x = 1) := Lib.hid (by simp [turnT])
    go_enter Try.func31, Try.ntmps31
    go_wp2
    all_goals (refine bodyPost_ret (v := .int .i64 (1)) (by simp [results, Try.results31, go_sem]) rfl ⟨by rw [HT.out], (by (repeat (first | (with_reducible exact Below.refl _ _) | (with_reducible assumption) | (with_reducible refine Below.setCell ?_ (by first | omega | (simp <;> omega)) _) | (with_reducible refine Below.alloc ?_ (by first | omega | (simp <;> omega)) _) | (with_reducible refine Below.drew ?_) | (with_reducible refine below_drewN ?_ _) | (with_reducible refine Below.trans ?_ (Below.mono (by with_reducible assumption) (by first | omega | (simp <;> omega)))))))⟩)
  · have k6' : (k == 6) = false := by simpa using k6
    by_cases k8 : k = 8
    · subst k8
      have HT : Hid (turnT 8 x = -1) := Lib.hid (by simp [turnT])
      go_enter Try.func31, Try.ntmps31
      go_wp2
      all_goals (refine bodyPost_ret (v := .int .i64 (-1)) (by simp [results, Try.results31, go_sem]) rfl ⟨by rw [HT.out], (by (repeat (first | (with_reducible exact Below.refl _ _) | (with_reducible assumption) | (with_reducible refine Below.setCell ?_ (by first | omega | (simp <;> omega)) _) | (with_reducible refine Below.alloc ?_ (by first | omega | (simp <;> omega)) _) | (with_reducible refine Below.drew ?_) | (with_reducible refine below_drewN ?_ _) | (with_reducible refine Below.trans ?_ (Below.mono (by with_reducible assumption) (by first | omega | (simp <;> omega)))))))⟩)
    · have k8' : (k == 8) = false := by simpa using k8
      by_cases k9 : k = 9
      · subst k9
        clear k6 k6' k8 k8'
        cases h1 : (x.toList == [40])
        · cases h2 : (x.toList == [91])
          · cases h3 : (x.toList == [123])
            · cases h4 : (x.toList == [41])
              · cases h5 : (x.toList == [93])
                · cases h6 : (x.toList == [125])
                  · have HT : Hid (turnT 9 x = 0) := Lib.hid (by simp only [turnT, h1, h2, h3, h4, h5, h6]; simp)
                    go_enter Try.func31, Try.ntmps31
                    go_wp2
                    all_goals (refine bodyPost_ret (v := .int .i64 (0)) (by simp [results, Try.results31, go_sem]) rfl ⟨by rw [HT.out], (by (repeat (first | (with_reducible exact Below.refl _ _) | (with_reducible assumption) | (with_reducible refine Below.setCell ?_ (by first | omega | (simp <;> omega)) _) | (with_reducible refine Below.alloc ?_ (by first | omega | (simp <;> omega)) _) | (with_reducible refine Below.drew ?_) | (with_reducible refine below_drewN ?_ _) | (with_reducible refine Below.trans ?_ (Below.mono (by with_reducible assumption) (by first | omega | (simp <;> omega)))))))⟩)
                  · have HT : Hid (turnT 9 x = -1) := Lib.hid (by simp only [turnT, h1, h2, h3, h4, h5, h6]; simp)
                    go_enter Try.func31, Try.ntmps31
                    go_wp2
                    all_goals (refine bodyPost_ret (v := .int .i64 (-1)) (by simp [results, Try.results31, go_sem]) rfl ⟨by rw [HT.out], (by (repeat (first | (with_reducible exact Below.refl _ _) | (with_reducible assumption) | (with_reducible refine Below.setCell ?_ (by first | omega | (simp <;> omega)) _) | (with_reducible refine Below.alloc ?_ (by first | omega | (simp <;> omega)) _) | (with_reducible refine Below.drew ?_) | (with_reducible refine below_drewN ?_ _) | (with_reducible refine Below.trans ?_ (Below.mono (by with_reducible assumption) (by first | omega | (simp <;> omega)))))))⟩)
                · have HT : Hid (turnT 9 x = -1) := Lib.hid (by simp only [turnT, h1, h2, h3, h4, h5]; simp)
                  go_enter Try.func31, Try.ntmps31
                  go_wp2
                  all_goals (refine bodyPost_ret (v := .int .i64 (-1)) (by simp [results, Try.results31, go_sem]) rfl ⟨by rw [HT.out], (by (repeat (first | (with_reducible exact Below.refl _ _) | (with_reducible assumption) | (with_reducible refine Below.setCell ?_ (by first | omega | (simp <;> omega)) _) | (with_reducible refine Below.alloc ?_ (by first | omega | (simp <;> omega)) _) | (with_reducible refine Below.drew ?_) | (with_reducible refine below_drewN ?_ _) | (with_reducible refine Below.trans ?_ (Below.mono (by with_reducible assumption) (by first | omega | (simp <;> omega)))))))⟩)
              · have HT : Hid (turnT 9 x = -1) := Lib.hid (by simp only [turnT, h1, h2, h3, h4]; simp)
                go_enter Try.func31, Try.ntmps31
                go_wp2
                all_goals (refine bodyPost_ret (v := .int .i64 (-1)) (by simp [results, Try.results31, go_sem]) rfl ⟨by rw [HT.out], (by (repeat (first | (with_reducible exact Below.refl _ _) | (with_reducible assumption) | (with_reducible refine Below.setCell ?_ (by first | omega | (simp <;> omega)) _) | (with_reducible refine Below.alloc ?_ (by first | omega | (simp <;> omega)) _) | (with_reducible refine Below.drew ?_) | (with_reducible refine below_drewN ?_ _) | (with_reducible refine Below.trans ?_ (Below.mono (by with_reducible assumption) (by first | omega | (simp <;> omega)))))))⟩)
            · have HT : Hid (turnT 9 x = 1) := Lib.hid (by simp only [turnT, h1, h2, h3]; simp)
              go_enter Try.func31, Try.ntmps31
              go_wp2
              all_goals (refine bodyPost_ret (v := .int .i64 (1)) (by simp [results, Try.results31, go_sem]) rfl ⟨by rw [HT.out], (by (repeat (first | (with_reducible exact Below.refl _ _) | (with_reducible assumption) | (with_reducible refine Below.setCell ?_ (by first | omega | (simp <;> omega)) _) | (with_reducible refine Below.alloc ?_ (by first | omega | (simp <;> omega)) _) | (with_reducible refine Below.drew ?_) | (with_reducible refine below_drewN ?_ _) | (with_reducible refine Below.trans ?_ (Below.mono (by with_reducible assumption) (by first | omega | (simp <;> omega)))))))⟩)
          · have HT : Hid (turnT 9 x = 1) := Lib.hid (by simp only [turnT, h1, h2]; simp)
            go_enter Try.func31, Try.ntmps31
            go_wp2
            all_goals (refine bodyPost_ret (v := .int .i64 (1)) (by simp [results, Try.results31, go_sem]) rfl ⟨by rw [HT.out], (by (repeat (first | (with_reducible exact Below.refl _ _) | (with_reducible assumption) | (with_reducible refine Below.setCell ?_ (by first | omega | (simp <;> omega)) _) | (with_reducible refine Below.alloc ?_ (by first | omega | (simp <;> omega)) _) | (with_reducible refine Below.drew ?_) | (with_reducible refine below_drewN ?_ _) | (with_reducible refine Below.trans ?_ (Below.mono (by with_reducible assumption) (by first | omega | (simp <;> omega)))))))⟩)
        · have HT : Hid (turnT 9 x = 1) := Lib.hid (by simp only [turnT, h1]; simp)
          go_enter Try.func31, Try.ntmps31
          go_wp2
          all_goals (refine bodyPost_ret (v := .int .i64 (1)) (by simp [results, Try.results31, go_sem]) rfl ⟨by rw [HT.out], (by (repeat (first | (with_reducible exact Below.refl _ _) | (with_reducible assumption) | (with_reducible refine Below.setCell ?_ (by first | omega | (simp <;> omega)) _) | (with_reducible refine Below.alloc ?_ (by first | omega | (simp <;> omega)) _) | (with_reducible refine Below.drew ?_) | (with_reducible refine below_drewN ?_ _) | (with_reducible refine Below.trans ?_ (Below.mono (by with_reducible assumption) (by first | omega | (simp <;> omega)))))))⟩)
      · have k9' : (k == 9) = false := by simpa using k9
        have HT : Hid (turnT k x = 0) := Lib.hid (by simp [turnT, k6, k8, k9])
        clear k6 k8 k9
        go_enter Try.func31, Try.ntmps31
        go_wp2
        all_goals (refine bodyPost_ret (v := .int .i64 (0)) (by simp [results, Try.results31, go_sem]) rfl ⟨by rw [HT.out], (by (repeat (first | (with_reducible exact Below.refl _ _) | (with_reducible assumption) | (with_reducible refine Below.setCell ?_ (by first | omega | (simp <;> omega)) _) | (with_reducible refine Below.alloc ?_ (by first | omega | (simp <;> omega)) _) | (with_reducible refine Below.drew ?_) | (with_reducible refine below_drewN ?_ _) | (with_reducible refine Below.trans ?_ (Below.mono (by with_reducible assumption) (by first | omega | (simp <;> omega)))))))⟩)
theorem toksAt_eq (f : Nat → TokI) (m j : Nat) (hj : j < 4) : toksAt f (m * 4 + j) = (f m).at j := by
  unfold toksAt
  rw [show (m * 4 + j) / 4 = m by omega, show (m * 4 + j) % 4 = j by omega]
theorem rd_tok {w : World} {B n : Nat} {A : Option Addr} {f : Nat → TokI} (h : Rd w B A (n * 4) (toksAt f)) {m : Nat} (hm : m < n) : ∃ ad, A = some ad ∧ (ad.add (m * 4)).block < B ∧ w.cell? (ad.add (m * 4)) = some (.int .i64 (f m).k) ∧
    w.cell? ⟨(ad.add (m * 4)).block, (ad.add (m * 4)).off + 1, none⟩ = some (.string (f m).x) ∧ w.cell? ⟨(ad.add (m * 4)).block, (ad.add (m * 4)).off + 2, none⟩ = some (.int .i64 (f m).a) ∧ w.cell? ⟨(ad.add (m * 4)).block, (ad.add (m * 4)).off + 3, none⟩ = some (.int .i64 (f m).e) := by
  have hadd : ∀ (ad : Addr) (j : Nat), ad.add (m * 4 + (j + 1)) = ⟨(ad.add (m * 4)).block, (ad.add (m * 4)).off + (j + 1), none⟩ := fun ad j => by
    unfold Addr.add
    by_cases q2 : m = 0
    · simp [q2]
    · have q3 : m * 4 ≠ 0 := by omega
      simp [q2, q3, Nat.add_assoc]
  obtain ⟨ad, rfl, hb, c0⟩ := h (m * 4 + 0) (by omega)
  obtain ⟨_, e1, _, c1⟩ := h (m * 4 + 1) (by omega)
  obtain rfl := Option.some.inj e1
  obtain ⟨_, e2, _, c2⟩ := h (m * 4 + 2) (by omega)
  obtain rfl := Option.some.inj e2
  obtain ⟨_, e3, _, c3⟩ := h (m * 4 + 3) (by omega)
  obtain rfl := Option.some.inj e3
  rw [toksAt_eq f m _ (by decide)] at c0 c1 c2 c3
  rw [hadd] at c1 c2 c3
  exact ⟨ad, rfl, by rw [block_add]; exact hb, c0, c1, c2, c3⟩
def depthN (f : Nat → TokI) : Nat → Int
  | 0 => 0
  | m + 1 => max 0 (depthN f m + turnT (f m).k (f m).x)
def deepN (f : Nat → TokI) : Nat → Int
  | 0 => 0
  | m + 1 => max (deepN f m) (depthN f (m + 1))
def firstN (f : Nat → TokI) (most : Int) : Nat → Int
  | 0 => -1
  | m + 1 => if depthN f (m + 1) > most ∧ firstN f most m < 0 then (m : Int) else firstN f most m
theorem depthN_bd (f : Nat → TokI) : ∀ m, 0 ≤ depthN f m ∧ depthN f m ≤ m
  | 0 => by simp [depthN]
  | m + 1 => by have := depthN_bd f m; have := turnT_bd (f m).k (f m).x; simp only [depthN]; omega
theorem deepN_bd (f : Nat → TokI) : ∀ m, 0 ≤ deepN f m ∧ deepN f m ≤ m
  | 0 => by simp [deepN]
  | m + 1 => by have := deepN_bd f m; have := depthN_bd f (m + 1); simp only [deepN]; omega
theorem firstN_bd (f : Nat → TokI) (most : Int) : ∀ m, -1 ≤ firstN f most m ∧ firstN f most m ≤ m
  | 0 => by simp [firstN]
  | m + 1 => by have := firstN_bd f most m; simp only [firstN]; split <;> omega
theorem run_max_plain {P : Program} {w : World} (ts : Array TypeId) (t : TypeId) (k k' : IntKind) (x y : Int) : (Builtin.max_ ts t #[.int k x, .int k' y]).run P w = .ok (.int k (max x y)) w := by
  rw [run_max_int2]; congr 2; split <;> omega
attribute [local go_sem high] run_max_plain
set_option maxRecDepth 100000 in
set_option maxHeartbeats 8000000 in
theorem Depth_any (f : Nat → TokI) (A : Option Addr) (n c : Nat) (hn : n ≤ 4000000) (hcap : n ≤ c) (most : Int) (w : World) {B : Nat} (hB : B ≤ w.heap.size) (h : Rd w B A (n * 4) (toksAt f)) : Calls Try.prog 22 #[.slice A n c, .int .i64 most] w fun r w' => r = .returned (.tuple #[.int .i64 (deepN f n), .int .i64 (firstN f most n)]) ∧ Below w.heap.size w w' := by
  go_enter Try.func22, Try.ntmps22
  go_wp2
  go_loopw [6, 7, 8, 13] (fun vn vd vf vi wr => ∃ m : Nat, m ≤ n ∧ vn = .int .i64 (depthN f m) ∧ vd = .int .i64 (deepN f m) ∧ vf = .int .i64 (firstN f most m) ∧ vi = .int .i64 (m : Int) ∧ Below w.heap.size w wr) (fun _ _ _ i _ => n - (intOf i).toNat)
  case atStart => exact ⟨0, Nat.zero_le _, rfl, rfl, rfl, rfl, Below.refl _ _⟩
  case round =>
    obtain ⟨m, hm, rfl, rfl, rfl, rfl, hb⟩ := hrel
    have hz := hb.size
    have q1 := depthN_bd f m
    have q2 := deepN_bd f m
    have q3 := firstN_bd f most m
    have q4 := turnT_bd (f m).k (f m).x
    by_cases hlt : m < n
    · obtain ⟨ad, rfl, hadB, c0, c1, c2, c3⟩ := rd_tok (h.below (hb.mono hB)) hlt
      obtain ⟨k, hk⟩ : ∃ k, k = (f m).k := ⟨_, rfl⟩
      obtain ⟨x, hx⟩ : ∃ x, x = (f m).x := ⟨_, rfl⟩
      have hd1 : depthN f (m + 1) = max 0 (depthN f m + turnT k x) := by rw [hk, hx]; rfl
      have hd2 : deepN f (m + 1) = max (deepN f m) (depthN f (m + 1)) := rfl
      have hd3 : firstN f most (m + 1) = if depthN f (m + 1) > most ∧ firstN f most m < 0 then (m : Int) else firstN f most m := rfl
      rw [← hk, ← hx] at q4
      rw [← hk] at c0
      rw [← hx] at c1
      clear hk hx
      obtain ⟨a, ha⟩ : ∃ a, a = (f m).a := ⟨_, rfl⟩
      obtain ⟨e, he⟩ : ∃ e, e = (f m).e := ⟨_, rfl⟩
      rw [← ha] at c2
      rw [← he] at c3
      clear ha he
      obtain ⟨tt, htt⟩ : ∃ tt, tt = turnT k x := ⟨_, rfl⟩
      rw [← htt] at hd1 q4
      have hT := Lib.hid (fun W => Turn_any k a e x W)
      rw [← htt] at hT
      clear htt
      obtain ⟨n1, hn1⟩ : ∃ n1, n1 = depthN f (m + 1) := ⟨_, rfl⟩
      rw [← hn1] at hd1 hd2 hd3
      obtain ⟨n0, hn0⟩ : ∃ n0, n0 = depthN f m := ⟨_, rfl⟩
      rw [← hn0] at hd1 q1
      have ed1 : max 0 (depthN f m + tt) = depthN f (m + 1) := by rw [← hn1, hd1, hn0]
      have HE := Lib.hid ed1
      have HD := Lib.hid hd2
      have HF := Lib.hid hd3
      clear ed1 hd2 hd3
      by_cases hc : n1 > most
      · by_cases hf : firstN f most m < 0
        · have hfi : Hid (firstN f most (m + 1) = (m : Int)) := Lib.hid (by rw [HF.out, if_pos ⟨hc, hf⟩])
          go_wp2_with (go_at_call 30; (with_reducible refine (hT.out _).mono ?_); rintro e w1 ⟨rfl, b1⟩; have z1 := Below.size b1); all_goals (refine ⟨⟨m + 1, by omega, by rw [HE.out], by rw [HD.out, hn1, ← HE.out], by rw [hfi.out], by go_num, (by (repeat (first | (with_reducible exact Below.refl _ _) | (with_reducible assumption) | (with_reducible refine Below.setCell ?_ (by first | omega | (simp <;> omega)) _) | (with_reducible refine Below.alloc ?_ (by first | omega | (simp <;> omega)) _) | (with_reducible refine Below.drew ?_) | (with_reducible refine below_drewN ?_ _) | (with_reducible refine Below.trans ?_ (Below.mono (by with_reducible assumption) (by first | omega | (simp <;> omega)))))))⟩, by simp [intOf]; omega⟩)
        · have hfi : Hid (firstN f most (m + 1) = firstN f most m) := Lib.hid (by rw [HF.out, if_neg (fun x => hf x.2)])
          go_wp2_with (go_at_call 30; (with_reducible refine (hT.out _).mono ?_); rintro e w1 ⟨rfl, b1⟩; have z1 := Below.size b1); all_goals (refine ⟨⟨m + 1, by omega, by rw [HE.out], by rw [HD.out, hn1, ← HE.out], by rw [hfi.out], by go_num, (by (repeat (first | (with_reducible exact Below.refl _ _) | (with_reducible assumption) | (with_reducible refine Below.setCell ?_ (by first | omega | (simp <;> omega)) _) | (with_reducible refine Below.alloc ?_ (by first | omega | (simp <;> omega)) _) | (with_reducible refine Below.drew ?_) | (with_reducible refine below_drewN ?_ _) | (with_reducible refine Below.trans ?_ (Below.mono (by with_reducible assumption) (by first | omega | (simp <;> omega)))))))⟩, by simp [intOf]; omega⟩)
      · have hfi : Hid (firstN f most (m + 1) = firstN f most m) := Lib.hid (by rw [HF.out, if_neg (fun x => hc x.1)])
        go_wp2_with (go_at_call 30; (with_reducible refine (hT.out _).mono ?_); rintro e w1 ⟨rfl, b1⟩; have z1 := Below.size b1); all_goals (refine ⟨⟨m + 1, by omega, by rw [HE.out], by rw [HD.out, hn1, ← HE.out], by rw [hfi.out], by go_num, (by (repeat (first | (with_reducible exact Below.refl _ _) | (with_reducible assumption) | (with_reducible refine Below.setCell ?_ (by first | omega | (simp <;> omega)) _) | (with_reducible refine Below.alloc ?_ (by first | omega | (simp <;> omega)) _) | (with_reducible refine Below.drew ?_) | (with_reducible refine below_drewN ?_ _) | (with_reducible refine Below.trans ?_ (Below.mono (by with_reducible assumption) (by first | omega | (simp <;> omega)))))))⟩, by simp [intOf]; omega⟩)
    · obtain rfl : m = n := by omega
      have hlt' : ((m : Int) < (m : Int)) = False := by simp
      go_wp2
      exact bodyPost_ret (v := .tuple #[.int .i64 (deepN f m), .int .i64 (firstN f most m)]) (by simp [results, Try.results22, go_sem]) rfl ⟨rfl, hb⟩
set_option maxRecDepth 100000 in
set_option maxHeartbeats 8000000 in
theorem rDepth_any (f : Nat → TokI) (A : Option Addr) (n c : Nat) (hn : n ≤ 4000000) (hcap : n ≤ c) (most : Int) (w : World) {B : Nat} (hB : B ≤ w.heap.size) (h : Rd w B A (n * 4) (toksAt f)) : Calls Try.prog 23 #[.slice A n c, .int .i64 most] w fun r w' => r = .returned (.tuple #[.int .i64 (deepN f n), .int .i64 (firstN f most n)]) ∧ Below w.heap.size w w' := by
  go_enter Try.func23, Try.ntmps23
  go_wp2
  go_loopw [6, 7, 8, 9] (fun vn vd vf vi wr => ∃ m : Nat, m ≤ n ∧ vn = .int .i64 (depthN f m) ∧ vd = .int .i64 (deepN f m) ∧ vf = .int .i64 (firstN f most m) ∧ vi = .int .i64 (m : Int) ∧ Below w.heap.size w wr) (fun _ _ _ i _ => n - (intOf i).toNat)
  case atStart => exact ⟨0, Nat.zero_le _, rfl, rfl, rfl, rfl, Below.refl _ _⟩
  case round =>
    obtain ⟨m, hm, rfl, rfl, rfl, rfl, hb⟩ := hrel
    have hz := hb.size
    have q1 := depthN_bd f m
    have q2 := deepN_bd f m
    have q3 := firstN_bd f most m
    have q4 := turnT_bd (f m).k (f m).x
    by_cases hlt : m < n
    · obtain ⟨ad, rfl, hadB, c0, c1, c2, c3⟩ := rd_tok (h.below (hb.mono hB)) hlt
      obtain ⟨k, hk⟩ : ∃ k, k = (f m).k := ⟨_, rfl⟩
      obtain ⟨x, hx⟩ : ∃ x, x = (f m).x := ⟨_, rfl⟩
      have hd1 : depthN f (m + 1) = max 0 (depthN f m + turnT k x) := by rw [hk, hx]; rfl
      have hd2 : deepN f (m + 1) = max (deepN f m) (depthN f (m + 1)) := rfl
      have hd3 : firstN f most (m + 1) = if depthN f (m + 1) > most ∧ firstN f most m < 0 then (m : Int) else firstN f most m := rfl
      rw [← hk, ← hx] at q4
      rw [← hk] at c0
      rw [← hx] at c1
      clear hk hx
      obtain ⟨a, ha⟩ : ∃ a, a = (f m).a := ⟨_, rfl⟩
      obtain ⟨e, he⟩ : ∃ e, e = (f m).e := ⟨_, rfl⟩
      rw [← ha] at c2
      rw [← he] at c3
      clear ha he
      obtain ⟨tt, htt⟩ : ∃ tt, tt = turnT k x := ⟨_, rfl⟩
      rw [← htt] at hd1 q4
      have hT := Lib.hid (fun W => rTurn_any k a e x W)
      rw [← htt] at hT
      clear htt
      obtain ⟨n1, hn1⟩ : ∃ n1, n1 = depthN f (m + 1) := ⟨_, rfl⟩
      rw [← hn1] at hd1 hd2 hd3
      obtain ⟨n0, hn0⟩ : ∃ n0, n0 = depthN f m := ⟨_, rfl⟩
      rw [← hn0] at hd1 q1
      have ed1 : max 0 (depthN f m + tt) = depthN f (m + 1) := by rw [← hn1, hd1, hn0]
      have HE := Lib.hid ed1
      have HD := Lib.hid hd2
      have HF := Lib.hid hd3
      clear ed1 hd2 hd3
      by_cases hc : n1 > most
      · by_cases hf : firstN f most m < 0
        · have hfi : Hid (firstN f most (m + 1) = (m : Int)) := Lib.hid (by rw [HF.out, if_pos ⟨hc, hf⟩])
          (by_cases hneg : n0 + tt < 0) <;> (by_cases hgt : n1 > deepN f m) <;> first | (exfalso; omega) | (go_wp2_with (go_at_call 31; (with_reducible refine (hT.out _).mono ?_); rintro e w1 ⟨rfl, b1⟩; have z1 := Below.size b1); all_goals (refine ⟨⟨m + 1, by omega, by rw [← HE.out]; go_num, by rw [HD.out, hn1, ← HE.out]; go_num, by rw [hfi.out], by go_num, (by (repeat (first | (with_reducible exact Below.refl _ _) | (with_reducible assumption) | (with_reducible refine Below.setCell ?_ (by first | omega | (simp <;> omega)) _) | (with_reducible refine Below.alloc ?_ (by first | omega | (simp <;> omega)) _) | (with_reducible refine Below.drew ?_) | (with_reducible refine below_drewN ?_ _) | (with_reducible refine Below.trans ?_ (Below.mono (by with_reducible assumption) (by first | omega | (simp <;> omega)))))))⟩, by simp [intOf]; omega⟩))
        · have hfi : Hid (firstN f most (m + 1) = firstN f most m) := Lib.hid (by rw [HF.out, if_neg (fun x => hf x.2)])
          (by_cases hneg : n0 + tt < 0) <;> (by_cases hgt : n1 > deepN f m) <;> first | (exfalso; omega) | (go_wp2_with (go_at_call 31; (with_reducible refine (hT.out _).mono ?_); rintro e w1 ⟨rfl, b1⟩; have z1 := Below.size b1); all_goals (refine ⟨⟨m + 1, by omega, by rw [← HE.out]; go_num, by rw [HD.out, hn1, ← HE.out]; go_num, by rw [hfi.out], by go_num, (by (repeat (first | (with_reducible exact Below.refl _ _) | (with_reducible assumption) | (with_reducible refine Below.setCell ?_ (by first | omega | (simp <;> omega)) _) | (with_reducible refine Below.alloc ?_ (by first | omega | (simp <;> omega)) _) | (with_reducible refine Below.drew ?_) | (with_reducible refine below_drewN ?_ _) | (with_reducible refine Below.trans ?_ (Below.mono (by with_reducible assumption) (by first | omega | (simp <;> omega)))))))⟩, by simp [intOf]; omega⟩))
      · have hfi : Hid (firstN f most (m + 1) = firstN f most m) := Lib.hid (by rw [HF.out, if_neg (fun x => hc x.1)])
        (by_cases hneg : n0 + tt < 0) <;> (by_cases hgt : n1 > deepN f m) <;> first | (exfalso; omega) | (go_wp2_with (go_at_call 31; (with_reducible refine (hT.out _).mono ?_); rintro e w1 ⟨rfl, b1⟩; have z1 := Below.size b1); all_goals (refine ⟨⟨m + 1, by omega, by rw [← HE.out]; go_num, by rw [HD.out, hn1, ← HE.out]; go_num, by rw [hfi.out], by go_num, (by (repeat (first | (with_reducible exact Below.refl _ _) | (with_reducible assumption) | (with_reducible refine Below.setCell ?_ (by first | omega | (simp <;> omega)) _) | (with_reducible refine Below.alloc ?_ (by first | omega | (simp <;> omega)) _) | (with_reducible refine Below.drew ?_) | (with_reducible refine below_drewN ?_ _) | (with_reducible refine Below.trans ?_ (Below.mono (by with_reducible assumption) (by first | omega | (simp <;> omega)))))))⟩, by simp [intOf]; omega⟩))
    · obtain rfl : m = n := by omega
      have hlt' : ((m : Int) < (m : Int)) = False := by simp
      go_wp2
      exact bodyPost_ret (v := .tuple #[.int .i64 (deepN f m), .int .i64 (firstN f most m)]) (by simp [results, Try.results23, go_sem]) rfl ⟨rfl, hb⟩
end Go.Proofs.Ytdlppdoankeilaa
