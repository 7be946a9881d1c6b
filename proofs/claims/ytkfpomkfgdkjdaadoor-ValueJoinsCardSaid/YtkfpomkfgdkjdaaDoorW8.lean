/- The walks of chapter 14's reference: reckon, operator by operator. -/
import Derived.Test.YtkfpomkfgdkjdaaDoorW7
namespace Go.Proofs.YtkfpomkfgdkjdaaDoor
set_option linter.unusedVariables false
set_option linter.unusedSimpArgs false
open Go.RowKit
def Bd (x : Int) : Prop := -9007199254740991 ≤ x ∧ x ≤ 9007199254740991
theorem tmod_bd {a b : Int} (ha : -9007199254740991 ≤ a ∧ a ≤ 9007199254740991) : -9007199254740991 ≤ a.tmod b ∧ a.tmod b ≤ 9007199254740991 := by
  have h := Int.natAbs_tmod a b
  have h2 : a.natAbs % b.natAbs ≤ a.natAbs := Nat.mod_le _ _
  omega
theorem times_div {x y : Int} (hx : 0 < x) : (9007199254740991 / x < y) ↔ 9007199254740991 < x * y := by
  rw [Int.ediv_lt_iff_lt_mul hx, Int.mul_comm]
set_option maxHeartbeats 1000000 in
theorem rtimes_any (a b : Int) (ha : -9007199254740991 ≤ a ∧ a ≤ 9007199254740991) (hb : -9007199254740991 ≤ b ∧ b ≤ 9007199254740991) (w : World) : Calls Tryd.prog 65 #[.int .i64 a, .int .i64 b] w fun e w' => e = .returned (.agg #[.int .i64 (exactO (timesO a b).1 (timesO a b).2).v.k, .int .i64 (exactO (timesO a b).1 (timesO a b).2).v.n, .string (exactO (timesO a b).1 (timesO a b).2).v.s, .string (exactO (timesO a b).1 (timesO a b).2).t, .int .i64 (exactO (timesO a b).1 (timesO a b).2).f]) ∧ Below w.heap.size w w' := by
  have hpos : ∀ x y : Int, 0 < x → 0 ≤ y → x = (a.natAbs : Int) → y = (b.natAbs : Int) → (9007199254740991 / x < y ∧ exactO (timesO a b).1 (timesO a b).2 = ⟨vu, ⟨#[]⟩, 2⟩) ∨ (¬ 9007199254740991 / x < y ∧ exactO (timesO a b).1 (timesO a b).2 = done (vn (wrap64 (a * b)))) := by
    intro x y hx hy ex ey
    have hm : ((a.natAbs * b.natAbs : Nat) : Int) = x * y := by rw [Int.natCast_mul, ← ex, ← ey]
    by_cases h : 9007199254740991 < x * y
    · left
      refine ⟨(times_div hx).2 h, ?_⟩
      unfold timesO; rw [if_neg (by omega)]; exact exactO_out (.inl rfl)
    · right
      refine ⟨fun hh => h ((times_div hx).1 hh), ?_⟩
      unfold timesO; rw [if_pos (by omega)]
      have hab : -(x * y) ≤ a * b ∧ a * b ≤ x * y := by
        have h1 := Int.natAbs_mul a b
        have h2 : ((a * b).natAbs : Int) = x * y := by rw [h1, hm]
        omega
      rw [exactO_in rfl (by show a * b ≤ _; omega) (by show _ ≤ a * b; omega)]
      rw [show wrap64 (a * b) = a * b by unfold wrap64; omega]
  have hzero : a = 0 → exactO (timesO a b).1 (timesO a b).2 = done (vn 0) := by
    rintro rfl
    unfold timesO; simp; exact exactO_in rfl (by decide) (by decide)
  have HP := Lib.hid hpos
  have HZ := Lib.hid hzero
  clear hpos hzero
  by_cases h : a = 0
  · have e := HZ.out h
    subst h
    have HE := Lib.hid e
    clear e HP HZ
    go_enter Tryd.func65, Tryd.ntmps65
    go_wp2_with (go_at_call 34; refine (rNumber_any _ _).mono ?_; rintro e wb1 ⟨rfl, b1⟩; have zb1 : w.heap.size + 1 ≤ wb1.heap.size := (by have hzz := Below.size b1; first | omega | (simp at hzz; omega)); replace b1 := Below.mono (B' := w.heap.size + 1) b1 (by first | omega | (simp <;> omega)); obtain ⟨hcb1, hfb1⟩ := bcell b1)
    all_goals refine bodyPost_ret (v := .agg #[.int .i64 (exactO (timesO 0 b).1 (timesO 0 b).2).v.k, .int .i64 (exactO (timesO 0 b).1 (timesO 0 b).2).v.n, .string (exactO (timesO 0 b).1 (timesO 0 b).2).v.s, .string (exactO (timesO 0 b).1 (timesO 0 b).2).t, .int .i64 (exactO (timesO 0 b).1 (timesO 0 b).2).f]) ?_ rfl ⟨rfl, (by (repeat (first | (with_reducible exact Below.refl _ _) | (with_reducible assumption) | (with_reducible refine Below.setCell ?_ (by first | omega | (simp <;> omega)) _) | (with_reducible refine Below.alloc ?_ (by first | omega | (simp <;> omega)) _) | (with_reducible refine Below.drew ?_) | (with_reducible refine below_drewN ?_ _) | (with_reducible refine Below.trans ?_ (Below.mono (by with_reducible assumption) (by first | omega | (simp <;> omega)))))))⟩
    all_goals (rw [HE.out]; simp [results, Tryd.results65, go_sem, *, vu, done, vn])
  · clear HZ
    obtain ⟨m, hm⟩ : ∃ m : Nat, m = a.natAbs := ⟨_, rfl⟩
    obtain ⟨k, hk⟩ : ∃ k : Nat, k = b.natAbs := ⟨_, rfl⟩
    have hr := HP.out (m : Int) (k : Int) (by omega) (by omega) (by omega) (by omega)
    have hm1 : 1 ≤ m := by omega
    have hmz : ((m : Int) != 0) = true := by simp; omega
    have hmz' : (-(m : Int) != 0) = true := by simp; omega
    have hea : a = (m : Int) ∨ a = -(m : Int) := by omega
    have heb : b = (k : Int) ∨ b = -(k : Int) := by omega
    clear hm hk h HP
    rcases hr with ⟨t1, t2⟩ | ⟨t1, t2⟩
    all_goals
      have T2 := Lib.hid t2
      clear t2
      rcases hea with rfl | rfl <;> rcases heb with rfl | rfl
    all_goals
      go_enter Tryd.func65, Tryd.ntmps65
      go_wp2_with (go_at_call 34; refine (rNumber_any _ _).mono ?_; rintro e wb1 ⟨rfl, b1⟩; have zb1 : w.heap.size + 1 ≤ wb1.heap.size := (by have hzz := Below.size b1; first | omega | (simp at hzz; omega)); replace b1 := Below.mono (B' := w.heap.size + 1) b1 (by first | omega | (simp <;> omega)); obtain ⟨hcb1, hfb1⟩ := bcell b1)
    all_goals refine bodyPost_ret (v := .agg #[.int .i64 (exactO (timesO _ _).1 (timesO _ _).2).v.k, .int .i64 (exactO (timesO _ _).1 (timesO _ _).2).v.n, .string (exactO (timesO _ _).1 (timesO _ _).2).v.s, .string (exactO (timesO _ _).1 (timesO _ _).2).t, .int .i64 (exactO (timesO _ _).1 (timesO _ _).2).f]) ?_ rfl ⟨rfl, (by (repeat (first | (with_reducible exact Below.refl _ _) | (with_reducible assumption) | (with_reducible refine Below.setCell ?_ (by first | omega | (simp <;> omega)) _) | (with_reducible refine Below.alloc ?_ (by first | omega | (simp <;> omega)) _) | (with_reducible refine Below.drew ?_) | (with_reducible refine below_drewN ?_ _) | (with_reducible refine Below.trans ?_ (Below.mono (by with_reducible assumption) (by first | omega | (simp <;> omega)))))))⟩
    all_goals (rw [T2.out]; simp [results, Tryd.results65, go_sem, *, vu, done, vn])

set_option maxHeartbeats 1000000 in
theorem reckon_add (a b : Int) (ha : -9007199254740991 ≤ a ∧ a ≤ 9007199254740991) (hb : -9007199254740991 ≤ b ∧ b ≤ 9007199254740991) (w : World) : Calls Tryd.prog 41 #[.string ⟨#[43]⟩, .int .i64 a, .int .i64 b] w fun e w' => e = .returned (.agg #[.int .i64 (exactO ((fun x y => (x + y, true)) a b).1 ((fun x y => (x + y, true)) a b).2).v.k, .int .i64 (exactO ((fun x y => (x + y, true)) a b).1 ((fun x y => (x + y, true)) a b).2).v.n, .string (exactO ((fun x y => (x + y, true)) a b).1 ((fun x y => (x + y, true)) a b).2).v.s, .string (exactO ((fun x y => (x + y, true)) a b).1 ((fun x y => (x + y, true)) a b).2).t, .int .i64 (exactO ((fun x y => (x + y, true)) a b).1 ((fun x y => (x + y, true)) a b).2).f]) ∧ Below w.heap.size w w' := by
  have hu := u32_bd b
  have hua := u32_bd a
  have e32 : u32 b % 32 = b % 32 := by unfold u32; omega
  have h0 : 0 ≤ b % 32 := by omega
  have h1 : b % 32 < 32 := by omega
  have hw := wrap_k (b % 32) h0 h1
  have hs := sig_form a
  go_enter Tryd.func41, Tryd.ntmps41
  go_wp2_with (first
    | (go_at_call 36; refine (rlow_any _ _).mono ?_; rintro e w1 ⟨rfl, rfl⟩)
    | (go_at_call 64; refine (rexact_any _ _).mono ?_; rintro e wb1 ⟨rfl, b1⟩; have zb1 : w.heap.size + 1 ≤ wb1.heap.size := (by have hzz := Below.size b1; first | omega | (simp at hzz; omega)); replace b1 := Below.mono (B' := w.heap.size + 1) b1 (by first | omega | (simp <;> omega)); obtain ⟨hcb1, hfb1⟩ := bcell b1)
    | (go_at_call 65; refine (rtimes_any _ _ ha hb _).mono ?_; rintro e wb1 ⟨rfl, b1⟩; have zb1 : w.heap.size + 1 ≤ wb1.heap.size := (by have hzz := Below.size b1; first | omega | (simp at hzz; omega)); replace b1 := Below.mono (B' := w.heap.size + 1) b1 (by first | omega | (simp <;> omega)); obtain ⟨hcb1, hfb1⟩ := bcell b1)
    | (go_at_call 35; refine (rsigned_any _ _).mono ?_; rintro e wb1 ⟨rfl, b1⟩; have zb1 : w.heap.size + 1 ≤ wb1.heap.size := (by have hzz := Below.size b1; first | omega | (simp at hzz; omega)); replace b1 := Below.mono (B' := w.heap.size + 1) b1 (by first | omega | (simp <;> omega)); obtain ⟨hcb1, hfb1⟩ := bcell b1)
    | (go_at_call 34; refine (rNumber_any _ _).mono ?_; rintro e wb1 ⟨rfl, b1⟩; have zb1 : w.heap.size + 1 ≤ wb1.heap.size := (by have hzz := Below.size b1; first | omega | (simp at hzz; omega)); replace b1 := Below.mono (B' := w.heap.size + 1) b1 (by first | omega | (simp <;> omega)); obtain ⟨hcb1, hfb1⟩ := bcell b1))
  all_goals refine bodyPost_ret (v := .agg #[.int .i64 (exactO ((fun x y => (x + y, true)) a b).1 ((fun x y => (x + y, true)) a b).2).v.k, .int .i64 (exactO ((fun x y => (x + y, true)) a b).1 ((fun x y => (x + y, true)) a b).2).v.n, .string (exactO ((fun x y => (x + y, true)) a b).1 ((fun x y => (x + y, true)) a b).2).v.s, .string (exactO ((fun x y => (x + y, true)) a b).1 ((fun x y => (x + y, true)) a b).2).t, .int .i64 (exactO ((fun x y => (x + y, true)) a b).1 ((fun x y => (x + y, true)) a b).2).f]) ?_ rfl ⟨rfl, (by (repeat (first | (with_reducible exact Below.refl _ _) | (with_reducible assumption) | (with_reducible refine Below.setCell ?_ (by first | omega | (simp <;> omega)) _) | (with_reducible refine Below.alloc ?_ (by first | omega | (simp <;> omega)) _) | (with_reducible refine Below.drew ?_) | (with_reducible refine below_drewN ?_ _) | (with_reducible refine Below.trans ?_ (Below.mono (by with_reducible assumption) (by first | omega | (simp <;> omega)))))))⟩
  all_goals simp [results, Tryd.results41, go_sem, *, done, vn]

set_option maxHeartbeats 1000000 in
theorem reckon_sub (a b : Int) (ha : -9007199254740991 ≤ a ∧ a ≤ 9007199254740991) (hb : -9007199254740991 ≤ b ∧ b ≤ 9007199254740991) (w : World) : Calls Tryd.prog 41 #[.string ⟨#[45]⟩, .int .i64 a, .int .i64 b] w fun e w' => e = .returned (.agg #[.int .i64 (exactO (fSub a b).1 (fSub a b).2).v.k, .int .i64 (exactO (fSub a b).1 (fSub a b).2).v.n, .string (exactO (fSub a b).1 (fSub a b).2).v.s, .string (exactO (fSub a b).1 (fSub a b).2).t, .int .i64 (exactO (fSub a b).1 (fSub a b).2).f]) ∧ Below w.heap.size w w' := by
  have hu := u32_bd b
  have hua := u32_bd a
  have e32 : u32 b % 32 = b % 32 := by unfold u32; omega
  have h0 : 0 ≤ b % 32 := by omega
  have h1 : b % 32 < 32 := by omega
  have hw := wrap_k (b % 32) h0 h1
  have hs := sig_form a
  go_enter Tryd.func41, Tryd.ntmps41
  go_wp2_with (first
    | (go_at_call 36; refine (rlow_any _ _).mono ?_; rintro e w1 ⟨rfl, rfl⟩)
    | (go_at_call 64; refine (rexact_any _ _).mono ?_; rintro e wb1 ⟨rfl, b1⟩; have zb1 : w.heap.size + 1 ≤ wb1.heap.size := (by have hzz := Below.size b1; first | omega | (simp at hzz; omega)); replace b1 := Below.mono (B' := w.heap.size + 1) b1 (by first | omega | (simp <;> omega)); obtain ⟨hcb1, hfb1⟩ := bcell b1)
    | (go_at_call 65; refine (rtimes_any _ _ ha hb _).mono ?_; rintro e wb1 ⟨rfl, b1⟩; have zb1 : w.heap.size + 1 ≤ wb1.heap.size := (by have hzz := Below.size b1; first | omega | (simp at hzz; omega)); replace b1 := Below.mono (B' := w.heap.size + 1) b1 (by first | omega | (simp <;> omega)); obtain ⟨hcb1, hfb1⟩ := bcell b1)
    | (go_at_call 35; refine (rsigned_any _ _).mono ?_; rintro e wb1 ⟨rfl, b1⟩; have zb1 : w.heap.size + 1 ≤ wb1.heap.size := (by have hzz := Below.size b1; first | omega | (simp at hzz; omega)); replace b1 := Below.mono (B' := w.heap.size + 1) b1 (by first | omega | (simp <;> omega)); obtain ⟨hcb1, hfb1⟩ := bcell b1)
    | (go_at_call 34; refine (rNumber_any _ _).mono ?_; rintro e wb1 ⟨rfl, b1⟩; have zb1 : w.heap.size + 1 ≤ wb1.heap.size := (by have hzz := Below.size b1; first | omega | (simp at hzz; omega)); replace b1 := Below.mono (B' := w.heap.size + 1) b1 (by first | omega | (simp <;> omega)); obtain ⟨hcb1, hfb1⟩ := bcell b1))
  all_goals refine bodyPost_ret (v := .agg #[.int .i64 (exactO (fSub a b).1 (fSub a b).2).v.k, .int .i64 (exactO (fSub a b).1 (fSub a b).2).v.n, .string (exactO (fSub a b).1 (fSub a b).2).v.s, .string (exactO (fSub a b).1 (fSub a b).2).t, .int .i64 (exactO (fSub a b).1 (fSub a b).2).f]) ?_ rfl ⟨rfl, (by (repeat (first | (with_reducible exact Below.refl _ _) | (with_reducible assumption) | (with_reducible refine Below.setCell ?_ (by first | omega | (simp <;> omega)) _) | (with_reducible refine Below.alloc ?_ (by first | omega | (simp <;> omega)) _) | (with_reducible refine Below.drew ?_) | (with_reducible refine below_drewN ?_ _) | (with_reducible refine Below.trans ?_ (Below.mono (by with_reducible assumption) (by first | omega | (simp <;> omega)))))))⟩
  all_goals simp [results, Tryd.results41, go_sem, *, done, vn, fSub]

set_option maxHeartbeats 1000000 in
theorem reckon_mul (a b : Int) (ha : -9007199254740991 ≤ a ∧ a ≤ 9007199254740991) (hb : -9007199254740991 ≤ b ∧ b ≤ 9007199254740991) (w : World) : Calls Tryd.prog 41 #[.string ⟨#[42]⟩, .int .i64 a, .int .i64 b] w fun e w' => e = .returned (.agg #[.int .i64 (exactO (timesO a b).1 (timesO a b).2).v.k, .int .i64 (exactO (timesO a b).1 (timesO a b).2).v.n, .string (exactO (timesO a b).1 (timesO a b).2).v.s, .string (exactO (timesO a b).1 (timesO a b).2).t, .int .i64 (exactO (timesO a b).1 (timesO a b).2).f]) ∧ Below w.heap.size w w' := by
  have hu := u32_bd b
  have hua := u32_bd a
  have e32 : u32 b % 32 = b % 32 := by unfold u32; omega
  have h0 : 0 ≤ b % 32 := by omega
  have h1 : b % 32 < 32 := by omega
  have hw := wrap_k (b % 32) h0 h1
  have hs := sig_form a
  go_enter Tryd.func41, Tryd.ntmps41
  go_wp2_with (first
    | (go_at_call 36; refine (rlow_any _ _).mono ?_; rintro e w1 ⟨rfl, rfl⟩)
    | (go_at_call 64; refine (rexact_any _ _).mono ?_; rintro e wb1 ⟨rfl, b1⟩; have zb1 : w.heap.size + 1 ≤ wb1.heap.size := (by have hzz := Below.size b1; first | omega | (simp at hzz; omega)); replace b1 := Below.mono (B' := w.heap.size + 1) b1 (by first | omega | (simp <;> omega)); obtain ⟨hcb1, hfb1⟩ := bcell b1)
    | (go_at_call 65; refine (rtimes_any _ _ ha hb _).mono ?_; rintro e wb1 ⟨rfl, b1⟩; have zb1 : w.heap.size + 1 ≤ wb1.heap.size := (by have hzz := Below.size b1; first | omega | (simp at hzz; omega)); replace b1 := Below.mono (B' := w.heap.size + 1) b1 (by first | omega | (simp <;> omega)); obtain ⟨hcb1, hfb1⟩ := bcell b1)
    | (go_at_call 35; refine (rsigned_any _ _).mono ?_; rintro e wb1 ⟨rfl, b1⟩; have zb1 : w.heap.size + 1 ≤ wb1.heap.size := (by have hzz := Below.size b1; first | omega | (simp at hzz; omega)); replace b1 := Below.mono (B' := w.heap.size + 1) b1 (by first | omega | (simp <;> omega)); obtain ⟨hcb1, hfb1⟩ := bcell b1)
    | (go_at_call 34; refine (rNumber_any _ _).mono ?_; rintro e wb1 ⟨rfl, b1⟩; have zb1 : w.heap.size + 1 ≤ wb1.heap.size := (by have hzz := Below.size b1; first | omega | (simp at hzz; omega)); replace b1 := Below.mono (B' := w.heap.size + 1) b1 (by first | omega | (simp <;> omega)); obtain ⟨hcb1, hfb1⟩ := bcell b1))
  all_goals refine bodyPost_ret (v := .agg #[.int .i64 (exactO (timesO a b).1 (timesO a b).2).v.k, .int .i64 (exactO (timesO a b).1 (timesO a b).2).v.n, .string (exactO (timesO a b).1 (timesO a b).2).v.s, .string (exactO (timesO a b).1 (timesO a b).2).t, .int .i64 (exactO (timesO a b).1 (timesO a b).2).f]) ?_ rfl ⟨rfl, (by (repeat (first | (with_reducible exact Below.refl _ _) | (with_reducible assumption) | (with_reducible refine Below.setCell ?_ (by first | omega | (simp <;> omega)) _) | (with_reducible refine Below.alloc ?_ (by first | omega | (simp <;> omega)) _) | (with_reducible refine Below.drew ?_) | (with_reducible refine below_drewN ?_ _) | (with_reducible refine Below.trans ?_ (Below.mono (by with_reducible assumption) (by first | omega | (simp <;> omega)))))))⟩
  all_goals simp [results, Tryd.results41, go_sem, *, done, vn]

set_option maxHeartbeats 1000000 in
theorem reckon_rem (a b : Int) (ha : -9007199254740991 ≤ a ∧ a ≤ 9007199254740991) (hb : -9007199254740991 ≤ b ∧ b ≤ 9007199254740991) (w : World) (hz : b ≠ 0) : Calls Tryd.prog 41 #[.string ⟨#[37]⟩, .int .i64 a, .int .i64 b] w fun e w' => e = .returned (.agg #[.int .i64 (exactO (fRem a b).1 (fRem a b).2).v.k, .int .i64 (exactO (fRem a b).1 (fRem a b).2).v.n, .string (exactO (fRem a b).1 (fRem a b).2).v.s, .string (exactO (fRem a b).1 (fRem a b).2).t, .int .i64 (exactO (fRem a b).1 (fRem a b).2).f]) ∧ Below w.heap.size w w' := by
  have hu := u32_bd b
  have hua := u32_bd a
  have e32 : u32 b % 32 = b % 32 := by unfold u32; omega
  have h0 : 0 ≤ b % 32 := by omega
  have h1 : b % 32 < 32 := by omega
  have hw := wrap_k (b % 32) h0 h1
  have hs := sig_form a
  have hzb : (b == 0) = false := by simpa using hz
  go_enter Tryd.func41, Tryd.ntmps41
  go_wp2_with (first
    | (go_at_call 36; refine (rlow_any _ _).mono ?_; rintro e w1 ⟨rfl, rfl⟩)
    | (go_at_call 64; refine (rexact_any _ _).mono ?_; rintro e wb1 ⟨rfl, b1⟩; have zb1 : w.heap.size + 1 ≤ wb1.heap.size := (by have hzz := Below.size b1; first | omega | (simp at hzz; omega)); replace b1 := Below.mono (B' := w.heap.size + 1) b1 (by first | omega | (simp <;> omega)); obtain ⟨hcb1, hfb1⟩ := bcell b1)
    | (go_at_call 65; refine (rtimes_any _ _ ha hb _).mono ?_; rintro e wb1 ⟨rfl, b1⟩; have zb1 : w.heap.size + 1 ≤ wb1.heap.size := (by have hzz := Below.size b1; first | omega | (simp at hzz; omega)); replace b1 := Below.mono (B' := w.heap.size + 1) b1 (by first | omega | (simp <;> omega)); obtain ⟨hcb1, hfb1⟩ := bcell b1)
    | (go_at_call 35; refine (rsigned_any _ _).mono ?_; rintro e wb1 ⟨rfl, b1⟩; have zb1 : w.heap.size + 1 ≤ wb1.heap.size := (by have hzz := Below.size b1; first | omega | (simp at hzz; omega)); replace b1 := Below.mono (B' := w.heap.size + 1) b1 (by first | omega | (simp <;> omega)); obtain ⟨hcb1, hfb1⟩ := bcell b1)
    | (go_at_call 34; refine (rNumber_any _ _).mono ?_; rintro e wb1 ⟨rfl, b1⟩; have zb1 : w.heap.size + 1 ≤ wb1.heap.size := (by have hzz := Below.size b1; first | omega | (simp at hzz; omega)); replace b1 := Below.mono (B' := w.heap.size + 1) b1 (by first | omega | (simp <;> omega)); obtain ⟨hcb1, hfb1⟩ := bcell b1))
  all_goals refine bodyPost_ret (v := .agg #[.int .i64 (exactO (fRem a b).1 (fRem a b).2).v.k, .int .i64 (exactO (fRem a b).1 (fRem a b).2).v.n, .string (exactO (fRem a b).1 (fRem a b).2).v.s, .string (exactO (fRem a b).1 (fRem a b).2).t, .int .i64 (exactO (fRem a b).1 (fRem a b).2).f]) ?_ rfl ⟨rfl, (by (repeat (first | (with_reducible exact Below.refl _ _) | (with_reducible assumption) | (with_reducible refine Below.setCell ?_ (by first | omega | (simp <;> omega)) _) | (with_reducible refine Below.alloc ?_ (by first | omega | (simp <;> omega)) _) | (with_reducible refine Below.drew ?_) | (with_reducible refine below_drewN ?_ _) | (with_reducible refine Below.trans ?_ (Below.mono (by with_reducible assumption) (by first | omega | (simp <;> omega)))))))⟩
  all_goals simp [results, Tryd.results41, go_sem, *, done, vn, fRem]

set_option maxHeartbeats 1000000 in
theorem reckon_and (a b : Int) (ha : -9007199254740991 ≤ a ∧ a ≤ 9007199254740991) (hb : -9007199254740991 ≤ b ∧ b ≤ 9007199254740991) (w : World) : Calls Tryd.prog 41 #[.string ⟨#[38]⟩, .int .i64 a, .int .i64 b] w fun e w' => e = .returned (.agg #[.int .i64 (exactO ((fBit .and) a b).1 ((fBit .and) a b).2).v.k, .int .i64 (exactO ((fBit .and) a b).1 ((fBit .and) a b).2).v.n, .string (exactO ((fBit .and) a b).1 ((fBit .and) a b).2).v.s, .string (exactO ((fBit .and) a b).1 ((fBit .and) a b).2).t, .int .i64 (exactO ((fBit .and) a b).1 ((fBit .and) a b).2).f]) ∧ Below w.heap.size w w' := by
  have hu := u32_bd b
  have hua := u32_bd a
  have e32 : u32 b % 32 = b % 32 := by unfold u32; omega
  have h0 : 0 ≤ b % 32 := by omega
  have h1 : b % 32 < 32 := by omega
  have hw := wrap_k (b % 32) h0 h1
  have hs := sig_form a
  go_enter Tryd.func41, Tryd.ntmps41
  go_wp2_with (first
    | (go_at_call 36; refine (rlow_any _ _).mono ?_; rintro e w1 ⟨rfl, rfl⟩)
    | (go_at_call 64; refine (rexact_any _ _).mono ?_; rintro e wb1 ⟨rfl, b1⟩; have zb1 : w.heap.size + 1 ≤ wb1.heap.size := (by have hzz := Below.size b1; first | omega | (simp at hzz; omega)); replace b1 := Below.mono (B' := w.heap.size + 1) b1 (by first | omega | (simp <;> omega)); obtain ⟨hcb1, hfb1⟩ := bcell b1)
    | (go_at_call 65; refine (rtimes_any _ _ ha hb _).mono ?_; rintro e wb1 ⟨rfl, b1⟩; have zb1 : w.heap.size + 1 ≤ wb1.heap.size := (by have hzz := Below.size b1; first | omega | (simp at hzz; omega)); replace b1 := Below.mono (B' := w.heap.size + 1) b1 (by first | omega | (simp <;> omega)); obtain ⟨hcb1, hfb1⟩ := bcell b1)
    | (go_at_call 35; refine (rsigned_any _ _).mono ?_; rintro e wb1 ⟨rfl, b1⟩; have zb1 : w.heap.size + 1 ≤ wb1.heap.size := (by have hzz := Below.size b1; first | omega | (simp at hzz; omega)); replace b1 := Below.mono (B' := w.heap.size + 1) b1 (by first | omega | (simp <;> omega)); obtain ⟨hcb1, hfb1⟩ := bcell b1)
    | (go_at_call 34; refine (rNumber_any _ _).mono ?_; rintro e wb1 ⟨rfl, b1⟩; have zb1 : w.heap.size + 1 ≤ wb1.heap.size := (by have hzz := Below.size b1; first | omega | (simp at hzz; omega)); replace b1 := Below.mono (B' := w.heap.size + 1) b1 (by first | omega | (simp <;> omega)); obtain ⟨hcb1, hfb1⟩ := bcell b1))
  all_goals refine bodyPost_ret (v := .agg #[.int .i64 (exactO ((fBit .and) a b).1 ((fBit .and) a b).2).v.k, .int .i64 (exactO ((fBit .and) a b).1 ((fBit .and) a b).2).v.n, .string (exactO ((fBit .and) a b).1 ((fBit .and) a b).2).v.s, .string (exactO ((fBit .and) a b).1 ((fBit .and) a b).2).t, .int .i64 (exactO ((fBit .and) a b).1 ((fBit .and) a b).2).f]) ?_ rfl ⟨rfl, (by (repeat (first | (with_reducible exact Below.refl _ _) | (with_reducible assumption) | (with_reducible refine Below.setCell ?_ (by first | omega | (simp <;> omega)) _) | (with_reducible refine Below.alloc ?_ (by first | omega | (simp <;> omega)) _) | (with_reducible refine Below.drew ?_) | (with_reducible refine below_drewN ?_ _) | (with_reducible refine Below.trans ?_ (Below.mono (by with_reducible assumption) (by first | omega | (simp <;> omega)))))))⟩
  have hbd := b32_bd .and a b
  have hin : exactO ((fBit .and) a b).1 ((fBit .and) a b).2 = done (vn (b32 .and a b)) := exactO_in rfl (by show b32 .and a b ≤ _; omega) (by show _ ≤ b32 .and a b; omega)
  rw [hin]
  clear hin hbd
  all_goals simp [results, Tryd.results41, go_sem, *, done, vn, and_uu]

set_option maxHeartbeats 1000000 in
theorem reckon_or (a b : Int) (ha : -9007199254740991 ≤ a ∧ a ≤ 9007199254740991) (hb : -9007199254740991 ≤ b ∧ b ≤ 9007199254740991) (w : World) : Calls Tryd.prog 41 #[.string ⟨#[124]⟩, .int .i64 a, .int .i64 b] w fun e w' => e = .returned (.agg #[.int .i64 (exactO ((fBit .or) a b).1 ((fBit .or) a b).2).v.k, .int .i64 (exactO ((fBit .or) a b).1 ((fBit .or) a b).2).v.n, .string (exactO ((fBit .or) a b).1 ((fBit .or) a b).2).v.s, .string (exactO ((fBit .or) a b).1 ((fBit .or) a b).2).t, .int .i64 (exactO ((fBit .or) a b).1 ((fBit .or) a b).2).f]) ∧ Below w.heap.size w w' := by
  have hu := u32_bd b
  have hua := u32_bd a
  have e32 : u32 b % 32 = b % 32 := by unfold u32; omega
  have h0 : 0 ≤ b % 32 := by omega
  have h1 : b % 32 < 32 := by omega
  have hw := wrap_k (b % 32) h0 h1
  have hs := sig_form a
  go_enter Tryd.func41, Tryd.ntmps41
  go_wp2_with (first
    | (go_at_call 36; refine (rlow_any _ _).mono ?_; rintro e w1 ⟨rfl, rfl⟩)
    | (go_at_call 64; refine (rexact_any _ _).mono ?_; rintro e wb1 ⟨rfl, b1⟩; have zb1 : w.heap.size + 1 ≤ wb1.heap.size := (by have hzz := Below.size b1; first | omega | (simp at hzz; omega)); replace b1 := Below.mono (B' := w.heap.size + 1) b1 (by first | omega | (simp <;> omega)); obtain ⟨hcb1, hfb1⟩ := bcell b1)
    | (go_at_call 65; refine (rtimes_any _ _ ha hb _).mono ?_; rintro e wb1 ⟨rfl, b1⟩; have zb1 : w.heap.size + 1 ≤ wb1.heap.size := (by have hzz := Below.size b1; first | omega | (simp at hzz; omega)); replace b1 := Below.mono (B' := w.heap.size + 1) b1 (by first | omega | (simp <;> omega)); obtain ⟨hcb1, hfb1⟩ := bcell b1)
    | (go_at_call 35; refine (rsigned_any _ _).mono ?_; rintro e wb1 ⟨rfl, b1⟩; have zb1 : w.heap.size + 1 ≤ wb1.heap.size := (by have hzz := Below.size b1; first | omega | (simp at hzz; omega)); replace b1 := Below.mono (B' := w.heap.size + 1) b1 (by first | omega | (simp <;> omega)); obtain ⟨hcb1, hfb1⟩ := bcell b1)
    | (go_at_call 34; refine (rNumber_any _ _).mono ?_; rintro e wb1 ⟨rfl, b1⟩; have zb1 : w.heap.size + 1 ≤ wb1.heap.size := (by have hzz := Below.size b1; first | omega | (simp at hzz; omega)); replace b1 := Below.mono (B' := w.heap.size + 1) b1 (by first | omega | (simp <;> omega)); obtain ⟨hcb1, hfb1⟩ := bcell b1))
  all_goals refine bodyPost_ret (v := .agg #[.int .i64 (exactO ((fBit .or) a b).1 ((fBit .or) a b).2).v.k, .int .i64 (exactO ((fBit .or) a b).1 ((fBit .or) a b).2).v.n, .string (exactO ((fBit .or) a b).1 ((fBit .or) a b).2).v.s, .string (exactO ((fBit .or) a b).1 ((fBit .or) a b).2).t, .int .i64 (exactO ((fBit .or) a b).1 ((fBit .or) a b).2).f]) ?_ rfl ⟨rfl, (by (repeat (first | (with_reducible exact Below.refl _ _) | (with_reducible assumption) | (with_reducible refine Below.setCell ?_ (by first | omega | (simp <;> omega)) _) | (with_reducible refine Below.alloc ?_ (by first | omega | (simp <;> omega)) _) | (with_reducible refine Below.drew ?_) | (with_reducible refine below_drewN ?_ _) | (with_reducible refine Below.trans ?_ (Below.mono (by with_reducible assumption) (by first | omega | (simp <;> omega)))))))⟩
  have hbd := b32_bd .or a b
  have hin : exactO ((fBit .or) a b).1 ((fBit .or) a b).2 = done (vn (b32 .or a b)) := exactO_in rfl (by show b32 .or a b ≤ _; omega) (by show _ ≤ b32 .or a b; omega)
  rw [hin]
  clear hin hbd
  all_goals simp [results, Tryd.results41, go_sem, *, done, vn, or_uu]

set_option maxHeartbeats 1000000 in
theorem reckon_xor (a b : Int) (ha : -9007199254740991 ≤ a ∧ a ≤ 9007199254740991) (hb : -9007199254740991 ≤ b ∧ b ≤ 9007199254740991) (w : World) : Calls Tryd.prog 41 #[.string ⟨#[94]⟩, .int .i64 a, .int .i64 b] w fun e w' => e = .returned (.agg #[.int .i64 (exactO ((fBit .xor) a b).1 ((fBit .xor) a b).2).v.k, .int .i64 (exactO ((fBit .xor) a b).1 ((fBit .xor) a b).2).v.n, .string (exactO ((fBit .xor) a b).1 ((fBit .xor) a b).2).v.s, .string (exactO ((fBit .xor) a b).1 ((fBit .xor) a b).2).t, .int .i64 (exactO ((fBit .xor) a b).1 ((fBit .xor) a b).2).f]) ∧ Below w.heap.size w w' := by
  have hu := u32_bd b
  have hua := u32_bd a
  have e32 : u32 b % 32 = b % 32 := by unfold u32; omega
  have h0 : 0 ≤ b % 32 := by omega
  have h1 : b % 32 < 32 := by omega
  have hw := wrap_k (b % 32) h0 h1
  have hs := sig_form a
  go_enter Tryd.func41, Tryd.ntmps41
  go_wp2_with (first
    | (go_at_call 36; refine (rlow_any _ _).mono ?_; rintro e w1 ⟨rfl, rfl⟩)
    | (go_at_call 64; refine (rexact_any _ _).mono ?_; rintro e wb1 ⟨rfl, b1⟩; have zb1 : w.heap.size + 1 ≤ wb1.heap.size := (by have hzz := Below.size b1; first | omega | (simp at hzz; omega)); replace b1 := Below.mono (B' := w.heap.size + 1) b1 (by first | omega | (simp <;> omega)); obtain ⟨hcb1, hfb1⟩ := bcell b1)
    | (go_at_call 65; refine (rtimes_any _ _ ha hb _).mono ?_; rintro e wb1 ⟨rfl, b1⟩; have zb1 : w.heap.size + 1 ≤ wb1.heap.size := (by have hzz := Below.size b1; first | omega | (simp at hzz; omega)); replace b1 := Below.mono (B' := w.heap.size + 1) b1 (by first | omega | (simp <;> omega)); obtain ⟨hcb1, hfb1⟩ := bcell b1)
    | (go_at_call 35; refine (rsigned_any _ _).mono ?_; rintro e wb1 ⟨rfl, b1⟩; have zb1 : w.heap.size + 1 ≤ wb1.heap.size := (by have hzz := Below.size b1; first | omega | (simp at hzz; omega)); replace b1 := Below.mono (B' := w.heap.size + 1) b1 (by first | omega | (simp <;> omega)); obtain ⟨hcb1, hfb1⟩ := bcell b1)
    | (go_at_call 34; refine (rNumber_any _ _).mono ?_; rintro e wb1 ⟨rfl, b1⟩; have zb1 : w.heap.size + 1 ≤ wb1.heap.size := (by have hzz := Below.size b1; first | omega | (simp at hzz; omega)); replace b1 := Below.mono (B' := w.heap.size + 1) b1 (by first | omega | (simp <;> omega)); obtain ⟨hcb1, hfb1⟩ := bcell b1))
  all_goals refine bodyPost_ret (v := .agg #[.int .i64 (exactO ((fBit .xor) a b).1 ((fBit .xor) a b).2).v.k, .int .i64 (exactO ((fBit .xor) a b).1 ((fBit .xor) a b).2).v.n, .string (exactO ((fBit .xor) a b).1 ((fBit .xor) a b).2).v.s, .string (exactO ((fBit .xor) a b).1 ((fBit .xor) a b).2).t, .int .i64 (exactO ((fBit .xor) a b).1 ((fBit .xor) a b).2).f]) ?_ rfl ⟨rfl, (by (repeat (first | (with_reducible exact Below.refl _ _) | (with_reducible assumption) | (with_reducible refine Below.setCell ?_ (by first | omega | (simp <;> omega)) _) | (with_reducible refine Below.alloc ?_ (by first | omega | (simp <;> omega)) _) | (with_reducible refine Below.drew ?_) | (with_reducible refine below_drewN ?_ _) | (with_reducible refine Below.trans ?_ (Below.mono (by with_reducible assumption) (by first | omega | (simp <;> omega)))))))⟩
  have hbd := b32_bd .xor a b
  have hin : exactO ((fBit .xor) a b).1 ((fBit .xor) a b).2 = done (vn (b32 .xor a b)) := exactO_in rfl (by show b32 .xor a b ≤ _; omega) (by show _ ≤ b32 .xor a b; omega)
  rw [hin]
  clear hin hbd
  all_goals simp [results, Tryd.results41, go_sem, *, done, vn, xor_uu]

set_option maxHeartbeats 1000000 in
theorem reckon_shl32 (a b : Int) (ha : -9007199254740991 ≤ a ∧ a ≤ 9007199254740991) (hb : -9007199254740991 ≤ b ∧ b ≤ 9007199254740991) (w : World) : Calls Tryd.prog 41 #[.string ⟨#[60, 60]⟩, .int .i64 a, .int .i64 b] w fun e w' => e = .returned (.agg #[.int .i64 (exactO (fShl a b).1 (fShl a b).2).v.k, .int .i64 (exactO (fShl a b).1 (fShl a b).2).v.n, .string (exactO (fShl a b).1 (fShl a b).2).v.s, .string (exactO (fShl a b).1 (fShl a b).2).t, .int .i64 (exactO (fShl a b).1 (fShl a b).2).f]) ∧ Below w.heap.size w w' := by
  have hu := u32_bd b
  have hua := u32_bd a
  have e32 : u32 b % 32 = b % 32 := by unfold u32; omega
  have h0 : 0 ≤ b % 32 := by omega
  have h1 : b % 32 < 32 := by omega
  have hw := wrap_k (b % 32) h0 h1
  have hs := sig_form a
  go_enter Tryd.func41, Tryd.ntmps41
  go_wp2_with (first
    | (go_at_call 36; refine (rlow_any _ _).mono ?_; rintro e w1 ⟨rfl, rfl⟩)
    | (go_at_call 64; refine (rexact_any _ _).mono ?_; rintro e wb1 ⟨rfl, b1⟩; have zb1 : w.heap.size + 1 ≤ wb1.heap.size := (by have hzz := Below.size b1; first | omega | (simp at hzz; omega)); replace b1 := Below.mono (B' := w.heap.size + 1) b1 (by first | omega | (simp <;> omega)); obtain ⟨hcb1, hfb1⟩ := bcell b1)
    | (go_at_call 65; refine (rtimes_any _ _ ha hb _).mono ?_; rintro e wb1 ⟨rfl, b1⟩; have zb1 : w.heap.size + 1 ≤ wb1.heap.size := (by have hzz := Below.size b1; first | omega | (simp at hzz; omega)); replace b1 := Below.mono (B' := w.heap.size + 1) b1 (by first | omega | (simp <;> omega)); obtain ⟨hcb1, hfb1⟩ := bcell b1)
    | (go_at_call 35; refine (rsigned_any _ _).mono ?_; rintro e wb1 ⟨rfl, b1⟩; have zb1 : w.heap.size + 1 ≤ wb1.heap.size := (by have hzz := Below.size b1; first | omega | (simp at hzz; omega)); replace b1 := Below.mono (B' := w.heap.size + 1) b1 (by first | omega | (simp <;> omega)); obtain ⟨hcb1, hfb1⟩ := bcell b1)
    | (go_at_call 34; refine (rNumber_any _ _).mono ?_; rintro e wb1 ⟨rfl, b1⟩; have zb1 : w.heap.size + 1 ≤ wb1.heap.size := (by have hzz := Below.size b1; first | omega | (simp at hzz; omega)); replace b1 := Below.mono (B' := w.heap.size + 1) b1 (by first | omega | (simp <;> omega)); obtain ⟨hcb1, hfb1⟩ := bcell b1))
  all_goals refine bodyPost_ret (v := .agg #[.int .i64 (exactO (fShl a b).1 (fShl a b).2).v.k, .int .i64 (exactO (fShl a b).1 (fShl a b).2).v.n, .string (exactO (fShl a b).1 (fShl a b).2).v.s, .string (exactO (fShl a b).1 (fShl a b).2).t, .int .i64 (exactO (fShl a b).1 (fShl a b).2).f]) ?_ rfl ⟨rfl, (by (repeat (first | (with_reducible exact Below.refl _ _) | (with_reducible assumption) | (with_reducible refine Below.setCell ?_ (by first | omega | (simp <;> omega)) _) | (with_reducible refine Below.alloc ?_ (by first | omega | (simp <;> omega)) _) | (with_reducible refine Below.drew ?_) | (with_reducible refine below_drewN ?_ _) | (with_reducible refine Below.trans ?_ (Below.mono (by with_reducible assumption) (by first | omega | (simp <;> omega)))))))⟩
  have hbd : -2147483648 ≤ shl32 a (b % 32).toNat ∧ shl32 a (b % 32).toNat ≤ 2147483647 := s32_bd _
  have hin : exactO (fShl a b).1 (fShl a b).2 = done (vn (shl32 a (b % 32).toNat)) := exactO_in rfl (by show shl32 a (b % 32).toNat ≤ _; omega) (by show _ ≤ shl32 a (b % 32).toNat; omega)
  rw [hin]
  clear hin hbd
  all_goals simp [results, Tryd.results41, go_sem, *, done, vn, shl_finu]

set_option maxHeartbeats 1000000 in
theorem reckon_shr32 (a b : Int) (ha : -9007199254740991 ≤ a ∧ a ≤ 9007199254740991) (hb : -9007199254740991 ≤ b ∧ b ≤ 9007199254740991) (w : World) : Calls Tryd.prog 41 #[.string ⟨#[62, 62]⟩, .int .i64 a, .int .i64 b] w fun e w' => e = .returned (.agg #[.int .i64 (exactO (fShr a b).1 (fShr a b).2).v.k, .int .i64 (exactO (fShr a b).1 (fShr a b).2).v.n, .string (exactO (fShr a b).1 (fShr a b).2).v.s, .string (exactO (fShr a b).1 (fShr a b).2).t, .int .i64 (exactO (fShr a b).1 (fShr a b).2).f]) ∧ Below w.heap.size w w' := by
  have hu := u32_bd b
  have hua := u32_bd a
  have e32 : u32 b % 32 = b % 32 := by unfold u32; omega
  have h0 : 0 ≤ b % 32 := by omega
  have h1 : b % 32 < 32 := by omega
  have hw := wrap_k (b % 32) h0 h1
  have hs := sig_form a
  go_enter Tryd.func41, Tryd.ntmps41
  go_wp2_with (first
    | (go_at_call 36; refine (rlow_any _ _).mono ?_; rintro e w1 ⟨rfl, rfl⟩)
    | (go_at_call 64; refine (rexact_any _ _).mono ?_; rintro e wb1 ⟨rfl, b1⟩; have zb1 : w.heap.size + 1 ≤ wb1.heap.size := (by have hzz := Below.size b1; first | omega | (simp at hzz; omega)); replace b1 := Below.mono (B' := w.heap.size + 1) b1 (by first | omega | (simp <;> omega)); obtain ⟨hcb1, hfb1⟩ := bcell b1)
    | (go_at_call 65; refine (rtimes_any _ _ ha hb _).mono ?_; rintro e wb1 ⟨rfl, b1⟩; have zb1 : w.heap.size + 1 ≤ wb1.heap.size := (by have hzz := Below.size b1; first | omega | (simp at hzz; omega)); replace b1 := Below.mono (B' := w.heap.size + 1) b1 (by first | omega | (simp <;> omega)); obtain ⟨hcb1, hfb1⟩ := bcell b1)
    | (go_at_call 35; refine (rsigned_any _ _).mono ?_; rintro e wb1 ⟨rfl, b1⟩; have zb1 : w.heap.size + 1 ≤ wb1.heap.size := (by have hzz := Below.size b1; first | omega | (simp at hzz; omega)); replace b1 := Below.mono (B' := w.heap.size + 1) b1 (by first | omega | (simp <;> omega)); obtain ⟨hcb1, hfb1⟩ := bcell b1)
    | (go_at_call 34; refine (rNumber_any _ _).mono ?_; rintro e wb1 ⟨rfl, b1⟩; have zb1 : w.heap.size + 1 ≤ wb1.heap.size := (by have hzz := Below.size b1; first | omega | (simp at hzz; omega)); replace b1 := Below.mono (B' := w.heap.size + 1) b1 (by first | omega | (simp <;> omega)); obtain ⟨hcb1, hfb1⟩ := bcell b1))
  all_goals refine bodyPost_ret (v := .agg #[.int .i64 (exactO (fShr a b).1 (fShr a b).2).v.k, .int .i64 (exactO (fShr a b).1 (fShr a b).2).v.n, .string (exactO (fShr a b).1 (fShr a b).2).v.s, .string (exactO (fShr a b).1 (fShr a b).2).t, .int .i64 (exactO (fShr a b).1 (fShr a b).2).f]) ?_ rfl ⟨rfl, (by (repeat (first | (with_reducible exact Below.refl _ _) | (with_reducible assumption) | (with_reducible refine Below.setCell ?_ (by first | omega | (simp <;> omega)) _) | (with_reducible refine Below.alloc ?_ (by first | omega | (simp <;> omega)) _) | (with_reducible refine Below.drew ?_) | (with_reducible refine below_drewN ?_ _) | (with_reducible refine Below.trans ?_ (Below.mono (by with_reducible assumption) (by first | omega | (simp <;> omega)))))))⟩
  have hbd := shr_bd a (b % 32).toNat
  have hin : exactO (fShr a b).1 (fShr a b).2 = done (vn (shr32 a (b % 32).toNat)) := exactO_in rfl (by show shr32 a (b % 32).toNat ≤ _; omega) (by show _ ≤ shr32 a (b % 32).toNat; omega)
  rw [hin]
  clear hin hbd
  all_goals simp [results, Tryd.results41, go_sem, *, done, vn, shr32, shr_wrap]

set_option maxHeartbeats 1000000 in
theorem reckon_ushr32 (a b : Int) (ha : -9007199254740991 ≤ a ∧ a ≤ 9007199254740991) (hb : -9007199254740991 ≤ b ∧ b ≤ 9007199254740991) (w : World) : Calls Tryd.prog 41 #[.string ⟨#[62, 62, 62]⟩, .int .i64 a, .int .i64 b] w fun e w' => e = .returned (.agg #[.int .i64 (exactO (fUshr a b).1 (fUshr a b).2).v.k, .int .i64 (exactO (fUshr a b).1 (fUshr a b).2).v.n, .string (exactO (fUshr a b).1 (fUshr a b).2).v.s, .string (exactO (fUshr a b).1 (fUshr a b).2).t, .int .i64 (exactO (fUshr a b).1 (fUshr a b).2).f]) ∧ Below w.heap.size w w' := by
  have hu := u32_bd b
  have hua := u32_bd a
  have e32 : u32 b % 32 = b % 32 := by unfold u32; omega
  have h0 : 0 ≤ b % 32 := by omega
  have h1 : b % 32 < 32 := by omega
  have hw := wrap_k (b % 32) h0 h1
  have hs := sig_form a
  go_enter Tryd.func41, Tryd.ntmps41
  go_wp2_with (first
    | (go_at_call 36; refine (rlow_any _ _).mono ?_; rintro e w1 ⟨rfl, rfl⟩)
    | (go_at_call 64; refine (rexact_any _ _).mono ?_; rintro e wb1 ⟨rfl, b1⟩; have zb1 : w.heap.size + 1 ≤ wb1.heap.size := (by have hzz := Below.size b1; first | omega | (simp at hzz; omega)); replace b1 := Below.mono (B' := w.heap.size + 1) b1 (by first | omega | (simp <;> omega)); obtain ⟨hcb1, hfb1⟩ := bcell b1)
    | (go_at_call 65; refine (rtimes_any _ _ ha hb _).mono ?_; rintro e wb1 ⟨rfl, b1⟩; have zb1 : w.heap.size + 1 ≤ wb1.heap.size := (by have hzz := Below.size b1; first | omega | (simp at hzz; omega)); replace b1 := Below.mono (B' := w.heap.size + 1) b1 (by first | omega | (simp <;> omega)); obtain ⟨hcb1, hfb1⟩ := bcell b1)
    | (go_at_call 35; refine (rsigned_any _ _).mono ?_; rintro e wb1 ⟨rfl, b1⟩; have zb1 : w.heap.size + 1 ≤ wb1.heap.size := (by have hzz := Below.size b1; first | omega | (simp at hzz; omega)); replace b1 := Below.mono (B' := w.heap.size + 1) b1 (by first | omega | (simp <;> omega)); obtain ⟨hcb1, hfb1⟩ := bcell b1)
    | (go_at_call 34; refine (rNumber_any _ _).mono ?_; rintro e wb1 ⟨rfl, b1⟩; have zb1 : w.heap.size + 1 ≤ wb1.heap.size := (by have hzz := Below.size b1; first | omega | (simp at hzz; omega)); replace b1 := Below.mono (B' := w.heap.size + 1) b1 (by first | omega | (simp <;> omega)); obtain ⟨hcb1, hfb1⟩ := bcell b1))
  all_goals refine bodyPost_ret (v := .agg #[.int .i64 (exactO (fUshr a b).1 (fUshr a b).2).v.k, .int .i64 (exactO (fUshr a b).1 (fUshr a b).2).v.n, .string (exactO (fUshr a b).1 (fUshr a b).2).v.s, .string (exactO (fUshr a b).1 (fUshr a b).2).t, .int .i64 (exactO (fUshr a b).1 (fUshr a b).2).f]) ?_ rfl ⟨rfl, (by (repeat (first | (with_reducible exact Below.refl _ _) | (with_reducible assumption) | (with_reducible refine Below.setCell ?_ (by first | omega | (simp <;> omega)) _) | (with_reducible refine Below.alloc ?_ (by first | omega | (simp <;> omega)) _) | (with_reducible refine Below.drew ?_) | (with_reducible refine below_drewN ?_ _) | (with_reducible refine Below.trans ?_ (Below.mono (by with_reducible assumption) (by first | omega | (simp <;> omega)))))))⟩
  have hbd := ushr_bd a (b % 32).toNat
  have hin : exactO (fUshr a b).1 (fUshr a b).2 = done (vn (ushr32 a (b % 32).toNat)) := exactO_in rfl (by show ushr32 a (b % 32).toNat ≤ _; omega) (by show _ ≤ ushr32 a (b % 32).toNat; omega)
  rw [hin]
  clear hin hbd
  all_goals simp [results, Tryd.results41, go_sem, *, done, vn, ushr_finu, ushr32]

set_option maxHeartbeats 1000000 in
theorem reckon_rem0 (a : Int) (w : World) : Calls Tryd.prog 41 #[.string ⟨#[37]⟩, .int .i64 a, .int .i64 0] w fun e w' => e = .returned (.agg #[.int .i64 (exactO (fRem a 0).1 (fRem a 0).2).v.k, .int .i64 (exactO (fRem a 0).1 (fRem a 0).2).v.n, .string (exactO (fRem a 0).1 (fRem a 0).2).v.s, .string (exactO (fRem a 0).1 (fRem a 0).2).t, .int .i64 (exactO (fRem a 0).1 (fRem a 0).2).f]) ∧ Below w.heap.size w w' := by
  have e32 : u32 0 = 0 := by decide
  have hin : exactO (fRem a 0).1 (fRem a 0).2 = ⟨vu, ⟨#[]⟩, 2⟩ := exactO_out (.inl rfl)
  go_enter Tryd.func41, Tryd.ntmps41
  go_wp2_with (go_at_call 36; refine (rlow_any _ _).mono ?_; rintro e w1 ⟨rfl, rfl⟩)
  all_goals refine bodyPost_ret (v := .agg #[.int .i64 (exactO (fRem a 0).1 (fRem a 0).2).v.k, .int .i64 (exactO (fRem a 0).1 (fRem a 0).2).v.n, .string (exactO (fRem a 0).1 (fRem a 0).2).v.s, .string (exactO (fRem a 0).1 (fRem a 0).2).t, .int .i64 (exactO (fRem a 0).1 (fRem a 0).2).f]) ?_ rfl ⟨rfl, (by (repeat (first | (with_reducible exact Below.refl _ _) | (with_reducible assumption) | (with_reducible refine Below.setCell ?_ (by first | omega | (simp <;> omega)) _) | (with_reducible refine Below.alloc ?_ (by first | omega | (simp <;> omega)) _) | (with_reducible refine Below.drew ?_) | (with_reducible refine below_drewN ?_ _) | (with_reducible refine Below.trans ?_ (Below.mono (by with_reducible assumption) (by first | omega | (simp <;> omega)))))))⟩
  rw [hin]
  all_goals simp [results, Tryd.results41, go_sem, *, vu]
set_option maxHeartbeats 400000 in
theorem rord_olt (c : Int) (w : World) : Calls Tryd.prog 43 #[.string ⟨#[60]⟩, .int .i64 c] w fun e w' => e = .returned (.bool (decide (c < 0))) ∧ w' = w := by
  go_enter Tryd.func43, Tryd.ntmps43
  go_wp2
  go_ret
  exact ⟨rfl, rfl⟩
set_option maxHeartbeats 400000 in
theorem rord_ole (c : Int) (w : World) : Calls Tryd.prog 43 #[.string ⟨#[60, 61]⟩, .int .i64 c] w fun e w' => e = .returned (.bool (decide (c ≤ 0))) ∧ w' = w := by
  go_enter Tryd.func43, Tryd.ntmps43
  go_wp2
  go_ret
  exact ⟨rfl, rfl⟩
set_option maxHeartbeats 400000 in
theorem rord_ogt (c : Int) (w : World) : Calls Tryd.prog 43 #[.string ⟨#[62]⟩, .int .i64 c] w fun e w' => e = .returned (.bool (decide (0 < c))) ∧ w' = w := by
  go_enter Tryd.func43, Tryd.ntmps43
  go_wp2
  go_ret
  exact ⟨rfl, rfl⟩
set_option maxHeartbeats 400000 in
theorem rord_oge (c : Int) (w : World) : Calls Tryd.prog 43 #[.string ⟨#[62, 61]⟩, .int .i64 c] w fun e w' => e = .returned (.bool (decide (0 ≤ c))) ∧ w' = w := by
  go_enter Tryd.func43, Tryd.ntmps43
  go_wp2
  go_ret
  exact ⟨rfl, rfl⟩
theorem reckon_remall (a b : Int) (ha : -9007199254740991 ≤ a ∧ a ≤ 9007199254740991) (hb : -9007199254740991 ≤ b ∧ b ≤ 9007199254740991) (w : World) : Calls Tryd.prog 41 #[.string ⟨#[37]⟩, .int .i64 a, .int .i64 b] w fun e w' => e = .returned (.agg #[.int .i64 (exactO (fRem a b).1 (fRem a b).2).v.k, .int .i64 (exactO (fRem a b).1 (fRem a b).2).v.n, .string (exactO (fRem a b).1 (fRem a b).2).v.s, .string (exactO (fRem a b).1 (fRem a b).2).t, .int .i64 (exactO (fRem a b).1 (fRem a b).2).f]) ∧ Below w.heap.size w w' := by
  by_cases h : b = 0
  · subst h; exact reckon_rem0 a w
  · have e : fRem a b = (a.tmod b, true) := if_neg h
    exact reckon_rem a b ha hb w h
end Go.Proofs.YtkfpomkfgdkjdaaDoor
