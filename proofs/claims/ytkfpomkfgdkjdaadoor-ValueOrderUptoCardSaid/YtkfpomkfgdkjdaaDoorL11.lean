/- The walk of chapter 14's law ValueOrder, and its plain law: of less, the same and more just one holds. -/
import Derived.Test.YtkfpomkfgdkjdaaDoorL1
import Derived.Test.YtkfpomkfgdkjdaaDoorOpLt
import Derived.Test.YtkfpomkfgdkjdaaDoorOpLe
import Derived.Test.YtkfpomkfgdkjdaaDoorOpGt
import Derived.Test.YtkfpomkfgdkjdaaDoorOpGe
import Derived.Test.YtkfpomkfgdkjdaaDoorOpEq
import Derived.Test.YtkfpomkfgdkjdaaDoorRefGood
import Derived.Test.YtkfpomkfgdkjdaaDoorLater
import Derived.Deep.DeepCutAuto
namespace Go.Proofs.YtkfpomkfgdkjdaaDoor
set_option linter.unusedVariables false
set_option linter.unusedSimpArgs false
open Go.RowKit
theorem cmpL_anti : ∀ l m : List Int, cmpL m l = - cmpL l m
  | [], m => by rw [cmp_nil m [] (.inr rfl), cmp_nil [] m (.inl rfl)]; simp
  | x :: xs, [] => by rw [cmp_nil [] (x :: xs) (.inl rfl), cmp_nil (x :: xs) [] (.inr rfl)]; simp
  | x :: xs, y :: ys => by
    show (if y = x then cmpL ys xs else y - x) = - (if x = y then cmpL xs ys else x - y)
    by_cases h : x = y
    · rw [if_pos h.symm, if_pos h, cmpL_anti xs ys]
    · rw [if_neg (fun e => h e.symm), if_neg h]; omega
theorem cmpL_zero : ∀ l m : List Int, cmpL l m = 0 → l = m
  | [], [], _ => rfl
  | [], y :: ys, h => by rw [cmp_nil [] (y :: ys) (.inl rfl)] at h; simp at h; omega
  | x :: xs, [], h => by rw [cmp_nil (x :: xs) [] (.inr rfl)] at h; simp at h; omega
  | x :: xs, y :: ys, h => by
    replace h : (if x = y then cmpL xs ys else x - y) = 0 := h
    by_cases e : x = y
    · rw [if_pos e] at h; rw [e, cmpL_zero xs ys h]
    · rw [if_neg e] at h; omega
theorem cmpL_self : ∀ l : List Int, cmpL l l = 0
  | [] => rfl
  | x :: xs => by
    show (if x = x then cmpL xs xs else x - x) = 0
    rw [if_pos rfl, cmpL_self xs]
/-- What the six questions answer. -/
structure Ord3 (a b : V) (l q g : Bool) : Prop where
  lt : ∀ w : World, Calls Tryd.prog 16 #[.string ⟨#[60]⟩, .agg #[.int .i64 (a).k, .int .i64 (a).n, .string (a).s], .agg #[.int .i64 (b).k, .int .i64 (b).n, .string (b).s]] w fun e w' => e = .returned (.tuple #[.agg #[.int .i64 2, .int .i64 (b2i (l)), .string ⟨#[]⟩], .string ⟨#[]⟩, .int .i64 0]) ∧ Below w.heap.size w w'
  eq : ∀ w : World, Calls Tryd.prog 16 #[.string ⟨#[61, 61, 61]⟩, .agg #[.int .i64 (a).k, .int .i64 (a).n, .string (a).s], .agg #[.int .i64 (b).k, .int .i64 (b).n, .string (b).s]] w fun e w' => e = .returned (.tuple #[.agg #[.int .i64 2, .int .i64 (b2i (q)), .string ⟨#[]⟩], .string ⟨#[]⟩, .int .i64 0]) ∧ Below w.heap.size w w'
  gl : ∀ w : World, Calls Tryd.prog 16 #[.string ⟨#[60]⟩, .agg #[.int .i64 (b).k, .int .i64 (b).n, .string (b).s], .agg #[.int .i64 (a).k, .int .i64 (a).n, .string (a).s]] w fun e w' => e = .returned (.tuple #[.agg #[.int .i64 2, .int .i64 (b2i (g)), .string ⟨#[]⟩], .string ⟨#[]⟩, .int .i64 0]) ∧ Below w.heap.size w w'
  le : ∀ w : World, Calls Tryd.prog 16 #[.string ⟨#[60, 61]⟩, .agg #[.int .i64 (a).k, .int .i64 (a).n, .string (a).s], .agg #[.int .i64 (b).k, .int .i64 (b).n, .string (b).s]] w fun e w' => e = .returned (.tuple #[.agg #[.int .i64 2, .int .i64 (b2i (!g)), .string ⟨#[]⟩], .string ⟨#[]⟩, .int .i64 0]) ∧ Below w.heap.size w w'
  gt : ∀ w : World, Calls Tryd.prog 16 #[.string ⟨#[62]⟩, .agg #[.int .i64 (a).k, .int .i64 (a).n, .string (a).s], .agg #[.int .i64 (b).k, .int .i64 (b).n, .string (b).s]] w fun e w' => e = .returned (.tuple #[.agg #[.int .i64 2, .int .i64 (b2i (g)), .string ⟨#[]⟩], .string ⟨#[]⟩, .int .i64 0]) ∧ Below w.heap.size w w'
  ge : ∀ w : World, Calls Tryd.prog 16 #[.string ⟨#[62, 61]⟩, .agg #[.int .i64 (a).k, .int .i64 (a).n, .string (a).s], .agg #[.int .i64 (b).k, .int .i64 (b).n, .string (b).s]] w fun e w' => e = .returned (.tuple #[.agg #[.int .i64 2, .int .i64 (b2i (!l)), .string ⟨#[]⟩], .string ⟨#[]⟩, .int .i64 0]) ∧ Below w.heap.size w w'
def One3 (l e g : Bool) : Prop := (l = true ∧ e = false ∧ g = false) ∨ (l = false ∧ e = true ∧ g = false) ∨ (l = false ∧ e = false ∧ g = true)
theorem one3 (d : Int) : One3 (decide (d < 0)) (decide (d = 0)) (decide (0 < d)) := by
  unfold One3
  rcases Int.lt_trichotomy d 0 with h | h | h
  · left; simp; omega
  · right; left; simp; omega
  · right; right; simp; omega
theorem ord_num (a b : V) (ha : a.k = 3) (hb : b.k = 3) : ∃ l e g, One3 l e g ∧ Ord3 a b l e g := by
  have ea : sane a = vn (clamp a.n) := by simp [sane, ha]
  have eb : sane b = vn (clamp b.n) := by simp [sane, hb]
  have ka : (sane a).k = 3 := by rw [ea]; rfl
  have kb : (sane b).k = 3 := by rw [eb]; rfl
  have na : (sane a).n = clamp a.n := by rw [ea]; rfl
  have nb : (sane b).n = clamp b.n := by rw [eb]; rfl
  have o1 : ∀ f, ordO f cmpT a b = done (vb (f (clamp a.n - clamp b.n))) := fun f => by unfold ordO; rw [if_pos ⟨ka, kb⟩, na, nb]
  have o2 : ∀ f, ordO f cmpT b a = done (vb (f (clamp b.n - clamp a.n))) := fun f => by unfold ordO; rw [if_pos ⟨kb, ka⟩, na, nb]
  have es : sameV a b = decide (clamp a.n - clamp b.n = 0) := by
    unfold sameV; rw [ea, eb]; simp [vn]; rw [Bool.eq_iff_iff]; simp <;> omega
  refine ⟨_, _, _, one3 (clamp a.n - clamp b.n), ?_, ?_, ?_, ?_, ?_, ?_⟩
  · exact fun w => (Binary_lt_num a b w ka kb).mono fun e w' ⟨he, h⟩ => ⟨by rw [he, o1]; rfl, h⟩
  · exact fun w => (Binary_eq a b w).mono fun e w' ⟨he, h⟩ => ⟨by rw [he, es]; rfl, h⟩
  · refine fun w => (Binary_lt_num b a w kb ka).mono fun e w' ⟨he, h⟩ => ⟨?_, h⟩
    have : flt (clamp b.n - clamp a.n) = decide (0 < clamp a.n - clamp b.n) := by unfold flt; rw [Bool.eq_iff_iff]; simp <;> omega
    rw [he, o2, this]; rfl
  · refine fun w => (Binary_le_num a b w ka kb).mono fun e w' ⟨he, h⟩ => ⟨?_, h⟩
    have : fle (clamp a.n - clamp b.n) = !decide (0 < clamp a.n - clamp b.n) := by unfold fle; rw [Bool.eq_iff_iff]; simp <;> omega
    rw [he, o1, this]; rfl
  · exact fun w => (Binary_gt_num a b w ka kb).mono fun e w' ⟨he, h⟩ => ⟨by rw [he, o1]; rfl, h⟩
  · refine fun w => (Binary_ge_num a b w ka kb).mono fun e w' ⟨he, h⟩ => ⟨?_, h⟩
    have : fge (clamp a.n - clamp b.n) = !decide (clamp a.n - clamp b.n < 0) := by unfold fge; rw [Bool.eq_iff_iff]; simp <;> omega
    rw [he, o1, this]; rfl
theorem ord_txt (a b : V) (ha : a.k = 4) (hb : b.k = 4) (s1 : a.s.size ≤ 1048576) (s2 : b.s.size ≤ 1048576) (g1 : good a.s = true) (g2 : good b.s = true) : ∃ l e g, One3 l e g ∧ Ord3 a b l e g := by
  have ea : sane a = vs a.s := by simp [sane, ha]
  have eb : sane b = vs b.s := by simp [sane, hb]
  have ka : (sane a).k = 4 := by rw [ea]; rfl
  have kb : (sane b).k = 4 := by rw [eb]; rfl
  have ta : (sane a).s = a.s := by rw [ea]; rfl
  have tb : (sane b).s = b.s := by rw [eb]; rfl
  have n3 : ¬ ((sane a).k = 3 ∧ (sane b).k = 3) := by rw [ka]; omega
  have n3' : ¬ ((sane b).k = 3 ∧ (sane a).k = 3) := by rw [ka]; omega
  have z1 : (sane a).s.size ≤ 1099511627776 := by rw [ta]; omega
  have z2 : (sane b).s.size ≤ 1099511627776 := by rw [tb]; omega
  have o1 : ∀ f, ordO f cmpT a b = done (vb (f (cmpT a.s b.s))) := fun f => by unfold ordO; rw [if_neg n3, if_pos ⟨ka, kb⟩, ta, tb]
  have o2 : ∀ f, ordO f cmpT b a = done (vb (f (cmpT b.s a.s))) := fun f => by unfold ordO; rw [if_neg n3', if_pos ⟨kb, ka⟩, ta, tb]
  have an : cmpT b.s a.s = - cmpT a.s b.s := cmpL_anti _ _
  have es : sameV a b = decide (cmpT a.s b.s = 0) := by
    unfold sameV; rw [ea, eb]; simp only [vs]; rw [Bool.eq_iff_iff]
    simp only [BEq.rfl, Bool.true_and, beq_iff_eq, decide_eq_true_eq]
    constructor
    · intro h
      have : a.s = b.s := by
        rw [ByteArray.toList_eq, ByteArray.toList_eq] at h
        exact ByteArray.ext (Array.toList_inj.1 h)
      rw [this]; exact cmpL_self _
    · intro h
      rw [good_inj g1 g2 (cmpL_zero _ _ h)]
  refine ⟨_, _, _, one3 (cmpT a.s b.s), ?_, ?_, ?_, ?_, ?_, ?_⟩
  · exact fun w => (Binary_lt_txt a b w ka kb z1 z2).mono fun e w' ⟨he, h⟩ => ⟨by rw [he, o1]; rfl, h⟩
  · exact fun w => (Binary_eq a b w).mono fun e w' ⟨he, h⟩ => ⟨by rw [he, es]; rfl, h⟩
  · refine fun w => (Binary_lt_txt b a w kb ka z2 z1).mono fun e w' ⟨he, h⟩ => ⟨?_, h⟩
    have : flt (cmpT b.s a.s) = decide (0 < cmpT a.s b.s) := by unfold flt; rw [an, Bool.eq_iff_iff]; simp <;> omega
    rw [he, o2, this]; rfl
  · refine fun w => (Binary_le_txt a b w ka kb z1 z2).mono fun e w' ⟨he, h⟩ => ⟨?_, h⟩
    have : fle (cmpT a.s b.s) = !decide (0 < cmpT a.s b.s) := by unfold fle; rw [Bool.eq_iff_iff]; simp <;> omega
    rw [he, o1, this]; rfl
  · exact fun w => (Binary_gt_txt a b w ka kb z1 z2).mono fun e w' ⟨he, h⟩ => ⟨by rw [he, o1]; rfl, h⟩
  · refine fun w => (Binary_ge_txt a b w ka kb z1 z2).mono fun e w' ⟨he, h⟩ => ⟨?_, h⟩
    have : fge (cmpT a.s b.s) = !decide (cmpT a.s b.s < 0) := by unfold fge; rw [Bool.eq_iff_iff]; simp <;> omega
    rw [he, o1, this]; rfl
set_option maxHeartbeats 1000000 in
theorem yes_any (x : Bool) (w : World) : Calls Tryd.prog 23 #[.agg #[.int .i64 2, .int .i64 (b2i x), .string ⟨#[]⟩], .string ⟨#[]⟩, .int .i64 0] w fun e w' => e = .returned (.bool x) ∧ Below w.heap.size w w' := by
  cases x
  all_goals
    simp only [b2i, if_true, Bool.false_eq_true, if_false]
    go_enter Tryd.func23, Tryd.ntmps23
    go_wp2
    go_ret
    exact ⟨rfl, (by (repeat (first | (with_reducible exact Below.refl _ _) | (with_reducible assumption) | (with_reducible refine Below.setCell ?_ (by first | omega | (simp <;> omega)) _) | (with_reducible refine Below.alloc ?_ (by first | omega | (simp <;> omega)) _) | (with_reducible refine Below.drew ?_) | (with_reducible refine below_drewN ?_ _) | (with_reducible refine Below.trans ?_ (Below.mono (by with_reducible assumption) (by first | omega | (simp <;> omega)))))))⟩
theorem box_two (w : World) (t : TypeId) (A B : Array Value) : ∃ wc : World, wc = (w.alloc (.cells A t)).alloc (.cells B t) ∧ Row wc w.heap.size t A ∧ Row wc (w.heap.size + 1) t B ∧ Below w.heap.size w wc ∧ wc.heap.size = w.heap.size + 1 + 1 :=
  ⟨_, rfl, (row_new rfl).alloc _, row_new (by simp), ((Below.refl _ w).alloc (Nat.le_refl _) _).alloc (by simp) _, by simp⟩
theorem tab_later {wc : World} (ht : Tab wc) (x : Later wc) : Tab x.w := ht.keep x.h
set_option maxRecDepth 100000 in
set_option maxHeartbeats 1000000 in
theorem order_num (n n' : Int) (s s' : ByteArray) (w : World) (ht : Tab w) (h1 : s.size ≤ 1048576) (h2 : s'.size ≤ 1048576) :
    Calls Tryd.prog 7 #[.agg #[.int .i64 3, .int .i64 n, .string s], .agg #[.int .i64 3, .int .i64 n', .string s']] w fun e w' => e = .returned (.bool true) ∧ Below w.heap.size w w' := by
  by_cases hsz : s.size + s'.size ≤ 70000
  · obtain ⟨l, e, g, ho, o3⟩ := ord_num ⟨3, n, s⟩ ⟨3, n', s'⟩ rfl rfl
    have HO := Lib.hid o3
    clear o3
    go_enter Tryd.func7, Tryd.ntmps7
    go_upto_region 1 with fail
    obtain ⟨wc, hwc, r1, r2, b0, zc⟩ := box_two w 23 #[.int .i64 (3), .int .i64 n, .string s] #[.int .i64 (3), .int .i64 n', .string s']
    rw [← hwc]
    have htc : Tab wc := ht.keep b0
    have c10 : wc.cell? ⟨w.heap.size, 0, none⟩ = some (.int .i64 (3)) := r1.cell 0
    have c11 : wc.cell? ⟨w.heap.size, 1, none⟩ = some (.int .i64 n) := r1.cell 1
    have c12 : wc.cell? ⟨w.heap.size, 2, none⟩ = some (.string s) := r1.cell 2
    have c20 : wc.cell? ⟨w.heap.size + 1, 0, none⟩ = some (.int .i64 (3)) := r2.cell 0
    have c21 : wc.cell? ⟨w.heap.size + 1, 1, none⟩ = some (.int .i64 n') := r2.cell 1
    have c22 : wc.cell? ⟨w.heap.size + 1, 2, none⟩ = some (.string s') := r2.cell 2
    have l1 : w.heap.size < wc.heap.size := by omega
    have l2 : w.heap.size + 1 < wc.heap.size := by omega
    clear hwc r1 r2
    rcases ho with ⟨rfl, rfl, rfl⟩ | ⟨rfl, rfl, rfl⟩ | ⟨rfl, rfl, rfl⟩
    all_goals
      go_upto_region 12 with (first
        | (go_at_call 16; (with_reducible refine (HO.out.lt _).mono ?_); rintro e wb1 ⟨rfl, b1⟩; have zb1 : wc.heap.size ≤ wb1.heap.size := (by have hzz := Below.size b1; first | omega | (simp at hzz; omega)); replace b1 := Below.mono (B' := wc.heap.size) b1 (by first | omega | (simp <;> omega)); obtain ⟨hcb1, hfb1⟩ := bcell b1)
        | (go_at_call 16; (with_reducible refine (HO.out.eq _).mono ?_); rintro e wb2 ⟨rfl, b2⟩; have zb2 : wc.heap.size ≤ wb2.heap.size := (by have hzz := Below.size b2; first | omega | (simp at hzz; omega)); replace b2 := Below.mono (B' := wc.heap.size) b2 (by first | omega | (simp <;> omega)); obtain ⟨hcb2, hfb2⟩ := bcell b2)
        | (go_at_call 16; (with_reducible refine (HO.out.gl _).mono ?_); rintro e wb3 ⟨rfl, b3⟩; have zb3 : wc.heap.size ≤ wb3.heap.size := (by have hzz := Below.size b3; first | omega | (simp at hzz; omega)); replace b3 := Below.mono (B' := wc.heap.size) b3 (by first | omega | (simp <;> omega)); obtain ⟨hcb3, hfb3⟩ := bcell b3)
        | (go_at_call 23; (with_reducible refine (yes_any _ _).mono ?_); rintro e wb4 ⟨rfl, b4⟩; have zb4 : wc.heap.size ≤ wb4.heap.size := (by have hzz := Below.size b4; first | omega | (simp at hzz; omega)); replace b4 := Below.mono (B' := wc.heap.size) b4 (by first | omega | (simp <;> omega)); obtain ⟨hcb4, hfb4⟩ := bcell b4))
      have L10 : ∀ x : Later wc, x.w.cell? ⟨w.heap.size, 0, none⟩ = some (.int .i64 3) := fun x => (x.cell l1).trans c10
      have L11 : ∀ x : Later wc, x.w.cell? ⟨w.heap.size, 1, none⟩ = some (.int .i64 n) := fun x => (x.cell l1).trans c11
      have L12 : ∀ x : Later wc, x.w.cell? ⟨w.heap.size, 2, none⟩ = some (.string s) := fun x => (x.cell l1).trans c12
      have L20 : ∀ x : Later wc, x.w.cell? ⟨w.heap.size + 1, 0, none⟩ = some (.int .i64 3) := fun x => (x.cell l2).trans c20
      have L21 : ∀ x : Later wc, x.w.cell? ⟨w.heap.size + 1, 1, none⟩ = some (.int .i64 n') := fun x => (x.cell l2).trans c21
      have L22 : ∀ x : Later wc, x.w.cell? ⟨w.heap.size + 1, 2, none⟩ = some (.string s') := fun x => (x.cell l2).trans c22
      have L1 : Below wc.heap.size wc wb4 := (by (repeat (first | (with_reducible exact Below.refl _ _) | (with_reducible assumption) | (with_reducible refine Below.setCell ?_ (by first | omega | (simp <;> omega)) _) | (with_reducible refine Below.alloc ?_ (by first | omega | (simp <;> omega)) _) | (with_reducible refine Below.drew ?_) | (with_reducible refine below_drewN ?_ _) | (with_reducible refine Below.trans ?_ (Below.mono (by with_reducible assumption) (by first | omega | (simp <;> omega)))))))
      (refine wp_region_later wc L1 (by kernel_rfl) (by kernel_rfl) ?_; repeat (first | go_big_quiet_step (first | with_reducible exact Later.call (HO.out.le _) | with_reducible exact Later.call (HO.out.gt _) | with_reducible exact Later.call (HO.out.ge _) | with_reducible exact Later.call (HO.out.lt _) | with_reducible exact Later.call (yes_any _ _) | with_reducible exact Later.call (known_any _ (tab_later htc _))) | quiet_step (first | with_reducible exact Later.call (HO.out.le _) | with_reducible exact Later.call (HO.out.gt _) | with_reducible exact Later.call (HO.out.ge _) | with_reducible exact Later.call (HO.out.lt _) | with_reducible exact Later.call (yes_any _ _) | with_reducible exact Later.call (known_any _ (tab_later htc _)))))
      refine wpQuiet_nil ?_
      intro _ hw'
      obtain ⟨xq, hw''⟩ := hw'
      subst hw''
      go_wp2
      go_ret
      exact ⟨rfl, b0.trans (xq.h.mono (by omega))⟩
  · go_enter Tryd.func7, Tryd.ntmps7
    go_upto_region 1 with fail
    obtain ⟨wc, hwc, r1, r2, b0, zc⟩ := box_two w 23 #[.int .i64 (3), .int .i64 n, .string s] #[.int .i64 (3), .int .i64 n', .string s']
    rw [← hwc]
    have htc : Tab wc := ht.keep b0
    have c10 : wc.cell? ⟨w.heap.size, 0, none⟩ = some (.int .i64 (3)) := r1.cell 0
    have c11 : wc.cell? ⟨w.heap.size, 1, none⟩ = some (.int .i64 n) := r1.cell 1
    have c12 : wc.cell? ⟨w.heap.size, 2, none⟩ = some (.string s) := r1.cell 2
    have c20 : wc.cell? ⟨w.heap.size + 1, 0, none⟩ = some (.int .i64 (3)) := r2.cell 0
    have c21 : wc.cell? ⟨w.heap.size + 1, 1, none⟩ = some (.int .i64 n') := r2.cell 1
    have c22 : wc.cell? ⟨w.heap.size + 1, 2, none⟩ = some (.string s') := r2.cell 2
    have l1 : w.heap.size < wc.heap.size := by omega
    have l2 : w.heap.size + 1 < wc.heap.size := by omega
    clear hwc r1 r2
    go_wp2_with (go_at_call 13; refine (known_any _ (htc.keep (by (repeat (first | (with_reducible exact Below.refl _ _) | (with_reducible assumption) | (with_reducible refine Below.setCell ?_ (by first | omega | (simp <;> omega)) _) | (with_reducible refine Below.alloc ?_ (by first | omega | (simp <;> omega)) _) | (with_reducible refine Below.drew ?_) | (with_reducible refine below_drewN ?_ _) | (with_reducible refine Below.trans ?_ (Below.mono (by with_reducible assumption) (by first | omega | (simp <;> omega))))))))).mono ?_; rintro e wkn ⟨rfl, bkn⟩; have zkn := Below.size bkn; (try simp at zkn); replace bkn := Below.mono (B' := wc.heap.size) bkn (by first | omega | (simp <;> omega)))
    all_goals first
      | (exfalso; omega)
      | skip
    all_goals go_ret
    all_goals exact ⟨rfl, b0.trans ((show Below wc.heap.size wc _ from (by (repeat (first | (with_reducible exact Below.refl _ _) | (with_reducible assumption) | (with_reducible refine Below.setCell ?_ (by first | omega | (simp <;> omega)) _) | (with_reducible refine Below.alloc ?_ (by first | omega | (simp <;> omega)) _) | (with_reducible refine Below.drew ?_) | (with_reducible refine below_drewN ?_ _) | (with_reducible refine Below.trans ?_ (Below.mono (by with_reducible assumption) (by first | omega | (simp <;> omega)))))))).mono (by omega))⟩
set_option maxRecDepth 100000 in
set_option maxHeartbeats 4000000 in
theorem order_txt (n n' : Int) (s s' : ByteArray) (w : World) (ht : Tab w) (h1 : s.size ≤ 1048576) (h2 : s'.size ≤ 1048576) :
    Calls Tryd.prog 7 #[.agg #[.int .i64 4, .int .i64 n, .string s], .agg #[.int .i64 4, .int .i64 n', .string s']] w fun e w' => e = .returned (.bool true) ∧ Below w.heap.size w w' := by
  have HG1 := fun W => rGood_any s (by omega) W
  have HG2 := fun W => rGood_any s' (by omega) W
  have H1 := Lib.hid HG1
  have H2 := Lib.hid HG2
  clear HG1 HG2
  by_cases hyes : (s.size + s'.size ≤ 70000 ∧ good s = true ∧ good s' = true)
  · obtain ⟨hsz, g1, g2⟩ := hyes
    obtain ⟨l, e, g, ho, o3⟩ := ord_txt ⟨4, n, s⟩ ⟨4, n', s'⟩ rfl rfl h1 h2 g1 g2
    have HO := Lib.hid o3
    clear o3
    rw [g1] at H1
    rw [g2] at H2
    clear g1 g2
    go_enter Tryd.func7, Tryd.ntmps7
    go_upto_region 1 with fail
    obtain ⟨wc, hwc, r1, r2, b0, zc⟩ := box_two w 23 #[.int .i64 (4), .int .i64 n, .string s] #[.int .i64 (4), .int .i64 n', .string s']
    rw [← hwc]
    have htc : Tab wc := ht.keep b0
    have c10 : wc.cell? ⟨w.heap.size, 0, none⟩ = some (.int .i64 (4)) := r1.cell 0
    have c11 : wc.cell? ⟨w.heap.size, 1, none⟩ = some (.int .i64 n) := r1.cell 1
    have c12 : wc.cell? ⟨w.heap.size, 2, none⟩ = some (.string s) := r1.cell 2
    have c20 : wc.cell? ⟨w.heap.size + 1, 0, none⟩ = some (.int .i64 (4)) := r2.cell 0
    have c21 : wc.cell? ⟨w.heap.size + 1, 1, none⟩ = some (.int .i64 n') := r2.cell 1
    have c22 : wc.cell? ⟨w.heap.size + 1, 2, none⟩ = some (.string s') := r2.cell 2
    have l1 : w.heap.size < wc.heap.size := by omega
    have l2 : w.heap.size + 1 < wc.heap.size := by omega
    clear hwc r1 r2
    rcases ho with ⟨rfl, rfl, rfl⟩ | ⟨rfl, rfl, rfl⟩ | ⟨rfl, rfl, rfl⟩
    all_goals
      go_upto_region 12 with (first
        | (go_at_call 22; (with_reducible refine (H1.out _).mono ?_); rintro e wb5 ⟨rfl, b5⟩; have zb5 : wc.heap.size ≤ wb5.heap.size := (by have hzz := Below.size b5; first | omega | (simp at hzz; omega)); replace b5 := Below.mono (B' := wc.heap.size) b5 (by first | omega | (simp <;> omega)); obtain ⟨hcb5, hfb5⟩ := bcell b5)
        | (go_at_call 22; (with_reducible refine (H2.out _).mono ?_); rintro e wb6 ⟨rfl, b6⟩; have zb6 : wc.heap.size ≤ wb6.heap.size := (by have hzz := Below.size b6; first | omega | (simp at hzz; omega)); replace b6 := Below.mono (B' := wc.heap.size) b6 (by first | omega | (simp <;> omega)); obtain ⟨hcb6, hfb6⟩ := bcell b6)
        | (go_at_call 16; (with_reducible refine (HO.out.lt _).mono ?_); rintro e wb1 ⟨rfl, b1⟩; have zb1 : wc.heap.size ≤ wb1.heap.size := (by have hzz := Below.size b1; first | omega | (simp at hzz; omega)); replace b1 := Below.mono (B' := wc.heap.size) b1 (by first | omega | (simp <;> omega)); obtain ⟨hcb1, hfb1⟩ := bcell b1)
        | (go_at_call 16; (with_reducible refine (HO.out.eq _).mono ?_); rintro e wb2 ⟨rfl, b2⟩; have zb2 : wc.heap.size ≤ wb2.heap.size := (by have hzz := Below.size b2; first | omega | (simp at hzz; omega)); replace b2 := Below.mono (B' := wc.heap.size) b2 (by first | omega | (simp <;> omega)); obtain ⟨hcb2, hfb2⟩ := bcell b2)
        | (go_at_call 16; (with_reducible refine (HO.out.gl _).mono ?_); rintro e wb3 ⟨rfl, b3⟩; have zb3 : wc.heap.size ≤ wb3.heap.size := (by have hzz := Below.size b3; first | omega | (simp at hzz; omega)); replace b3 := Below.mono (B' := wc.heap.size) b3 (by first | omega | (simp <;> omega)); obtain ⟨hcb3, hfb3⟩ := bcell b3)
        | (go_at_call 23; (with_reducible refine (yes_any _ _).mono ?_); rintro e wb4 ⟨rfl, b4⟩; have zb4 : wc.heap.size ≤ wb4.heap.size := (by have hzz := Below.size b4; first | omega | (simp at hzz; omega)); replace b4 := Below.mono (B' := wc.heap.size) b4 (by first | omega | (simp <;> omega)); obtain ⟨hcb4, hfb4⟩ := bcell b4))
      have L10 : ∀ x : Later wc, x.w.cell? ⟨w.heap.size, 0, none⟩ = some (.int .i64 4) := fun x => (x.cell l1).trans c10
      have L11 : ∀ x : Later wc, x.w.cell? ⟨w.heap.size, 1, none⟩ = some (.int .i64 n) := fun x => (x.cell l1).trans c11
      have L12 : ∀ x : Later wc, x.w.cell? ⟨w.heap.size, 2, none⟩ = some (.string s) := fun x => (x.cell l1).trans c12
      have L20 : ∀ x : Later wc, x.w.cell? ⟨w.heap.size + 1, 0, none⟩ = some (.int .i64 4) := fun x => (x.cell l2).trans c20
      have L21 : ∀ x : Later wc, x.w.cell? ⟨w.heap.size + 1, 1, none⟩ = some (.int .i64 n') := fun x => (x.cell l2).trans c21
      have L22 : ∀ x : Later wc, x.w.cell? ⟨w.heap.size + 1, 2, none⟩ = some (.string s') := fun x => (x.cell l2).trans c22
      have L1 : Below wc.heap.size wc wb4 := (by (repeat (first | (with_reducible exact Below.refl _ _) | (with_reducible assumption) | (with_reducible refine Below.setCell ?_ (by first | omega | (simp <;> omega)) _) | (with_reducible refine Below.alloc ?_ (by first | omega | (simp <;> omega)) _) | (with_reducible refine Below.drew ?_) | (with_reducible refine below_drewN ?_ _) | (with_reducible refine Below.trans ?_ (Below.mono (by with_reducible assumption) (by first | omega | (simp <;> omega)))))))
      (refine wp_region_later wc L1 (by kernel_rfl) (by kernel_rfl) ?_; repeat (first | go_big_quiet_step (first | with_reducible exact Later.call (HO.out.le _) | with_reducible exact Later.call (HO.out.gt _) | with_reducible exact Later.call (HO.out.ge _) | with_reducible exact Later.call (HO.out.lt _) | with_reducible exact Later.call (yes_any _ _) | with_reducible exact Later.call (known_any _ (tab_later htc _))) | quiet_step (first | with_reducible exact Later.call (HO.out.le _) | with_reducible exact Later.call (HO.out.gt _) | with_reducible exact Later.call (HO.out.ge _) | with_reducible exact Later.call (HO.out.lt _) | with_reducible exact Later.call (yes_any _ _) | with_reducible exact Later.call (known_any _ (tab_later htc _)))))
      refine wpQuiet_nil ?_
      intro _ hw'
      obtain ⟨xq, hw''⟩ := hw'
      subst hw''
      go_wp2
      go_ret
      exact ⟨rfl, b0.trans (xq.h.mono (by omega))⟩
  · by_cases hsz : s.size + s'.size ≤ 70000
    · have hg : ¬ (good s = true ∧ good s' = true) := fun h => hyes ⟨hsz, h⟩
      clear hyes
      cases g1 : good s <;> cases g2 : good s'
      case true.true => exact absurd ⟨g1, g2⟩ hg
      all_goals
        rw [g1] at H1
        rw [g2] at H2
        clear g1 g2 hg
        go_enter Tryd.func7, Tryd.ntmps7
        go_upto_region 1 with fail
        obtain ⟨wc, hwc, r1, r2, b0, zc⟩ := box_two w 23 #[.int .i64 (4), .int .i64 n, .string s] #[.int .i64 (4), .int .i64 n', .string s']
        rw [← hwc]
        have htc : Tab wc := ht.keep b0
        have c10 : wc.cell? ⟨w.heap.size, 0, none⟩ = some (.int .i64 (4)) := r1.cell 0
        have c11 : wc.cell? ⟨w.heap.size, 1, none⟩ = some (.int .i64 n) := r1.cell 1
        have c12 : wc.cell? ⟨w.heap.size, 2, none⟩ = some (.string s) := r1.cell 2
        have c20 : wc.cell? ⟨w.heap.size + 1, 0, none⟩ = some (.int .i64 (4)) := r2.cell 0
        have c21 : wc.cell? ⟨w.heap.size + 1, 1, none⟩ = some (.int .i64 n') := r2.cell 1
        have c22 : wc.cell? ⟨w.heap.size + 1, 2, none⟩ = some (.string s') := r2.cell 2
        have l1 : w.heap.size < wc.heap.size := by omega
        have l2 : w.heap.size + 1 < wc.heap.size := by omega
        clear hwc r1 r2
        go_wp2_with (first
          | (go_at_call 22; (with_reducible refine (H1.out _).mono ?_); rintro e wb5 ⟨rfl, b5⟩; have zb5 : wc.heap.size ≤ wb5.heap.size := (by have hzz := Below.size b5; first | omega | (simp at hzz; omega)); replace b5 := Below.mono (B' := wc.heap.size) b5 (by first | omega | (simp <;> omega)); obtain ⟨hcb5, hfb5⟩ := bcell b5)
          | (go_at_call 22; (with_reducible refine (H2.out _).mono ?_); rintro e wb6 ⟨rfl, b6⟩; have zb6 : wc.heap.size ≤ wb6.heap.size := (by have hzz := Below.size b6; first | omega | (simp at hzz; omega)); replace b6 := Below.mono (B' := wc.heap.size) b6 (by first | omega | (simp <;> omega)); obtain ⟨hcb6, hfb6⟩ := bcell b6)
          | (go_at_call 13; refine (known_any _ (htc.keep (by (repeat (first | (with_reducible exact Below.refl _ _) | (with_reducible assumption) | (with_reducible refine Below.setCell ?_ (by first | omega | (simp <;> omega)) _) | (with_reducible refine Below.alloc ?_ (by first | omega | (simp <;> omega)) _) | (with_reducible refine Below.drew ?_) | (with_reducible refine below_drewN ?_ _) | (with_reducible refine Below.trans ?_ (Below.mono (by with_reducible assumption) (by first | omega | (simp <;> omega))))))))).mono ?_; rintro e wkn ⟨rfl, bkn⟩; have zkn := Below.size bkn; (try simp at zkn); replace bkn := Below.mono (B' := wc.heap.size) bkn (by first | omega | (simp <;> omega))))
        go_ret
        exact ⟨rfl, b0.trans ((show Below wc.heap.size wc _ from (by (repeat (first | (with_reducible exact Below.refl _ _) | (with_reducible assumption) | (with_reducible refine Below.setCell ?_ (by first | omega | (simp <;> omega)) _) | (with_reducible refine Below.alloc ?_ (by first | omega | (simp <;> omega)) _) | (with_reducible refine Below.drew ?_) | (with_reducible refine below_drewN ?_ _) | (with_reducible refine Below.trans ?_ (Below.mono (by with_reducible assumption) (by first | omega | (simp <;> omega)))))))).mono (by omega))⟩
    · clear hyes
      cases g1 : good s <;> cases g2 : good s'
      all_goals
        rw [g1] at H1
        rw [g2] at H2
        clear g1 g2
        go_enter Tryd.func7, Tryd.ntmps7
        go_upto_region 1 with fail
        obtain ⟨wc, hwc, r1, r2, b0, zc⟩ := box_two w 23 #[.int .i64 (4), .int .i64 n, .string s] #[.int .i64 (4), .int .i64 n', .string s']
        rw [← hwc]
        have htc : Tab wc := ht.keep b0
        have c10 : wc.cell? ⟨w.heap.size, 0, none⟩ = some (.int .i64 (4)) := r1.cell 0
        have c11 : wc.cell? ⟨w.heap.size, 1, none⟩ = some (.int .i64 n) := r1.cell 1
        have c12 : wc.cell? ⟨w.heap.size, 2, none⟩ = some (.string s) := r1.cell 2
        have c20 : wc.cell? ⟨w.heap.size + 1, 0, none⟩ = some (.int .i64 (4)) := r2.cell 0
        have c21 : wc.cell? ⟨w.heap.size + 1, 1, none⟩ = some (.int .i64 n') := r2.cell 1
        have c22 : wc.cell? ⟨w.heap.size + 1, 2, none⟩ = some (.string s') := r2.cell 2
        have l1 : w.heap.size < wc.heap.size := by omega
        have l2 : w.heap.size + 1 < wc.heap.size := by omega
        clear hwc r1 r2
        go_wp2_with (first
          | (go_at_call 22; (with_reducible refine (H1.out _).mono ?_); rintro e wb5 ⟨rfl, b5⟩; have zb5 : wc.heap.size ≤ wb5.heap.size := (by have hzz := Below.size b5; first | omega | (simp at hzz; omega)); replace b5 := Below.mono (B' := wc.heap.size) b5 (by first | omega | (simp <;> omega)); obtain ⟨hcb5, hfb5⟩ := bcell b5)
          | (go_at_call 22; (with_reducible refine (H2.out _).mono ?_); rintro e wb6 ⟨rfl, b6⟩; have zb6 : wc.heap.size ≤ wb6.heap.size := (by have hzz := Below.size b6; first | omega | (simp at hzz; omega)); replace b6 := Below.mono (B' := wc.heap.size) b6 (by first | omega | (simp <;> omega)); obtain ⟨hcb6, hfb6⟩ := bcell b6)
          | (go_at_call 13; refine (known_any _ (htc.keep (by (repeat (first | (with_reducible exact Below.refl _ _) | (with_reducible assumption) | (with_reducible refine Below.setCell ?_ (by first | omega | (simp <;> omega)) _) | (with_reducible refine Below.alloc ?_ (by first | omega | (simp <;> omega)) _) | (with_reducible refine Below.drew ?_) | (with_reducible refine below_drewN ?_ _) | (with_reducible refine Below.trans ?_ (Below.mono (by with_reducible assumption) (by first | omega | (simp <;> omega))))))))).mono ?_; rintro e wkn ⟨rfl, bkn⟩; have zkn := Below.size bkn; (try simp at zkn); replace bkn := Below.mono (B' := wc.heap.size) bkn (by first | omega | (simp <;> omega))))
        all_goals first
          | (exfalso; omega)
          | skip
        all_goals go_ret
        all_goals exact ⟨rfl, b0.trans ((show Below wc.heap.size wc _ from (by (repeat (first | (with_reducible exact Below.refl _ _) | (with_reducible assumption) | (with_reducible refine Below.setCell ?_ (by first | omega | (simp <;> omega)) _) | (with_reducible refine Below.alloc ?_ (by first | omega | (simp <;> omega)) _) | (with_reducible refine Below.drew ?_) | (with_reducible refine below_drewN ?_ _) | (with_reducible refine Below.trans ?_ (Below.mono (by with_reducible assumption) (by first | omega | (simp <;> omega)))))))).mono (by omega))⟩
set_option maxRecDepth 100000 in
set_option maxHeartbeats 4000000 in
theorem order_no (k k' n n' : Int) (s s' : ByteArray) (w : World) (ht : Tab w) (h1 : s.size ≤ 1048576) (h2 : s'.size ≤ 1048576) (e3 : (k == 3) = false ∨ (k' == 3) = false) (e4 : (k == 4) = false ∨ (k' == 4) = false) :
    Calls Tryd.prog 7 #[.agg #[.int .i64 k, .int .i64 n, .string s], .agg #[.int .i64 k', .int .i64 n', .string s']] w fun e w' => e = .returned (.bool true) ∧ Below w.heap.size w w' := by
  cases a3 : (k == 3) <;> cases b3 : (k' == 3) <;> cases a4 : (k == 4) <;> cases b4 : (k' == 4)
  all_goals first
    | (exfalso; simp [a3, b3, a4, b4] at e3 e4; done)
    | skip
  all_goals clear e3 e4
  all_goals
    go_enter Tryd.func7, Tryd.ntmps7
    go_upto_region 1 with fail
    obtain ⟨wc, hwc, r1, r2, b0, zc⟩ := box_two w 23 #[.int .i64 (k), .int .i64 n, .string s] #[.int .i64 (k'), .int .i64 n', .string s']
    rw [← hwc]
    have htc : Tab wc := ht.keep b0
    have c10 : wc.cell? ⟨w.heap.size, 0, none⟩ = some (.int .i64 (k)) := r1.cell 0
    have c11 : wc.cell? ⟨w.heap.size, 1, none⟩ = some (.int .i64 n) := r1.cell 1
    have c12 : wc.cell? ⟨w.heap.size, 2, none⟩ = some (.string s) := r1.cell 2
    have c20 : wc.cell? ⟨w.heap.size + 1, 0, none⟩ = some (.int .i64 (k')) := r2.cell 0
    have c21 : wc.cell? ⟨w.heap.size + 1, 1, none⟩ = some (.int .i64 n') := r2.cell 1
    have c22 : wc.cell? ⟨w.heap.size + 1, 2, none⟩ = some (.string s') := r2.cell 2
    have l1 : w.heap.size < wc.heap.size := by omega
    have l2 : w.heap.size + 1 < wc.heap.size := by omega
    clear hwc r1 r2
    go_wp2_with (go_at_call 13; refine (known_any _ (htc.keep (by (repeat (first | (with_reducible exact Below.refl _ _) | (with_reducible assumption) | (with_reducible refine Below.setCell ?_ (by first | omega | (simp <;> omega)) _) | (with_reducible refine Below.alloc ?_ (by first | omega | (simp <;> omega)) _) | (with_reducible refine Below.drew ?_) | (with_reducible refine below_drewN ?_ _) | (with_reducible refine Below.trans ?_ (Below.mono (by with_reducible assumption) (by first | omega | (simp <;> omega))))))))).mono ?_; rintro e wkn ⟨rfl, bkn⟩; have zkn := Below.size bkn; (try simp at zkn); replace bkn := Below.mono (B' := wc.heap.size) bkn (by first | omega | (simp <;> omega)))
    all_goals go_ret
    all_goals exact ⟨rfl, b0.trans ((show Below wc.heap.size wc _ from (by (repeat (first | (with_reducible exact Below.refl _ _) | (with_reducible assumption) | (with_reducible refine Below.setCell ?_ (by first | omega | (simp <;> omega)) _) | (with_reducible refine Below.alloc ?_ (by first | omega | (simp <;> omega)) _) | (with_reducible refine Below.drew ?_) | (with_reducible refine below_drewN ?_ _) | (with_reducible refine Below.trans ?_ (Below.mono (by with_reducible assumption) (by first | omega | (simp <;> omega)))))))).mono (by omega))⟩
theorem ValueOrder_any (k n : Int) (s : ByteArray) (k' n' : Int) (s' : ByteArray) (w : World) (ht : Tab w) (h1 : s.size ≤ 1048576) (h2 : s'.size ≤ 1048576) :
    Calls Tryd.prog 7 #[.agg #[.int .i64 k, .int .i64 n, .string s], .agg #[.int .i64 k', .int .i64 n', .string s']] w fun e w' => e = .returned (.bool true) ∧ Below w.heap.size w w' := by
  by_cases h3 : k = 3 ∧ k' = 3
  · obtain ⟨rfl, rfl⟩ := h3
    exact order_num n n' s s' w ht h1 h2
  by_cases h4 : k = 4 ∧ k' = 4
  · obtain ⟨rfl, rfl⟩ := h4
    exact order_txt n n' s s' w ht h1 h2
  refine order_no k k' n n' s s' w ht h1 h2 ?_ ?_
  · by_cases h : k = 3
    · right; simp; exact fun e => h3 ⟨h, e⟩
    · left; simpa using h
  · by_cases h : k = 4
    · right; simp; exact fun e => h4 ⟨h, e⟩
    · left; simpa using h
end Go.Proofs.YtkfpomkfgdkjdaaDoor
