/- The walk of chapter 19's reference Output. -/
import Derived.Test.YtcphkdooemengaaDoorV3
import Derived.Test.YtcphkdooemengaaDoorW6
import Derived.Test.YtcphkdooemengaaDoorW11
import Derived.Test.YtcphkdooemengaaDoorW16
import Derived.Test.YtcphkdooemengaaDoorLater
namespace Go.Proofs.YtcphkdooemengaaDoor
set_option linter.unusedVariables false
set_option linter.unusedSimpArgs false
set_option linter.unnecessarySimpa false
open Go.RowKit
attribute [local go_sem] cell_alloc_add cell_set_add lt_more
theorem run_cut_mid {P : Program} {t e : TypeId} (A : Option Addr) {n c lo hi : Nat} (W : World) (ht : P.underlying t = some (.slice e)) (hs : ∀ W, (sizeOf e).run P W = .ok 1 W) (h1 : lo ≤ hi) (h2 : hi ≤ c) :
    (Instr.slice t (.slice A n c) (some (.int .i64 (lo : Int))) (some (.int .i64 (hi : Int))) none).run P W = .ok (.slice (if c = lo then A else A.map (·.add lo)) (hi - lo) (c - lo)) W := by
  have he : P.elem t = e := by simp [Program.elem, ht]
  have h := run_slice_lh (P := P) (w := W) t A n c (by rw [he]; exact ht) .i64 .i64 (lo : Int) (hi : Int) (by omega) (by omega) (by omega)
  rw [h, he, hs]
  simp [sliced, Result.andThen]
theorem Rd.mid {w : World} {B : Nat} {A : Option Addr} {s : ByteArray} (h : Rd w B A s.size (byteC s)) {lo hi c : Nat} (h1 : lo ≤ hi) (h2 : hi ≤ s.size) (hc : s.size ≤ c) : Rd w B (if c = lo then A else A.map (·.add lo)) (hi - lo) (byteC (s.extract lo hi)) :=
  (h.cut (k := lo) (m := hi - lo) (by omega) hc).congr fun j hj => by unfold byteC; rw [bt_extract hj h2]
/-- The lines' rows, read. -/
def LnR (s : ByteArray) (g : Nat) (w : World) : Prop := ∀ k, k < (linesF s 0).length → w.cell? ⟨g, k * 2, none⟩ = some (.int .i64 ((lnAt s k).1 : Int)) ∧ w.cell? ⟨g, k * 2 + 1, none⟩ = some (.int .i64 ((lnAt s k).2 : Int))
theorem lnsR_at : ∀ (l : List (Nat × Nat)) (k j : Nat) (p : Nat × Nat), l[k]? = some p → j < 2 → (lnsC l)[k * 2 + j]? = (lnC p)[j]? := by
  intro l
  induction l with
  | nil => intro k j p h _; simp at h
  | cons a l ih =>
    intro k j p h hj
    have e : lnsC (a :: l) = lnC a ++ lnsC l := by simp [lnsC]
    have hl : (lnC a).length = 2 := rfl
    rw [e]
    cases k with
    | zero => simp at h; subst h; rw [List.getElem?_append_left (by omega)]; simp
    | succ k => simp at h; rw [List.getElem?_append_right (by omega), hl, show (k + 1) * 2 + j - 2 = k * 2 + j by omega]; exact ih k j p h hj
theorem lnR_own {w : World} {B : Nat} {v : Value} {s : ByteArray} (hown : w.ownsRow B 56 2 v (linesF s 0).length (lnsC (linesF s 0))) :
    ∃ g c, v = .slice (some ⟨g, 0, none⟩) (linesF s 0).length c ∧ B ≤ g ∧ g < w.heap.size ∧ LnR s g w := by
  rcases hown.2 with ⟨rfl, h0⟩ | ⟨g, cap, cur, rfl, _⟩
  · have := lines_pos s; omega
  · refine ⟨g, _, rfl, own_ge hown g rfl, own_lt hown g rfl, fun k hk => ⟨?_, ?_⟩⟩
    · have := hown.cells (g := g) rfl (k * 2 + 0) (.int .i64 ((lnAt s k).1 : Int)) (by rw [lnsR_at _ k 0 _ (lnAt_get hk) (by omega)]; rfl)
      rwa [add_row, Nat.zero_add] at this
    · have := hown.cells (g := g) rfl (k * 2 + 1) (.int .i64 ((lnAt s k).2 : Int)) (by rw [lnsR_at _ k 1 _ (lnAt_get hk) (by omega)]; rfl)
      rwa [add_row, Nat.zero_add] at this
theorem rows3_eq (a b c : ByteArray) : rowsB [a, b, c] = a ++ ⟨#[10]⟩ ++ b ++ ⟨#[10]⟩ ++ c ++ ⟨#[10]⟩ := by
  unfold rowsB rowsL
  apply ByteArray.ext
  apply Array.toList_inj.1
  simp [ByteArray.data_append]
/-- What the reference has written, of the runes at these places. -/
def sout (P t : ByteArray) (l : List Nat) : ByteArray := P ++ ⟨(sbody t l).toArray⟩
theorem sout_add (P t : ByteArray) (l : List Nat) (p : Nat) {x : ByteArray} (h : x.data.toList = srune (rn t p)) : sout P t l ++ x = sout P t (l ++ [p]) := by
  unfold sout
  rw [sbody_snoc, ← h]
  apply ByteArray.ext
  rw [ByteArray.data_append, ByteArray.data_append, ByteArray.data_append]
  simp
  congr 1
  apply Array.toList_inj.1
  simp
theorem sout_none (P t : ByteArray) (l : List Nat) (p : Nat) (h : rn t p = 13) : sout P t l = sout P t (l ++ [p]) := by
  unfold sout
  rw [sbody_snoc, show srune (rn t p) = [] by rw [h]; rfl, List.append_nil]
theorem sout_plain (P t : ByteArray) (l : List Nat) (p : Nat) (h1 : rn t p ≠ 13) (h2 : rn t p ≠ 9) : sout P t l ++ Utf8.encode (rn t p : Int) = sout P t (l ++ [p]) :=
  sout_add P t l p (by rw [enc_list]; unfold srune; rw [if_neg h1, if_neg h2])
theorem sout_sz (P t : ByteArray) (l : List Nat) : (sout P t l).size ≤ P.size + 4 * l.length := by
  have := sbody_len t l
  unfold sout
  rw [ByteArray.size_append]
  show _ + (sbody t l).toArray.size ≤ _
  simp; omega
theorem spaces_more (x : ByteArray) (n : Nat) : x ++ spaces n ++ ⟨#[32]⟩ = x ++ spaces (n + 1) := by
  rw [ByteArray.append_assoc, ← spaces_one, spaces_app]
set_option maxRecDepth 100000 in
set_option maxHeartbeats 4000000 in
theorem rOutput_some (s : ByteArray) (A : Option Addr) (c : Nat) (hs : s.size ≤ 8000) (hcap : s.size ≤ c) (w : World) (h : Rd w w.heap.size A s.size (byteC s)) (err at_ : Int) (tx : ByteArray) (he : err ≠ 0) :
    Calls Tryd.prog 8 #[.slice A s.size c, .agg #[.int .i64 err, .int .i64 at_, .string tx]] w fun e w' => e = .returned (.string (outB s err at_)) ∧ Below w.heap.size w w' := by
  have hl := lineN_bd s at_
  have hc := colN_bd s at_
  have hts := lnT_size s (lineN s at_ - 1)
  have he0 : (err == 0) = false := by simpa using he
  have hll := lines_len s
  have hlb : lineN s at_ ≤ 8001 := by omega
  have hm : lineN s at_ - 1 < (linesF s 0).length := by omega
  have hbd := lnAt_bd hm
  have HO := Lib.hid (show outB s err at_ = rowsB [digits (lineN s at_) ++ ⟨#[58]⟩ ++ digits (colN s at_) ++ ⟨#[58, 32]⟩ ++ wordB err, shown (lnT s (lineN s at_ - 1)), spaces (colN s at_ - 1) ++ ⟨#[94]⟩] from rfl)
  have HP := Lib.hid (fun W (hb : Below w.heap.size w W) => (by have := rPlace_any s A c (by omega) hcap W ((h.below hb).more hb.size) at_; exact this : Calls Tryd.prog 22 #[.slice A s.size c, .int .i64 at_] W fun e w' => e = .returned (.tuple #[.int .i64 ((lineN s at_ : Nat) : Int), .int .i64 ((colN s at_ : Nat) : Int)]) ∧ Below W.heap.size W w'))
  have HLs := Lib.hid (fun W (hb : Below w.heap.size w W) => rLines_any s A c (by omega) hcap W hb.size (h.below hb))
  have HT := Lib.hid (show lnT s (lineN s at_ - 1) = s.extract (lnAt s (lineN s at_ - 1)).1 (lnAt s (lineN s at_ - 1)).2 from rfl)
  have dl := digits_le (n := ((lineN s at_ : Nat) : Int)) (by omega) (by omega)
  have dc := digits_le (n := ((colN s at_ : Nat) : Int)) (by omega) (by omega)
  have dw := wordB_le err
  have HI1 := Lib.hid (Digits_any ((lineN s at_ : Nat) : Int) (by omega) (by omega))
  have HI2 := Lib.hid (Digits_any ((colN s at_ : Nat) : Int) (by omega) (by omega))
  have HW := Lib.hid (rWord_any err)
  generalize lineN s at_ = ln at *
  generalize colN s at_ = cn at *
  generalize lnT s (ln - 1) = t at *
  generalize digits (ln : Int) = dL at *
  generalize digits (cn : Int) = dC at *
  generalize wordB err = wd at *
  obtain ⟨Wa, hWa⟩ : ∃ Wa : World, Wa = w.alloc (.cells #[.int .i64 err, .int .i64 at_, .string tx] 25) := ⟨_, rfl⟩
  have q0 : Row Wa w.heap.size 25 #[.int .i64 err, .int .i64 at_, .string tx] := by rw [hWa]; exact row_new rfl
  have qb : Below w.heap.size w Wa := by rw [hWa]; exact (by (repeat (first | (with_reducible exact Below.refl _ _) | (with_reducible assumption) | (with_reducible refine Below.setCell ?_ (by first | omega | (simp <;> omega)) _) | (with_reducible refine Below.alloc ?_ (by first | omega | (simp <;> omega)) _) | (with_reducible refine Below.drew ?_) | (with_reducible refine below_drewN ?_ _) | (with_reducible refine Below.trans ?_ (Below.mono (by with_reducible assumption) (by first | omega | (simp <;> omega)))))))
  have qz := q0.lt
  go_enter Tryd.func8, Tryd.ntmps8
  go_upto_region 1 with fail
  rw [← hWa]
  clear hWa
  have c0 := q0.cell 0
  have c1 := q0.cell 1
  simp at c0 c1
  go_upto_region 4 with (first
    | (go_at_call 22; (with_reducible refine (HP.out _ qb).mono ?_); rintro e w1 ⟨rfl, b1⟩; have z1 := Below.size b1; have q1 := qb.trans (b1.mono (by omega))))
  have r0 := (q0.below b1 qz)
  have L0 : ∀ x : Later w1, x.w.cell? ⟨w.heap.size, 0, none⟩ = some (.int .i64 err) := fun x => (x.cell r0.lt).trans (r0.cell 0)
  have f1 : (9223372036854775807 < dL.size + 1) = False := eq_false (by omega)
  have f2 : (9223372036854775807 < dL.size + 1 + dC.size) = False := eq_false (by omega)
  have f3 : (9223372036854775807 < dL.size + 1 + dC.size + 2) = False := eq_false (by omega)
  have f4 : (9223372036854775807 < dL.size + 1 + dC.size + 2 + wd.size) = False := eq_false (by omega)
  have f5 : (9223372036854775807 < dL.size + 1 + dC.size + 2 + wd.size + 1) = False := eq_false (by omega)
  have hlt0 := r0.lt
  refine wp_region_later w1 (Below.refl _ _) (by kernel_rfl) (by kernel_rfl) ?_
  repeat (first | go_big_quiet_step (first | with_reducible exact Later.call (HI1.out _) | with_reducible exact Later.call (HI2.out _) | with_reducible exact Later.call_same (HW.out _)) | quiet_step (first | with_reducible exact Later.call (HI1.out _) | with_reducible exact Later.call (HI2.out _) | with_reducible exact Later.call_same (HW.out _)))
  refine wpQuiet_nil ?_
  intro _ hw'
  obtain ⟨xq, hw''⟩ := hw'
  subst hw''
  obtain ⟨w2, b2⟩ := xq
  have z2 := b2.size
  have q2 : Below w.heap.size w w2 := q1.trans (b2.mono (by omega))
  clear L0 b1 q0 c0 c1 HI1 HI2 HW HP
  obtain ⟨P, hP⟩ : ∃ P : ByteArray, P = dL ++ ⟨#[58]⟩ ++ dC ++ ⟨#[58, 32]⟩ ++ wd ++ ⟨#[10]⟩ := ⟨_, rfl⟩
  have hPz : P.size ≤ 64 := by
    rw [hP, ByteArray.size_append, ByteArray.size_append, ByteArray.size_append, ByteArray.size_append, ByteArray.size_append]
    have e1 : (⟨#[58]⟩ : ByteArray).size = 1 := rfl
    have e2 : (⟨#[58, 32]⟩ : ByteArray).size = 2 := rfl
    have e3 : (⟨#[10]⟩ : ByteArray).size = 1 := rfl
    omega
  obtain ⟨m, hm1⟩ : ∃ m, ln = m + 1 := ⟨ln - 1, by omega⟩
  have iw : IntKind.i64.wrap ((ln : Int) - 1) = (m : Int) := by rw [IntWalk.i64_in _ (by omega)]; omega
  have em : ln - 1 = m := by omega
  rw [em] at HT hm hbd
  go_upto_region 6 with (first
    | (go_at_call 25; (with_reducible refine (HLs.out _ q2).mono ?_); rintro e w3 ⟨⟨v, rfl, hown⟩, b3⟩; have z3 := Below.size b3; have q3 := q2.trans (b3.mono (by omega)); obtain ⟨g, cw, rfl, hg0, hg1, hrows⟩ := lnR_own hown; obtain ⟨r1, r2⟩ := hrows m hm; have i1 : (m : Int) < ((linesF s 0).length : Int) := (by omega)))
  rw [← hP]
  have HPd := Lib.hid hP
  clear hP
  generalize lnAt s m = ab at *
  obtain ⟨lo, hi⟩ := ab
  dsimp only at *
  have hsl := fun W => run_cut_mid (P := Tryd.prog) (t := 22) A (n := s.size) (c := c) W Tryd.underlying22 (fun _ => by kernel_rfl) hbd.1 (show hi ≤ c by omega)
  have htz : t.size = hi - lo := by rw [HT.out, ByteArray.size_extract]; omega
  have HRn := Lib.hid (fun W (hb : Below w.heap.size w W) => (by
    have hr := (h.below hb).mid hbd.1 hbd.2 hcap
    rw [← HT.out, ← htz] at hr
    have := rRunes_any t (if c = lo then A else A.map (·.add lo)) (c - lo) (by omega) (by omega) W hb.size hr
    rw [htz] at this
    exact this : Calls Tryd.prog 26 #[.slice (if c = lo then A else A.map (·.add lo)) (hi - lo) (c - lo)] W fun e w' => (∃ v, e = .returned v ∧ w'.ownsRow W.heap.size 62 4 v (places t).length (rowsC t (places t))) ∧ Below W.heap.size W w'))
  generalize (if c = lo then A else A.map (·.add lo)) = A2 at *
  have q3a : Below w.heap.size w (w3.alloc (.cells #[.int .i64 lo, .int .i64 hi] 56)) := q3.alloc (by omega) _
  go_upto_region 7 with (first
    | (go_at_call 26; (with_reducible refine (HRn.out _ q3a).mono ?_); rintro e w4 ⟨⟨v, rfl, hown4⟩, b4⟩; have z4 := Below.size b4))
  have q4 := q3a.trans (b4.mono (by simp; omega))
  have hpl := places_len t
  obtain ⟨A4, c4, rfl, hcell⟩ : ∃ A c, v = .slice A (places t).length c ∧ ∀ k p, (places t)[k]? = some p → ∃ g, A = some ⟨g, 0, none⟩ ∧ w4.cell? ⟨g, k * 4 + 1, none⟩ = some (.int .i32 (rn t p : Int)) := by
    rcases hown4.2 with ⟨rfl, h0⟩ | ⟨g, cap, cur, rfl, _⟩
    · exact ⟨none, 0, by rw [h0], fun k p hk => by have := (List.getElem?_eq_some_iff.1 hk).1; omega⟩
    · refine ⟨_, _, rfl, fun k p hk => ⟨g, rfl, ?_⟩⟩
      have := hown4.cells (g := g) rfl (k * 4 + 1) (.int .i32 (rn t p : Int)) (by rw [rowsC_at t _ k p 1 hk (by omega)]; rfl)
      rwa [add_row, Nat.zero_add] at this
  have HC := Lib.hid hcell
  clear hcell hown4 HRn HLs HT hown r1 r2 h
  generalize hn : (places t).length = n at *
  have HN := Lib.hid hn
  clear hn
  go_wp2
  go_loop [7, 10] (fun o i => ∃ k : Nat, k ≤ n ∧ i = .int .i64 k ∧ o = .string (sout P t ((places t).take k))) (fun _ i => n - (intOf i).toNat)
  case atStart => exact ⟨0, Nat.zero_le _, rfl, by rw [List.take_zero]; congr 1; unfold sout; apply ByteArray.ext; simp [sbody]⟩
  case round =>
    obtain ⟨k, hk, rfl, rfl⟩ := hrel
    by_cases hlt : k < n
    · obtain ⟨p, hp⟩ : ∃ p, (places t)[k]? = some p := ⟨_, List.getElem?_eq_getElem (by rw [HN.out]; exact hlt)⟩
      obtain ⟨g4, rfl, hc4⟩ := HC.out k p hp
      have HTk := Lib.hid (take_next hp)
      have hrb := rn_bd t p
      clear hp
      have hq := sout_sz P t ((places t).take k)
      have hlk : ((places t).take k).length ≤ k := List.length_take_le _ _
      have henc := enc_sz t p
      generalize (places t).take k = l at *
      by_cases c13 : rn t p = 13
      · have HE := Lib.hid c13
        have e13 : ((rn t p : Int) == 13) = true := by simp; omega
        clear c13
        go_wp2
        go_round
        case rel => exact ⟨k + 1, by omega, by go_num, by rw [HTk.out]; exact congrArg Value.string (sout_none P t l p HE.out)⟩
        case measure => simp [intOf]; omega
      · have e13 : ((rn t p : Int) == 13) = false := by simp; omega
        by_cases c9 : rn t p = 9
        · have HE := Lib.hid c9
          have e9 : ((rn t p : Int) == 9) = true := by simp; omega
          clear c9 c13
          go_wp2
          go_round
          case rel => exact ⟨k + 1, by omega, by go_num, by rw [HTk.out]; exact congrArg Value.string (sout_add P t l p (by rw [HE.out]; rfl))⟩
          case measure => simp [intOf]; omega
        · have HE := Lib.hid (And.intro c13 c9)
          have e9 : ((rn t p : Int) == 9) = false := by simp; omega
          clear c9 c13
          go_wp2
          go_round
          case rel => exact ⟨k + 1, by omega, by go_num, by rw [HTk.out]; exact congrArg Value.string (sout_plain P t l p HE.out.1 HE.out.2)⟩
          case measure => simp [intOf]; omega
    · obtain rfl : k = n := by omega
      have hf := Lib.hid (show (places t).take k = places t by rw [List.take_of_length_le (by rw [HN.out]; exact Nat.le_refl _)])
      have hq := sout_sz P t ((places t).take k)
      have hlk : ((places t).take k).length ≤ k := List.length_take_le _ _
      go_wp2
      have hS : Hid (outB s err at_ = sout P t ((places t).take k) ++ ⟨#[10]⟩ ++ spaces (cn - 1) ++ ⟨#[94, 10]⟩) := by
        show _ = _
        rw [HO.out, rows3_eq, hf.out, HPd.out, show (⟨#[94, 10]⟩ : ByteArray) = ⟨#[94]⟩ ++ ⟨#[10]⟩ from rfl]
        unfold sout shown
        simp only [ByteArray.append_assoc]
      have hSz : (sout P t ((places t).take k) ++ ⟨#[10]⟩ : ByteArray).size ≤ 33000 := by
        rw [ByteArray.size_append]
        have e3 : (⟨#[10]⟩ : ByteArray).size = 1 := rfl
        omega
      generalize (sout P t ((places t).take k) ++ ⟨#[10]⟩ : ByteArray) = S at *
      clear hf hq hlk HC HO HPd
      go_loop [7, 11] (fun o i => ∃ k : Nat, k ≤ cn - 1 ∧ i = .int .i64 ((k : Int) + 1) ∧ o = .string (S ++ spaces k)) (fun _ i => cn - (intOf i).toNat)
      case atStart => exact ⟨0, Nat.zero_le _, rfl, by congr 1; apply ByteArray.ext; simp [spaces]⟩
      case round =>
        obtain ⟨j, hj, rfl, rfl⟩ := hrel
        have hsj := spaces_size j
        by_cases hlt2 : j < cn - 1
        · have i2 : (j : Int) + 1 < (cn : Int) := by omega
          have HM := Lib.hid (spaces_more S j)
          go_wp2
          go_round
          case rel => exact ⟨j + 1, by omega, by go_num, by rw [← HM.out]⟩
          case measure => simp [intOf]; omega
        · obtain rfl : j = cn - 1 := by omega
          have i2 : ¬ ((cn - 1 : Nat) : Int) + 1 < (cn : Int) := by omega
          go_wp2
          go_ret
          exact ⟨ret_str hS.out.symm, q4⟩
theorem rOutput_any (s : ByteArray) (A : Option Addr) (c : Nat) (hs : s.size ≤ 8000) (hcap : s.size ≤ c) (w : World) (h : Rd w w.heap.size A s.size (byteC s)) (err at_ : Int) (tx : ByteArray) :
    Calls Tryd.prog 8 #[.slice A s.size c, .agg #[.int .i64 err, .int .i64 at_, .string tx]] w fun e w' => e = .returned (.string (if err = 0 then tx else outB s err at_)) ∧ Below w.heap.size w w' := by
  by_cases he : err = 0
  · subst he
    go_enter Tryd.func8, Tryd.ntmps8
    go_wp2
    go_ret
    exact ⟨rfl, (by (repeat (first | (with_reducible exact Below.refl _ _) | (with_reducible assumption) | (with_reducible refine Below.setCell ?_ (by first | omega | (simp <;> omega)) _) | (with_reducible refine Below.alloc ?_ (by first | omega | (simp <;> omega)) _) | (with_reducible refine Below.drew ?_) | (with_reducible refine below_drewN ?_ _) | (with_reducible refine Below.trans ?_ (Below.mono (by with_reducible assumption) (by first | omega | (simp <;> omega)))))))⟩
  · rw [if_neg he]
    exact rOutput_some s A c hs hcap w h err at_ tx he
end Go.Proofs.YtcphkdooemengaaDoor
