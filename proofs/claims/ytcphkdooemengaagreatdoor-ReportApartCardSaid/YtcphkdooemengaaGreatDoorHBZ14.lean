/- Some texts of this claim, put together. -/
import Derived.Test.YtcphkdooemengaaGreatDoorHBZ12
import Derived.Test.YtcphkdooemengaaGreatDoorHBZ20
import Derived.Test.YtcphkdooemengaaGreatDoorHBZ13
import Derived.Deep.RegionWith
import Derived.WalkMore
import Derived.Lib.SlBytesConst
namespace Go.Proofs.YtcphkdooemengaaGreatDoor
section
set_option linter.unusedVariables false
set_option linter.unusedSimpArgs false
set_option linter.unnecessarySimpa false
open Go.RowKit
attribute [local go_sem] cell_alloc_add cell_set_add lt_more Oper.semAt_some
/-- The library's table of powers stands. -/
def Tab (w : World) : Prop := Lib.TabIs Tryz.prog w "internal/strconv.uint64pow10" .u64 Lib.pow10Tab ∧ 1 < w.heap.size
theorem gPow : Tryz.prog.globalNamed "internal/strconv.uint64pow10" = some 1 := by kernel_rfl
theorem Tab.later {w w' : World} (h : Tab w) {B : Nat} (hb : Below B w w') (hB : 1 < B) : Tab w' := ⟨var?_below hb gPow hB h.1, Nat.lt_of_lt_of_le h.2 hb.size⟩
theorem Tab.keep {w w' : World} (h : Tab w) (hb : Below w.heap.size w w') : Tab w' := h.later hb h.2
theorem below_grow {w : World} {k : Nat} {os : Array Obj} : Below w.heap.size w (Go.Sort.grow (w.drewN k) os) :=
  ⟨rfl, rfl, rfl, by simp [Go.Sort.grow, World.drewN], fun j hj => by
    show (w.heap ++ os)[j]? = _
    rw [Array.getElem?_append_left hj]⟩
theorem itoa_any (n : Int) (h0 : -9223372036854775808 ≤ n) (h1 : n ≤ 9223372036854775807) (w : World) (ht : Tab w) :
    Calls Tryz.prog 16 #[.int .i64 n] w fun e w' => e = .returned (.string (digits n)) ∧ Below w.heap.size w w' :=
  (Tryz.strconv_Itoa n h0 h1 w ht.1).mono fun e w' ⟨he, k, os, hw⟩ => ⟨he, by rw [hw]; exact below_grow⟩
theorem rd_row2 (w : World) (o : Obj) (s : ByteArray) (cap : Nat) (t : TypeId) (fr : Nat × Nat) : Rd ((w.alloc o).alloc (.cells (bytesRow s cap) t fr)).drew (w.heap.size + 1 + 1) (some ⟨w.heap.size + 1, 0, none⟩) s.size (byteC s) := by
  have := (rd_row (w.alloc o) s cap t fr).drew
  rwa [World.size_alloc] at this
theorem wp_only {P : Program} {c : Code} {K : Act → World → Prop} {Q' : Exit → Act → World → Prop} {a : Act} {w : World} (h : c.wp P (Exit.then K (fun _ _ _ => False)) a w) : c.wp P (Exit.then K Q') a w :=
  wp_mono h (fun e _ _ hq => by cases e <;> first | exact hq | exact hq.elim)
theorem rows3_len (a b c : ByteArray) : (rowsL [a, b, c]).length = (a.size + 1) + ((b.size + 1) + (c.size + 1)) := by
  have e1 : a.data.size = a.size := rfl
  have e2 : b.data.size = b.size := rfl
  have e3 : c.data.size = c.size := rfl
  simp [rowsL]; omega
theorem rd_three (w : World) (a b c : ByteArray) : Rd (w.alloc (.cells #[.string a, .string b, .string c] 9)) (w.alloc (.cells #[.string a, .string b, .string c] 9)).heap.size (some ⟨w.heap.size, 0, none⟩) 3 (fun j => .string ([a, b, c].getD j ⟨#[]⟩)) := fun j hj =>
  ⟨_, rfl, by simp, by
    rw [add_row, (row_new rfl : Row _ _ 9 #[.string a, .string b, .string c]).cell]
    rcases (by omega : j = 0 ∨ j = 1 ∨ j = 2) with rfl | rfl | rfl <;> rfl⟩
set_option maxRecDepth 100000 in
set_option maxHeartbeats 4000000 in
theorem Output_in (s : ByteArray) (A : Option Addr) (c : Nat) (hs : s.size ≤ 8000) (hcap : s.size ≤ c) (w : World) (h : Rd w w.heap.size A s.size (byteC s)) (err at_ : Int) (tx : ByteArray) (he : err ≠ 0) (hT : Tab w) :
    CallsIn Fence.wide 10 Tryz.prog 25 #[.slice A s.size c, .agg #[.int .i64 err, .int .i64 at_, .string tx]] w fun e w' => e = .returned (.string (outB s err at_)) ∧ Below w.heap.size w w' := by
  have kb := fun (w : World) (x : ByteArray) => run_bytes_of_string (P := Tryz.prog) w 9 40 5 x Tryz.underlying9 Tryz.underlying40 Tryz.underlying5
  have hl := lineN_bd s at_
  have hc := colN_bd s at_
  have hts := lnT_size s (lineN s at_ - 1)
  have he0 : (err == 0) = false := by simpa using he
  have HO := Lib.hid (show outB s err at_ = rowsB [digits (lineN s at_) ++ ⟨#[58]⟩ ++ digits (colN s at_) ++ ⟨#[58, 32]⟩ ++ wordB err, shown (lnT s (lineN s at_ - 1)), spaces (colN s at_ - 1) ++ ⟨#[94]⟩] from rfl)
  have HP := Lib.hid (fun W (hb : Below w.heap.size w W) => (by have := Place_any s A c (by omega) hcap W ((h.below hb).more hb.size) at_; exact this : Calls Tryz.prog 42 #[.slice A s.size c, .int .i64 at_] W fun e w' => e = .returned (.tuple #[.int .i64 ((lineN s at_ : Nat) : Int), .int .i64 ((colN s at_ : Nat) : Int)]) ∧ Below W.heap.size W w'))
  have HL := Lib.hid (fun W (hb : Below w.heap.size w W) => Line_any s A c (by omega) W ((h.below hb).more hb.size) (lineN s at_) hl.1 hl.2)
  have hlb : lineN s at_ ≤ 8001 := by have := lines_len s; omega
  clear h
  generalize lineN s at_ = ln at *
  generalize colN s at_ = cn at *
  generalize lnT s (ln - 1) = t at *
  refine callsIn_of_wp_marks Tryz.func25 rfl trivial ?_ rfl
  simp only [Tryz.ntmps25, List.size_toArray, List.length_cons, List.length_nil, Nat.reduceAdd, Nat.reduceSub, Array.replicate_succ, Array.replicate_zero, List.push_toArray, List.append_toArray, List.nil_append, List.cons_append]
  obtain ⟨Wa, hWa⟩ : ∃ Wa : World, Wa = w.alloc (.cells #[.int .i64 err, .int .i64 at_, .string tx] 59) := ⟨_, rfl⟩
  have q0 : Row Wa w.heap.size 59 #[.int .i64 err, .int .i64 at_, .string tx] := by rw [hWa]; exact row_new rfl
  have qb : Below w.heap.size w Wa := by rw [hWa]; exact (by (exact bl))
  have qz := q0.lt
  gi_upto_region 1 with fail
  rw [← hWa]
  clear hWa
  have c0 := q0.cell 0
  have c1 := q0.cell 1
  simp at c0 c1
  refine wpIn_wide.2 (wp_scope_straight ((wpIn_wide (n := 10)).1 ?_))
  gi_wp2_with (first
    | (refine ⟨trivial, ?_⟩; gi_at_call 42; (with_reducible refine (callsIn_wide.2 (HP.out _ qb)).mono ?_); rintro e w1 ⟨rfl, b1⟩; have z1 := Below.size b1; have q1 := qb.trans (b1.mono (by omega)))
    | (refine ⟨trivial, ?_⟩; gi_at_call 43; (with_reducible refine (callsIn_wide.2 (HL.out _ q1)).mono ?_); rintro e w2 ⟨rfl, b2⟩; have z2 := Below.size b2; have q2 := q1.trans (b2.mono (by omega))))
  refine wpIn_label ?_
  gi_wp2_with (refine ⟨trivial, ?_⟩; gi_at_call 35; (with_reducible refine (callsIn_wide.2 (Runes_at t (some ⟨w2.heap.size + 1, 0, none⟩) _ _ rfl _ (rd_row2 w2 _ t _ _ _))).mono ?_); rintro e w3 ⟨rfl, rfl⟩)
  obtain ⟨W0, hW0⟩ : ∃ W0, W0 = (((w2.alloc (.cells #[.pointer none, .slice none 0 0] 42)).alloc (.cells (bytesRow t (grownCap (w2.alloc (.cells #[.pointer none, .slice none 0 0] 42)) t.size 0 5)) 5 ((bytesRow t (grownCap (w2.alloc (.cells #[.pointer none, .slice none 0 0] 42)) t.size 0 5)).size, (bytesRow t (grownCap (w2.alloc (.cells #[.pointer none, .slice none 0 0] 42)) t.size 0 5)).size + 1))).alloc (.cells #[.string t] 9)).drew := ⟨_, rfl⟩
  rw [← hW0]
  obtain ⟨nb, hnb⟩ : ∃ nb, nb = w2.heap.size := ⟨_, rfl⟩
  have r0 : Row w2 w.heap.size 59 #[.int .i64 err, .int .i64 at_, .string tx] := (q0.below b1 qz).below b2 (by omega)
  have hi0 : Lib.IsBuilderF 42 5 nb nb (Lib.byteCells (sbody t [])) W0 := by
    rw [hW0, hnb]
    exact (((Lib.IsBuilderF.of (Lib.fresh_isBuilder 42 5 w2)).alloc _).alloc _)
  have hr0 : Row W0 (nb + 1 + 1) 9 #[.string t] := by rw [hW0, hnb]; exact (row_new (by simp)).drew
  have hb0 : Below nb w2 W0 := by rw [hW0, hnb]; exact ((((Below.refl _ w2).alloc (Nat.le_refl _) _).alloc (by simp) _).alloc (by simp; omega) _).drew
  have hz0 : nb + 1 + 1 < W0.heap.size := hr0.lt
  rw [← hnb]
  clear hW0 b1 b2 q0 HP HL c0 c1
  have hnb2 : nb ≤ w2.heap.size := by omega
  have hnb3 : w.heap.size < nb := by omega
  clear hnb
  apply wpIn_rangeFunc_ownF (F := Fence.wide) (n := 10) rfl (by decide) (gf := 59) (lb := #[.pointer (some ⟨nb + 1 + 1, 0, none⟩)]) rfl trivial (enters_of Tryz.func59 (by kernel_rfl) rfl)
    (Runes_stops (10 - 1) (by decide) (nb + 1 + 1) t (by omega) W0 (by rw [hr0.cell 0]; rfl)) keepC_t (keepC_b (w := W0)) (Below.refl _ _) (fun _ => rfl)
    (fun pre W => Lib.IsBuilderF 42 5 nb nb (Lib.byteCells (sbody t (vals pre))) W ∧ Row W (nb + 1 + 1) 9 #[.string t] ∧ Below nb w2 W)
    (fun _ _ _ => False)
    (fun p A B row hs hg hr => ⟨bld_own hs.1 hg (fun r e => (hr r e).2), row_own hs.2.1 hg (fun r e => (hr r e).2), ownFrom_below (β := Unit) hnb2 (by omega) () A B row hs.2.2 hg hr⟩)
    (fun _ _ _ _ _ hs _ _ => hs)
    ⟨hi0, hr0, hb0⟩ _
  case hassign =>
    intro l x W K hK
    dsimp only [plE]
    gi_wp2
    exact hK
  case hstop =>
    rintro D c pre W hD hpre h
    exact h.elim
  case hbody =>
    rintro l pre x W ⟨hI, hrow, hB⟩ hlen
    have hql := sbody_len t (vals pre)
    rw [vals_len] at hql
    have hz := hB.size
    have hrb := rn_bd t x.1
    have hkW := hrow.lt
    obtain ⟨cs, hbk⟩ := bld_block hI
    have HB := Lib.hid hbk
    clear hbk
    by_cases c13 : rn t x.1 = 13
    · have HE : Hid (srune (rn t x.1) = []) := by show _ = _; rw [c13]; rfl
      have e13 : ((rn t x.1 : Int) == 13) = true := by simp; omega
      clear c13
      gi_wp2
      exact ⟨KeepsOthers.refl _, keepC_row hrow hrow, by rw [vals_snoc, sbody_snoc, HE.out, List.append_nil]; exact hI, hrow, hB⟩
    · have e13 : ((rn t x.1 : Int) == 13) = false := by simp; omega
      by_cases c9 : rn t x.1 = 9
      · have HE : Hid (srune (rn t x.1) = Lib.encodeRune 32) := by show _ = _; rw [c9]; rfl
        have e9 : ((rn t x.1 : Int) == 9) = true := by simp; omega
        clear c9 c13
        gi_wp2_with (refine ⟨trivial, ?_⟩; gi_at_call 36; (with_reducible refine (CallsIn.inRound l (callsIn_wide.2 (wRune_any nb nb _ 32 (by omega) (by omega) (by omega) W hI (by simp [Lib.byteCells_length]; omega) (by omega)))).mono ?_); rintro e w4 ⟨rfl, h4, b4, k4⟩; have hz4 := Below.size b4)
        have hr4 := row_others k4 hrow (by omega) (by decide)
        exact ⟨others_keep k4 b4 HB.out, keepC_row hrow hr4, ⟨by rw [vals_snoc, sbody_snoc, HE.out]; exact .inr (by simpa [Lib.byteCells, ← Lib.byteCells_encodeRune] using h4), hr4, hB.trans b4⟩⟩
      · have HE : Hid (srune (rn t x.1) = Lib.encodeRune (rn t x.1 : Int)) := by show _ = _; unfold srune; rw [if_neg c13, if_neg c9]
        have e9 : ((rn t x.1 : Int) == 9) = false := by simp; omega
        clear c9 c13
        gi_wp2_with (refine ⟨trivial, ?_⟩; gi_at_call 36; (with_reducible refine (CallsIn.inRound l (callsIn_wide.2 (wRune_any nb nb _ (rn t x.1 : Int) (by omega) (by omega) (by omega) W hI (by simp [Lib.byteCells_length]; omega) (by omega)))).mono ?_); rintro e w4 ⟨rfl, h4, b4, k4⟩; have hz4 := Below.size b4)
        have hr4 := row_others k4 hrow (by omega) (by decide)
        exact ⟨others_keep k4 b4 HB.out, keepC_row hrow hr4, ⟨by rw [vals_snoc, sbody_snoc, HE.out]; exact .inr (by simpa [Lib.byteCells, ← Lib.byteCells_encodeRune] using h4), hr4, hB.trans b4⟩⟩
  case hdone =>
    rintro D xs W hD rfl ⟨hI, hrow, hB⟩ hK
    have hv : vals (plL t (places t)) = places t := plL_val (fun j hj => mem_places hj)
    rw [hv] at hI
    have hql := sbody_len t (places t)
    have hpl := places_len t
    have hz := hB.size
    have hqW : nb + 1 + 1 < W.heap.size := hrow.lt
    have bW : Below w.heap.size w W := q2.trans (hB.mono (by omega))
    have hDl : D < W.heap.size := (Array.getElem?_eq_some_iff.1 hK).1
    have hDn : some D ≠ some nb := fun e => by injection e; omega
    have x3 : W.cell? ⟨w.heap.size, 0, none⟩ = some (.int .i64 err) := (hB.cell (p := ⟨w.heap.size, 0, none⟩) hnb3).trans (r0.cell 0)
    have dl := digits_le (n := (ln : Int)) (by omega) (by omega)
    have dc := digits_le (n := (cn : Int)) (by omega) (by omega)
    have dw := wordB_le err
    have HI1 := Lib.hid (fun W' (hb : Below w.heap.size w W') => itoa_any (ln : Int) (by omega) (by omega) W' (hT.later (B := w.heap.size) hb hT.2))
    have HI2 := Lib.hid (fun W' (hb : Below w.heap.size w W') => itoa_any (cn : Int) (by omega) (by omega) W' (hT.later (B := w.heap.size) hb hT.2))
    have HW := Lib.hid (word_any err)
    have HR := Lib.hid (fun W' => (by have := repeat_any (cn - 1) (by omega) W'; rw [show ((cn - 1 : Nat) : Int) = (cn : Int) - 1 by omega] at this; exact this : Calls Tryz.prog 15 #[.string ⟨#[32]⟩, .int .i64 ((cn : Int) - 1)] W' fun e w' => e = .returned (.string (spaces (cn - 1))) ∧ Below W'.heap.size W' w'))
    have hsp := spaces_size (cn - 1)
    have HSh := Lib.hid (show (⟨(sbody t (places t)).toArray⟩ : ByteArray) = shown t from rfl)
    have hsh : (shown t).size ≤ 32000 := by show (sbody t (places t)).toArray.size ≤ _; simp; omega
    have HS := Lib.hid (fun W' (hb : Below W.heap.size W W') => (by have := Tryz.Builder_String_any_k nb nb (sbody t (places t)) W' (bld_keep hI hb) (by have := hb.size; omega); rw [HSh.out] at this; exact this : Calls Tryz.prog 20 #[.pointer (some ⟨nb, 0, none⟩)] W' fun e w' => e = .returned (.string (shown t)) ∧ (Lib.IsBuilderF 42 5 nb nb (Lib.byteCells (sbody t (places t))) w' ∧ Below nb W' w' ∧ Lib.OthersKept 5 (some nb) W' w')))
    have HRW := Lib.hid (fun (a b c : ByteArray) W' hz => rowsB_any [a, b, c] 3 rfl (some ⟨W'.heap.size, 0, none⟩) 3 (W'.alloc (.cells #[.string a, .string b, .string c] 9)) (rd_three W' a b c) hz)
    generalize digits (ln : Int) = dL at *
    generalize digits (cn : Int) = dC at *
    generalize wordB err = wd at *
    generalize spaces (cn - 1) = sp at *
    generalize shown t = sh at *
    have hz3 : (rowsL [dL ++ ⟨#[58]⟩ ++ dC ++ ⟨#[58, 32]⟩ ++ wd, sh, sp ++ ⟨#[94]⟩]).length ≤ 1099511627776 := by
      rw [rows3_len, ByteArray.size_append, ByteArray.size_append, ByteArray.size_append, ByteArray.size_append, ByteArray.size_append]
      have e1 : (⟨#[58]⟩ : ByteArray).size = 1 := rfl
      have e2 : (⟨#[58, 32]⟩ : ByteArray).size = 2 := rfl
      have e3 : (⟨#[94]⟩ : ByteArray).size = 1 := rfl
      omega
    have HRZ := Lib.hid (fun W' => HRW.out _ _ _ W' hz3)
    have hsp2 : sp.size ≤ 8001 := by omega
    have i3 : IntKind.i64.wrap ((cn : Int) - 1) = (cn : Int) - 1 := IntWalk.i64_in _ (by omega)
    have f1 : (9223372036854775807 < dL.size + 1) = False := eq_false (by omega)
    have f2 : (9223372036854775807 < dL.size + 1 + dC.size) = False := eq_false (by omega)
    have f3 : (9223372036854775807 < dL.size + 1 + dC.size + 2) = False := eq_false (by omega)
    have f4 : (9223372036854775807 < dL.size + 1 + dC.size + 2 + wd.size) = False := eq_false (by omega)
    have f5 : (9223372036854775807 < sp.size + 1) = False := eq_false (by omega)
    clear HSh hI hql hpl hv hz3 HRW hsp
    gi_wp2
    refine wpIn_wide.2 (wp_only ?_)
    go_region_with (first
      | (go_at_call 16; (with_reducible refine (HI1.out _ bW.drew).mono ?_); rintro e w4 ⟨rfl, b4⟩; replace b4 := ((Below.refl W.heap.size W).drew).trans b4; have z4 := Below.size b4; have bw4 := bW.trans (b4.mono (by omega)); have x4 := (b4.cell (p := ⟨w.heap.size, 0, none⟩) (by show w.heap.size < _; omega)).trans x3)
      | (go_at_call 16; (with_reducible refine (HI2.out _ bw4).mono ?_); rintro e w5 ⟨rfl, b5⟩; have z5 := Below.size b5; replace b5 := b4.trans (b5.mono z4); have bw5 := bW.trans (b5.mono (by omega)); have x5 := (b5.cell (p := ⟨w.heap.size, 0, none⟩) (by show w.heap.size < _; omega)).trans x3; have y5 := (b5.block D hDl).trans hK)
      | (go_at_call 44; (with_reducible refine (HW.out _).mono ?_); rintro e wq ⟨rfl, hwq⟩; obtain rfl := hwq.symm)
      | (go_at_call 20; (with_reducible refine (HS.out _ b5).mono ?_); rintro e w6 ⟨rfl, h6, b6, k6⟩; have z6 := Below.size b6; have y6 := k6 D _ y5 hDn (fun _ _ e => nomatch e); have l6 := (Array.getElem?_eq_some_iff.1 y6).1; have bw6 := bw5.trans (b6.mono (by omega)); have x6 := (b6.cell (p := ⟨w.heap.size, 0, none⟩) hnb3).trans x5)
      | (go_at_call 15; (with_reducible refine (HR.out _).mono ?_); rintro e w7 ⟨rfl, b7⟩; have z7 := Below.size b7; have y7 := (b7.block D l6).trans y6; have bw7 := bw6.trans (b7.mono (by omega)); have x7 := (b7.cell (p := ⟨w.heap.size, 0, none⟩) (by show w.heap.size < _; omega)).trans x6)
      | (go_at_call 19; (with_reducible refine (HRZ.out _).mono ?_); rintro e w8 ⟨rfl, b8⟩; have z8 := Below.size b8; have y8 := (b8.block D (by simp; omega)).trans ((Below.heap_alloc _ _ D (by omega)).trans y7); have bw8 := (bw7.alloc (by omega) _).trans (b8.mono (by simp; omega))))
    all_goals gi_wp2
    all_goals (try rw [Exit.noGoto_ret])
    all_goals refine ⟨by simp, .inl ⟨_, _, rfl, run_takeDeferred y8, ?_⟩⟩
    all_goals exact ⟨_, results_tmp rfl _ _ _, by rw [HO.out]; rfl, bw8.trans (belowK_b (w := w) (Nat.le_refl _) _ D _ _ (by omega) y8 rfl rfl)⟩
set_option maxRecDepth 100000 in
set_option maxHeartbeats 4000000 in
theorem Output_none (A : Option Addr) (n c : Nat) (w : World) (at_ : Int) (tx : ByteArray) :
    CallsIn Fence.wide 10 Tryz.prog 25 #[.slice A n c, .agg #[.int .i64 0, .int .i64 at_, .string tx]] w fun e w' => e = .returned (.string tx) ∧ Below w.heap.size w w' := by
  refine callsIn_of_wp_marks Tryz.func25 rfl trivial ?_ rfl
  simp only [Tryz.ntmps25, List.size_toArray, List.length_cons, List.length_nil, Nat.reduceAdd, Nat.reduceSub, Array.replicate_succ, Array.replicate_zero, List.push_toArray, List.append_toArray, List.nil_append, List.cons_append]
  gi_wp2
  refine wpIn_wide.2 (wp_scope_straight ((wpIn_wide (n := 10)).1 ?_))
  gi_wp2
  all_goals (try rw [Exit.noGoto_ret])
  exact ⟨_, results_tmp rfl _ _ _, rfl, (by (exact bl))⟩
/-- What Output answers. -/
def outR (s : ByteArray) (err at_ : Int) (tx : ByteArray) : ByteArray := if err = 0 then tx else outB s err at_
theorem Output_any (s : ByteArray) (A : Option Addr) (c : Nat) (hs : s.size ≤ 8000) (hcap : s.size ≤ c) (w : World) (h : Rd w w.heap.size A s.size (byteC s)) (err at_ : Int) (tx : ByteArray) (hT : Tab w) :
    Calls Tryz.prog 25 #[.slice A s.size c, .agg #[.int .i64 err, .int .i64 at_, .string tx]] w fun e w' => e = .returned (.string (outR s err at_ tx)) ∧ Below w.heap.size w w' := by
  by_cases he : err = 0
  · subst he
    have := callsIn_wide.1 (Output_none A s.size c w at_ tx)
    exact this
  · have := callsIn_wide.1 (Output_in s A c hs hcap w h err at_ tx he hT)
    rw [show outR s err at_ tx = outB s err at_ from if_neg he]
    exact this
end
section
set_option linter.unusedVariables false
set_option linter.unusedSimpArgs false
set_option linter.unnecessarySimpa false
open Go.RowKit
attribute [local go_sem] cell_alloc_add cell_set_add lt_more
def kAB : ByteArray := ⟨#[97, 98]⟩
theorem rd_lit1 (s : ByteArray) (w : World) (t : TypeId) (cs : Array Value) (fr : Nat × Nat) (hc : cs = (s.data.toList.map fun b => Value.int .u8 (b.toNat : Int)).toArray) : Rd (w.alloc (.cells cs t fr)) (w.heap.size + 1) (some ⟨w.heap.size, 0, none⟩) s.size (byteC s) := fun j hj =>
  ⟨_, rfl, by simp, by
    rw [add_row, World.cell?_alloc_mark, Nat.zero_add, hc]
    have := bcs_at hj
    unfold bcs at this
    rw [List.getElem?_toArray]; exact this⟩
theorem kAB_line : lineN kAB 1 = 1 ∧ colN kAB 1 = 2 := by decide
theorem kAB_lnT : lnT kAB 0 = kAB := by
  have e : lnEnd kAB 0 = 2 := by
    rw [lnEnd_go (by decide) (by decide), lnEnd_go (by decide) (by decide), lnEnd_stop (by decide)]
  have h : linesF kAB 0 = [(0, 2)] := by rw [linesF_stop (by rw [e]; decide), e]
  unfold lnT lnAt
  rw [h]; rfl
theorem kAB_out : outB kAB 10 1 = ⟨#[49, 58, 50, 58, 32, 116, 121, 112, 101, 10, 97, 98, 10, 32, 94, 10]⟩ := by
  have d1 : digits 1 = ⟨#[49]⟩ := by
    unfold digits
    rw [show (1 : Int) = ((1 : Nat) : Int) from rfl, Lib.itoa_nonneg, Lib.decDigits_one (by omega)]; rfl
  have d2 : digits 2 = ⟨#[50]⟩ := by
    unfold digits
    rw [show (2 : Int) = ((2 : Nat) : Int) from rfl, Lib.itoa_nonneg, Lib.decDigits_one (by omega)]; rfl
  unfold outB
  rw [kAB_line.1, kAB_line.2, show (1 : Nat) - 1 = 0 from rfl, kAB_lnT, show ((1 : Nat) : Int) = 1 from rfl, show ((2 : Nat) : Int) = 2 from rfl, d1, d2]
  decide
theorem out_kAB (w : World) (fr : Nat × Nat) (hT : Tab w) : Calls Tryz.prog 25 #[.slice (some ⟨w.heap.size, 0, none⟩) 2 2, .agg #[.int .i64 10, .int .i64 1, .string ⟨#[]⟩]] (w.alloc (.cells #[.int .u8 97, .int .u8 98] 5 fr)) fun e w' => e = .returned (.string ⟨#[49, 58, 50, 58, 32, 116, 121, 112, 101, 10, 97, 98, 10, 32, 94, 10]⟩) ∧ Below w.heap.size w w' :=
  (Output_any kAB _ 2 (by decide) (by decide) _ ((rd_lit1 kAB w 5 #[.int .u8 97, .int .u8 98] fr rfl).more (by simp)) 10 1 ⟨#[]⟩ (hT.later (B := w.heap.size) ((Below.refl _ w).alloc (Nat.le_refl _) _) hT.2)).mono fun e w' ⟨he, hw⟩ => ⟨by rw [he, ← kAB_out]; rfl, ((Below.refl _ w).alloc (Nat.le_refl _) _).trans (hw.mono (by simp))⟩
set_option maxRecDepth 100000 in
set_option maxHeartbeats 1000000 in
theorem known_any (w : World) (hT : Tab w) : Calls Tryz.prog 10 #[] w fun e w' => e = .returned (.bool true) ∧ Below w.heap.size w w' := by
  have kc := fun (w : World) (C : Array Value) (n c : Nat) => Lib.run_convert_bytes_const (P := Tryz.prog) w 40 5 C n c Tryz.underlying40 Tryz.underlying5
  go_enter Tryz.func10, Tryz.ntmps10
  go_wp2_with (first
    | (go_at_call 25; (with_reducible refine (out_kAB _ _ hT).mono ?_); rintro e w1 ⟨rfl, b1⟩; have z1 := Below.size b1))
  go_ret
  exact ⟨rfl, b1⟩
end
end Go.Proofs.YtcphkdooemengaaGreatDoor
