/- The walk of chapter 1's Quote, of the program. -/
import Derived.Test.YtcphkdooemengaaGreatDoorHBZ10
import Derived.Test.YtcphkdooemengaaGreatDoorHBZ11
import Derived.Test.YtcphkdooemengaaGreatDoorHBld
import Derived.Test.YtcphkdooemengaaGreatDoorHBZ7
namespace Go.Proofs.YtcphkdooemengaaGreatDoor
set_option linter.unusedVariables false
set_option linter.unusedSimpArgs false
set_option linter.unnecessarySimpa false
open Go.RowKit
attribute [local go_sem] cell_alloc_add cell_set_add lt_more Oper.semAt_some
theorem bldAt_own {T e : TypeId} {B b : Nat} {p : Value} {bs : List Value} {W W' : World} {row : Option Nat} (h : Lib.BuilderAtF T e B b p bs W) (hg : W.grownBy W' row) (hr : ∀ r, row = some r → ∃ o : Obj, W.heap[r]? = some o ∧ o.isCells = false) : Lib.BuilderAtF T e B b p bs W' := by
  have hlt := h.lt
  obtain ⟨hB, v, hb, hown, hne⟩ := h
  refine ⟨hB, v, ?_, hown.kept hg ?_, hne⟩
  · exact (hg.block b hlt (fun e => by obtain ⟨o, ho, hc⟩ := hr b e.symm; rw [hb] at ho; injection ho with ho; subst ho; cases hc)).trans hb
  · rcases row with _ | r
    · by_cases hv : v.ownBlock = none
      · exact .inl hv
      · exact .inr hv
    · right
      obtain ⟨o, ho, hc⟩ := hr r rfl
      intro e
      rcases hown.2 with ⟨hv, _⟩ | ⟨g, cap, cur, fz, hv, _, hh, _⟩
      · rw [hv] at e; cases e
      · rw [hv] at e; injection e with e; subst e; simp at ho; rw [hh] at ho; injection ho with ho; subst ho; cases hc
theorem bld_own {T e : TypeId} {B b : Nat} {bs : List Value} {W W' : World} {row : Option Nat} (h : Lib.IsBuilderF T e B b bs W) (hg : W.grownBy W' row) (hr : ∀ r, row = some r → ∃ o : Obj, W.heap[r]? = some o ∧ o.isCells = false) : Lib.IsBuilderF T e B b bs W' :=
  h.elim (fun x => .inl (bldAt_own x hg hr)) (fun x => .inr (bldAt_own x hg hr))
theorem bld_of {T e : TypeId} {B b : Nat} {bs : List Value} {W : World} (h : Lib.BuilderAtF T e B b (.pointer (some ⟨b, 0, none⟩)) bs W) : Lib.IsBuilderF T e B b bs W := .inr h
theorem hexcells (x : ByteArray) : Lib.strCells (⟨#[92, 117, 123]⟩ ++ x ++ ⟨#[125]⟩) = Lib.byteCells ([92, 117, 123] ++ x.data.toList ++ [125]) := by
  rw [Lib.strCells_eq]; congr 1
theorem grown_below {W W' : World} (hb : Below W.heap.size W W') : W.grownBy W' none := ⟨hb.os, hb.tape, hb.output, hb.size, fun i hi _ => hb.block i hi⟩
theorem bld_keep {T e : TypeId} {B b : Nat} {bs : List Value} {W W' : World} (h : Lib.IsBuilderF T e B b bs W) (hb : Below W.heap.size W W') : Lib.IsBuilderF T e B b bs W' := bld_own h (grown_below hb) (fun r e => by cases e)
theorem keeps_below {W W' : World} (hb : Below W.heap.size W W') : KeepsOthers W W' := ⟨hb.size, fun k o hk _ => (hb.block k (Array.getElem?_eq_some_iff.1 hk).1).trans hk⟩
/-- What a writer of a builder keeps: whatever is no cells. -/
theorem others_keep {e : TypeId} {B b : Nat} {W W' : World} (h : Lib.OthersKept e (some b) W W') (hb : Below B W W') {c : Array Value} {t : TypeId} {fr : Nat × Nat} (hbk : W.heap[b]? = some (.cells c t fr)) : KeepsOthers W W' :=
  ⟨hb.size, fun k o hk ho => h k o hk (fun e => by injection e with e; subst e; rw [hbk] at hk; injection hk with hk; subst hk; cases ho) (fun c fz e => by subst e; cases ho)⟩
theorem bld_block {T e : TypeId} {B b : Nat} {bs : List Value} {W : World} (h : Lib.IsBuilderF T e B b bs W) : ∃ c, W.heap[b]? = some (.cells c T (0, 0)) := by
  rcases h with ⟨_, v, hb, _⟩ | ⟨_, v, hb, _⟩ <;> exact ⟨_, hb⟩
theorem row_others {e t : TypeId} {b g : Nat} {W W' : World} {cs : Array Value} (h : Lib.OthersKept e (some b) W W') (hr : Row W g t cs) (hg : g ≠ b) (ht : t ≠ e) : Row W' g t cs :=
  h g _ hr (fun e => hg (by injection e)) (fun c fz e => by injection e with _ h2 _; exact ht h2)
theorem keepC_row {g : Nat} {t : TypeId} {cs : Array Value} {W W' : World} (h : Row W g t cs) (h' : Row W' g t cs) : KeepC g W W' := fun v hv => by rw [h.cell 0] at hv; rw [h'.cell 0]; exact hv

set_option maxRecDepth 100000 in
set_option maxHeartbeats 4000000 in
theorem Quote_in (s : ByteArray) (hs : s.size ≤ 1099511627776) (w : World) (hT : Tz w) :
    CallsIn Fence.wide 10 Tryz.prog 17 #[.string s] w fun e w' => e = .returned (.string (quoteB s)) ∧ Below w.heap.size w w' := by
  have kb := fun (w : World) (x : ByteArray) => run_bytes_of_string (P := Tryz.prog) w 9 40 5 x Tryz.underlying9 Tryz.underlying40 Tryz.underlying5
  refine callsIn_of_wp_marks Tryz.func17 rfl trivial ?_ rfl
  simp only [Tryz.ntmps17, List.size_toArray, List.length_cons, List.length_nil, Nat.reduceAdd, Nat.reduceSub, Array.replicate_succ, Array.replicate_zero, List.push_toArray, List.append_toArray, List.nil_append, List.cons_append]
  gi_wp2_with (first
    | (refine ⟨trivial, ?_⟩; gi_at_call 35; (with_reducible refine (callsIn_wide.2 (Runes_at s (some ⟨w1.heap.size, 0, none⟩) _ _ rfl _ (rd_row w1 s _ _ _).drew)).mono ?_); rintro e w2 ⟨rfl, rfl⟩)
    | (refine ⟨trivial, ?_⟩; gi_at_call 34; (with_reducible refine (callsIn_wide.2 (wByte_any w.heap.size w.heap.size [] 34 _ (Lib.IsBuilderF.of (Lib.fresh_isBuilder 42 5 w)) (by simp) (by simp))).mono ?_); rintro e w1 ⟨rfl, h1, hb1, k1⟩; have hz1 := Below.size hb1))
  obtain ⟨W0, hW0⟩ : ∃ W0, W0 = ((w1.alloc (.cells (bytesRow s (grownCap w1 s.size 0 5)) 5 ((bytesRow s (grownCap w1 s.size 0 5)).size, (bytesRow s (grownCap w1 s.size 0 5)).size + 1))).alloc (.cells #[.string s] 9)).drew := ⟨_, rfl⟩
  rw [← hW0]
  have hlt1 : w.heap.size < w1.heap.size := by simp at hz1; omega
  have hr0 : Row W0 (w1.heap.size + 1) 9 #[.string s] := by rw [hW0]; exact (row_new (by simp)).drew
  have hi0 : Lib.IsBuilderF 42 5 w.heap.size w.heap.size (Lib.byteCells (34 :: qbody s [])) W0 := by rw [hW0]; exact .inr ((h1.alloc _).alloc _)
  have hb0 : Below w.heap.size w W0 := by
    rw [hW0]
    have h0 : Below w.heap.size w w1 := ((Below.refl _ w).alloc (Nat.le_refl _) _).trans hb1
    exact ((h0.alloc (by omega) _).alloc (by simp; omega) _).drew
  have hz0 : W0.heap.size = w1.heap.size + 2 := by rw [hW0]; simp
  clear hW0 h1 hb1 k1 hz1
  apply wpIn_rangeFunc_ownF (F := Fence.wide) (n := 10) rfl (by decide) (gf := 59) (lb := #[.pointer (some ⟨w1.heap.size + 1, 0, none⟩)]) rfl trivial (enters_of Tryz.func59 (by kernel_rfl) rfl)
    (Runes_stops (10 - 1) (by decide) (w1.heap.size + 1) s (by omega) W0 (by rw [hr0.cell 0]; rfl)) keepC_t (keepC_b (w := W0)) (Below.refl _ _) (fun _ => rfl)
    (fun pre W => Lib.IsBuilderF 42 5 w.heap.size w.heap.size (Lib.byteCells (34 :: qbody s (vals pre))) W ∧ Row W (w1.heap.size + 1) 9 #[.string s] ∧ Below w.heap.size w W)
    (fun _ _ _ => False)
    (fun p A B row hs hg hr => ⟨bld_own hs.1 hg (fun r e => (hr r e).2), row_own hs.2.1 hg (fun r e => (hr r e).2), ownFrom_below (β := Unit) (Nat.le_refl _) (by omega) () A B row hs.2.2 hg hr⟩)
    (fun _ _ _ _ _ hs _ _ => hs)
    ⟨hi0, hr0, hb0⟩ _
  case hassign =>
    intro l x W K hK
    dsimp only [plE]
    gi_wp2
    exact hK
  case hstop =>
    rintro D c pre W hD hpre h
    exact h.elim
  case hbody =>
    rintro l pre x W ⟨hI, hrow, hB⟩ hlen
    have hql := qbody_len s (vals pre)
    rw [vals_len] at hql
    have hz := hB.size
    have hrb := rn_bd s x.1
    have hkW := hrow.lt
    have hT2 := hT.2
    obtain ⟨cs, hbk⟩ := bld_block hI
    have HB := Lib.hid hbk
    clear hbk
    by_cases c1 : rn s x.1 = 92 ∨ rn s x.1 = 34
    · have HE := Lib.hid (qrune_esc c1)
      rcases c1 with c1 | c1
      · have e92 : ((rn s x.1 : Int) == 92) = true := by simp; omega
        have c2 : ¬ rn s x.1 < 32 := by omega
        clear c1
        gi_wp2_with (first
          | (refine ⟨trivial, ?_⟩; gi_at_call 34; (with_reducible refine (CallsIn.inRound l (callsIn_wide.2 (wByte_any w.heap.size w.heap.size _ 92 W hI (by simp [Lib.byteCells_length]; omega) (by omega)))).mono ?_); rintro e w3 ⟨rfl, h3, b3, k3⟩; have hz3 := Below.size b3)
          | (refine ⟨trivial, ?_⟩; gi_at_call 36; (with_reducible refine (CallsIn.inRound l (callsIn_wide.2 (wRune_any w.heap.size w.heap.size _ _ (by omega) (by omega) (by omega) w3 (bld_of h3) (by simp [Lib.byteCells_length]; omega) (by omega)))).mono ?_); rintro e w4 ⟨rfl, h4, b4, k4⟩; have hz4 := Below.size b4))
        have hr3 := row_others k3 hrow (by omega) (by decide)
        have hr4 := row_others k4 hr3 (by omega) (by decide)
        obtain ⟨cs3, hbk3⟩ := bld_block (bld_of h3)
        exact ⟨(others_keep k3 b3 HB.out).trans (others_keep k4 b4 hbk3), keepC_row hrow hr4, ⟨by rw [vals_snoc, qbody_snoc, HE.out]; exact .inr (by simpa [Lib.byteCells, ← Lib.byteCells_encodeRune] using h4), hr4, (hB.trans b3).trans b4⟩⟩
      · have e92 : ((rn s x.1 : Int) == 92) = false := by simp; omega
        have e34 : ((rn s x.1 : Int) == 34) = true := by simp; omega
        have c2 : ¬ rn s x.1 < 32 := by omega
        clear c1
        gi_wp2_with (first
          | (refine ⟨trivial, ?_⟩; gi_at_call 34; (with_reducible refine (CallsIn.inRound l (callsIn_wide.2 (wByte_any w.heap.size w.heap.size _ 92 W hI (by simp [Lib.byteCells_length]; omega) (by omega)))).mono ?_); rintro e w3 ⟨rfl, h3, b3, k3⟩; have hz3 := Below.size b3)
          | (refine ⟨trivial, ?_⟩; gi_at_call 36; (with_reducible refine (CallsIn.inRound l (callsIn_wide.2 (wRune_any w.heap.size w.heap.size _ _ (by omega) (by omega) (by omega) w3 (bld_of h3) (by simp [Lib.byteCells_length]; omega) (by omega)))).mono ?_); rintro e w4 ⟨rfl, h4, b4, k4⟩; have hz4 := Below.size b4))
        have hr3 := row_others k3 hrow (by omega) (by decide)
        have hr4 := row_others k4 hr3 (by omega) (by decide)
        obtain ⟨cs3, hbk3⟩ := bld_block (bld_of h3)
        exact ⟨(others_keep k3 b3 HB.out).trans (others_keep k4 b4 hbk3), keepC_row hrow hr4, ⟨by rw [vals_snoc, qbody_snoc, HE.out]; exact .inr (by simpa [Lib.byteCells, ← Lib.byteCells_encodeRune] using h4), hr4, (hB.trans b3).trans b4⟩⟩
    · by_cases c10 : rn s x.1 = 10
      · have HE : Hid (qrune (rn s x.1) = qrune 10) := by show _ = _; rw [c10]
        have e92 : ((rn s x.1 : Int) == 92) = false := by simp; omega
        have e34 : ((rn s x.1 : Int) == 34) = false := by simp; omega
        have e10 : ((rn s x.1 : Int) == 10) = true := by simp; omega
        clear c10 c1
        gi_wp2_with (refine ⟨trivial, ?_⟩; gi_at_call 18; (with_reducible refine (CallsIn.inRound l (callsIn_wide.2 (wStr_any w.heap.size w.heap.size _ ⟨#[92, 110]⟩ W hI (by simp [Lib.byteCells_length, ByteArray.size]; omega) (by omega)))).mono ?_); rintro e w3 ⟨rfl, h3, b3, k3⟩; have hz3 := Below.size b3)
        have hr3 := row_others k3 hrow (by omega) (by decide)
        exact ⟨others_keep k3 b3 HB.out, keepC_row hrow hr3, ⟨by rw [vals_snoc, qbody_snoc, HE.out]; exact .inr (by rw [qrune_nl]; simpa [Lib.byteCells, Lib.strCells] using h3), hr3, hB.trans b3⟩⟩
      · by_cases c13 : rn s x.1 = 13
        · have HE : Hid (qrune (rn s x.1) = qrune 13) := by show _ = _; rw [c13]
          have e92 : ((rn s x.1 : Int) == 92) = false := by simp; omega
          have e34 : ((rn s x.1 : Int) == 34) = false := by simp; omega
          have e10 : ((rn s x.1 : Int) == 10) = false := by simp; omega
          have e13 : ((rn s x.1 : Int) == 13) = true := by simp; omega
          clear c13
          gi_wp2_with (refine ⟨trivial, ?_⟩; gi_at_call 18; (with_reducible refine (CallsIn.inRound l (callsIn_wide.2 (wStr_any w.heap.size w.heap.size _ ⟨#[92, 114]⟩ W hI (by simp [Lib.byteCells_length, ByteArray.size]; omega) (by omega)))).mono ?_); rintro e w3 ⟨rfl, h3, b3, k3⟩; have hz3 := Below.size b3)
          have hr3 := row_others k3 hrow (by omega) (by decide)
          exact ⟨others_keep k3 b3 HB.out, keepC_row hrow hr3, ⟨by rw [vals_snoc, qbody_snoc, HE.out]; exact .inr (by rw [qrune_cr]; simpa [Lib.byteCells, Lib.strCells] using h3), hr3, hB.trans b3⟩⟩
        · by_cases c9 : rn s x.1 = 9
          · have HE : Hid (qrune (rn s x.1) = qrune 9) := by show _ = _; rw [c9]
            have e92 : ((rn s x.1 : Int) == 92) = false := by simp; omega
            have e34 : ((rn s x.1 : Int) == 34) = false := by simp; omega
            have e10 : ((rn s x.1 : Int) == 10) = false := by simp; omega
            have e13 : ((rn s x.1 : Int) == 13) = false := by simp; omega
            have e9 : ((rn s x.1 : Int) == 9) = true := by simp; omega
            clear c9
            gi_wp2_with (refine ⟨trivial, ?_⟩; gi_at_call 18; (with_reducible refine (CallsIn.inRound l (callsIn_wide.2 (wStr_any w.heap.size w.heap.size _ ⟨#[92, 116]⟩ W hI (by simp [Lib.byteCells_length, ByteArray.size]; omega) (by omega)))).mono ?_); rintro e w3 ⟨rfl, h3, b3, k3⟩; have hz3 := Below.size b3)
            have hr3 := row_others k3 hrow (by omega) (by decide)
            exact ⟨others_keep k3 b3 HB.out, keepC_row hrow hr3, ⟨by rw [vals_snoc, qbody_snoc, HE.out]; exact .inr (by rw [qrune_tab]; simpa [Lib.byteCells, Lib.strCells] using h3), hr3, hB.trans b3⟩⟩
          · by_cases ch : rn s x.1 < 32 ∨ rn s x.1 = 127
            · have HE := Lib.hid (qrune_hex ch c10 c13 c9)
              have h128 : rn s x.1 < 128 := by omega
              have hsz := hexB_size (rn s x.1)
              have e92 : ((rn s x.1 : Int) == 92) = false := by simp; omega
              have e34 : ((rn s x.1 : Int) == 34) = false := by simp; omega
              have e10 : ((rn s x.1 : Int) == 10) = false := by simp; omega
              have e13 : ((rn s x.1 : Int) == 13) = false := by simp; omega
              have e9 : ((rn s x.1 : Int) == 9) = false := by simp; omega
              rcases ch with ch | ch
              · have e32 : rn s x.1 < 32 := ch
                clear ch c10 c13 c9 c1
                gi_wp2_with (first
                  | (refine ⟨trivial, ?_⟩; gi_at_call 18; (with_reducible refine (CallsIn.inRound l (callsIn_wide.2 (wStr_any w.heap.size w.heap.size _ _ w2 hI2 (by simp only [Lib.byteCells_length, List.length_cons, ByteArray.size_append]; have e1 : (⟨#[92, 117, 123]⟩ : ByteArray).size = 3 := rfl; have e2 : (⟨#[125]⟩ : ByteArray).size = 1 := rfl; omega) (by omega)))).mono ?_); rintro e w3 ⟨rfl, h3, b3, k3⟩; have hz3 := Below.size b3)
                  | (refine ⟨trivial, ?_⟩; gi_at_call 37; (with_reducible refine (CallsIn.inRound l (callsIn_wide.2 (fint (rn s x.1) h128 W (hT.later hB hT2)))).mono ?_); rintro e w2 ⟨rfl, b2⟩; have hz2 := Below.size b2; have hI2 := bld_keep hI b2; have hrow2 := hrow.below b2 hrow.lt; obtain ⟨cs2, hbk2⟩ := bld_block hI2))
                have hr3 := row_others k3 hrow2 (by omega) (by decide)
                exact ⟨(keeps_below b2).trans (others_keep k3 b3 hbk2), keepC_row hrow hr3, ⟨by rw [vals_snoc, qbody_snoc, HE.out]; exact .inr (by have e := hexcells (hexB (rn s x.1)); rw [e, ← Lib.byteCells_append] at h3; exact h3), hr3, (hB.trans (b2.mono hz)).trans b3⟩⟩
              · have e127 : ((rn s x.1 : Int) == 127) = true := by simp; omega
                have e32 : ¬ rn s x.1 < 32 := by omega
                clear ch c10 c13 c9 c1
                gi_wp2_with (first
                  | (refine ⟨trivial, ?_⟩; gi_at_call 18; (with_reducible refine (CallsIn.inRound l (callsIn_wide.2 (wStr_any w.heap.size w.heap.size _ _ w2 hI2 (by simp only [Lib.byteCells_length, List.length_cons, ByteArray.size_append]; have e1 : (⟨#[92, 117, 123]⟩ : ByteArray).size = 3 := rfl; have e2 : (⟨#[125]⟩ : ByteArray).size = 1 := rfl; omega) (by omega)))).mono ?_); rintro e w3 ⟨rfl, h3, b3, k3⟩; have hz3 := Below.size b3)
                  | (refine ⟨trivial, ?_⟩; gi_at_call 37; (with_reducible refine (CallsIn.inRound l (callsIn_wide.2 (fint (rn s x.1) h128 W (hT.later hB hT2)))).mono ?_); rintro e w2 ⟨rfl, b2⟩; have hz2 := Below.size b2; have hI2 := bld_keep hI b2; have hrow2 := hrow.below b2 hrow.lt; obtain ⟨cs2, hbk2⟩ := bld_block hI2))
                have hr3 := row_others k3 hrow2 (by omega) (by decide)
                exact ⟨(keeps_below b2).trans (others_keep k3 b3 hbk2), keepC_row hrow hr3, ⟨by rw [vals_snoc, qbody_snoc, HE.out]; exact .inr (by have e := hexcells (hexB (rn s x.1)); rw [e, ← Lib.byteCells_append] at h3; exact h3), hr3, (hB.trans (b2.mono hz)).trans b3⟩⟩
            · have HE := Lib.hid (qrune_plain (r := rn s x.1) (by omega) (by omega) (by omega) (by omega))
              have e92 : ((rn s x.1 : Int) == 92) = false := by simp; omega
              have e34 : ((rn s x.1 : Int) == 34) = false := by simp; omega
              have e10 : ((rn s x.1 : Int) == 10) = false := by simp; omega
              have e13 : ((rn s x.1 : Int) == 13) = false := by simp; omega
              have e9 : ((rn s x.1 : Int) == 9) = false := by simp; omega
              have e127 : ((rn s x.1 : Int) == 127) = false := by simp; omega
              have e32 : ¬ rn s x.1 < 32 := by omega
              clear ch c10 c13 c9 c1
              gi_wp2_with (refine ⟨trivial, ?_⟩; gi_at_call 36; (with_reducible refine (CallsIn.inRound l (callsIn_wide.2 (wRune_any w.heap.size w.heap.size _ _ (by omega) (by omega) (by omega) W hI (by simp [Lib.byteCells_length]; omega) (by omega)))).mono ?_); rintro e w3 ⟨rfl, h3, b3, k3⟩; have hz3 := Below.size b3)
              have hr3 := row_others k3 hrow (by omega) (by decide)
              exact ⟨others_keep k3 b3 HB.out, keepC_row hrow hr3, ⟨by rw [vals_snoc, qbody_snoc, HE.out]; exact .inr (by simpa [Lib.byteCells, ← Lib.byteCells_encodeRune] using h3), hr3, hB.trans b3⟩⟩
  case hdone =>
    rintro D xs W hD rfl ⟨hI, hrow, hB⟩ hK
    have hv : vals (plL s (places s)) = places s := plL_val (fun j hj => mem_places hj)
    rw [hv] at hI
    clear hv
    have hql := qbody_len s (places s)
    have hpl := places_len s
    have hz := hB.size
    obtain ⟨cs, hbk⟩ := bld_block hI
    have HB := Lib.hid hbk
    clear hbk
    gi_wp2_with (first
      | (refine ⟨trivial, ?_⟩; gi_at_call 34; (with_reducible refine (callsIn_wide.2 (wByte_any w.heap.size w.heap.size _ 34 W hI (by simp [Lib.byteCells_length]; omega) (by omega))).mono ?_); rintro e w3 ⟨rfl, h3, b3, k3⟩; have hz3 := Below.size b3; have hI3 : Lib.IsBuilderF 42 5 w.heap.size w.heap.size (Lib.byteCells (34 :: qbody s (places s) ++ [34])) w3 := .inr (by simpa [Lib.byteCells] using h3))
      | (refine ⟨trivial, ?_⟩; gi_at_call 20; (with_reducible refine (callsIn_wide.2 (Tryz.Builder_String_any_k w.heap.size w.heap.size _ w3 hI3 (by omega))).mono ?_); rintro e w4 ⟨rfl, h4, b4, k4⟩; have hz4 := Below.size b4))
    obtain ⟨cs3, hbk3⟩ := bld_block hI3
    have hK4 := ((others_keep k3 b3 HB.out).trans (others_keep k4 b4 hbk3)).same D _ hK rfl
    refine ⟨by simp, .inl ⟨_, _, rfl, run_takeDeferred hK4, ?_⟩⟩
    exact ⟨_, results_tmp rfl _ _ _, rfl, ((hB.trans b3).trans b4).trans (belowK_b (w := w) (Nat.le_refl _) _ D _ _ (by omega) hK4 rfl rfl)⟩
theorem Quote_any (s : ByteArray) (hs : s.size ≤ 1099511627776) (w : World) (hT : Tz w) :
    Calls Tryz.prog 17 #[.string s] w fun e w' => e = .returned (.string (quoteB s)) ∧ Below w.heap.size w w' := callsIn_wide.1 (Quote_in s hs w hT)
end Go.Proofs.YtcphkdooemengaaGreatDoor
