/- The walks of chapter 2's scanner: sign. -/
import Derived.Test.YtdlppdoankeilaaDoorSign
namespace Go.Proofs.YtdlppdoankeilaaDoor
set_option linter.unusedVariables false
set_option linter.unusedSimpArgs false
set_option linter.unnecessarySimpa false
open Go.RowKit
attribute [local go_sem] cell_alloc_add cell_set_add lt_more
theorem con3 (t : ByteArray) (ht : t.size ≤ 8) (w : World) (hm : Mx w) (hq : SignQ signs3 t.data.toList false) : Calls Tryd.prog 46 #[.string ⟨#[32, 61, 61, 61, 32, 33, 61, 61, 32, 62, 62, 62, 32]⟩, .string (⟨#[32]⟩ ++ t ++ ⟨#[32]⟩)] w fun e w' => e = .returned (.bool (decide (t.data.toList ∈ signs3))) ∧ w' = w := by
  obtain ⟨m, hm⟩ := hm
  have := Tryd.strings_Contains ⟨#[32, 61, 61, 61, 32, 33, 61, 61, 32, 62, 62, 62, 32]⟩ (⟨#[32]⟩ ++ t ++ ⟨#[32]⟩) m w (by decide) hm
  rw [show (⟨#[32]⟩ ++ t ++ ⟨#[32]⟩ : ByteArray).data.toList = 32 :: (t.data.toList ++ [32]) by simp] at this
  rw [show (⟨#[32, 61, 61, 61, 32, 33, 61, 61, 32, 62, 62, 62, 32]⟩ : ByteArray).data.toList = blanked signs3 from rfl, hq.2 rfl] at this
  exact this
theorem con2 (t : ByteArray) (ht : t.size ≤ 8) (w : World) (hm : Mx w) (hq : SignQ signs2 t.data.toList false) : Calls Tryd.prog 46 #[.string ⟨#[32, 61, 62, 32, 43, 61, 32, 45, 61, 32, 42, 61, 32, 37, 61, 32, 60, 61, 32, 62, 61, 32, 60, 60, 32, 62, 62, 32, 38, 38, 32, 124, 124, 32]⟩, .string (⟨#[32]⟩ ++ t ++ ⟨#[32]⟩)] w fun e w' => e = .returned (.bool (decide (t.data.toList ∈ signs2))) ∧ w' = w := by
  obtain ⟨m, hm⟩ := hm
  have := Tryd.strings_Contains ⟨#[32, 61, 62, 32, 43, 61, 32, 45, 61, 32, 42, 61, 32, 37, 61, 32, 60, 61, 32, 62, 61, 32, 60, 60, 32, 62, 62, 32, 38, 38, 32, 124, 124, 32]⟩ (⟨#[32]⟩ ++ t ++ ⟨#[32]⟩) m w (by decide) hm
  rw [show (⟨#[32]⟩ ++ t ++ ⟨#[32]⟩ : ByteArray).data.toList = 32 :: (t.data.toList ++ [32]) by simp] at this
  rw [show (⟨#[32, 61, 62, 32, 43, 61, 32, 45, 61, 32, 42, 61, 32, 37, 61, 32, 60, 61, 32, 62, 61, 32, 60, 60, 32, 62, 62, 32, 38, 38, 32, 124, 124, 32]⟩ : ByteArray).data.toList = blanked signs2 from rfl, hq.2 rfl] at this
  exact this
theorem con1 (t : ByteArray) (ht : t.size ≤ 8) (w : World) (hm : Mx w) (hq : SignQ signs1 t.data.toList false) : Calls Tryd.prog 46 #[.string ⟨#[32, 123, 32, 125, 32, 40, 32, 41, 32, 91, 32, 93, 32, 46, 32, 44, 32, 59, 32, 58, 32, 63, 32, 61, 32, 43, 32, 45, 32, 42, 32, 37, 32, 33, 32, 126, 32, 60, 32, 62, 32, 38, 32, 124, 32, 94, 32]⟩, .string (⟨#[32]⟩ ++ t ++ ⟨#[32]⟩)] w fun e w' => e = .returned (.bool (decide (t.data.toList ∈ signs1))) ∧ w' = w := by
  obtain ⟨m, hm⟩ := hm
  have := Tryd.strings_Contains ⟨#[32, 123, 32, 125, 32, 40, 32, 41, 32, 91, 32, 93, 32, 46, 32, 44, 32, 59, 32, 58, 32, 63, 32, 61, 32, 43, 32, 45, 32, 42, 32, 37, 32, 33, 32, 126, 32, 60, 32, 62, 32, 38, 32, 124, 32, 94, 32]⟩ (⟨#[32]⟩ ++ t ++ ⟨#[32]⟩) m w (by decide) hm
  rw [show (⟨#[32]⟩ ++ t ++ ⟨#[32]⟩ : ByteArray).data.toList = 32 :: (t.data.toList ++ [32]) by simp] at this
  rw [show (⟨#[32, 123, 32, 125, 32, 40, 32, 41, 32, 91, 32, 93, 32, 46, 32, 44, 32, 59, 32, 58, 32, 63, 32, 61, 32, 43, 32, 45, 32, 42, 32, 37, 32, 33, 32, 126, 32, 60, 32, 62, 32, 38, 32, 124, 32, 94, 32]⟩ : ByteArray).data.toList = blanked signs1 from rfl, hq.2 rfl] at this
  exact this
theorem idx30 (a b c : ByteArray) (w : World) : (Instr.index 87 (.agg #[.string a, .string b, .string c]) (.int .i64 0)).run Tryd.prog w = .ok (.string a) w := by kernel_rfl
theorem idx31 (a b c : ByteArray) (w : World) : (Instr.index 87 (.agg #[.string a, .string b, .string c]) (.int .i64 1)).run Tryd.prog w = .ok (.string b) w := by kernel_rfl
theorem idx32 (a b c : ByteArray) (w : World) : (Instr.index 87 (.agg #[.string a, .string b, .string c]) (.int .i64 2)).run Tryd.prog w = .ok (.string c) w := by kernel_rfl
attribute [local go_sem] idx30 idx31 idx32
/-- The scanner at g behind a step that goes to byte i, the brackets hs open. -/
def After (g : Nat) (A : Option Addr) (n c i : Nat) (hs : List Bool) (hv : Value) (w w' : World) : Prop := ∃ hv' : Value, Scn w' g A n c i hv' ∧ w'.ownsRow (g + 1) 4 1 hv' hs.length (hs.map .bool) ∧ Kept g hv.ownBlock w w' ∧ (hv'.ownBlock = hv.ownBlock ∨ ∀ b, hv'.ownBlock = some b → w.heap.size ≤ b)
theorem After.same {g : Nat} {A : Option Addr} {n c i : Nat} {hs : List Bool} {hv : Value} {w w' : World} (hg : Scn w g A n c i hv) (ho : w.ownsRow (g + 1) 4 1 hv hs.length (hs.map .bool)) (hb : Below w.heap.size w w') : After g A n c i hs hv w w' :=
  ⟨hv, Row.below hg hb hg.lt, own_below ho hb, Kept.of_below hb, .inl rfl⟩
theorem Scn.open {w : World} {g n c i : Nat} {A : Option Addr} {hv : Value} (h : Scn w g A n c i hv) (v : Value) : Scn (w.setCell ⟨g, 2, none⟩ v) g A n c i v := Row.put h 2 v
theorem Kept.setNew {g : Nat} {r : Option Nat} {w w' : World} (h : Kept g r w w') {p : Addr} (hp : w.heap.size ≤ p.block) (u : Value) : Kept g r w (w'.setCell p u) :=
  ⟨h.os, h.tape, h.output, by have := h.size; simp [World.setCell]; exact this, fun k hk h1 h2 => (Below.heap_setCell _ _ _ _ (by omega)).trans (h.block k hk h1 h2)⟩
theorem ob_len (A : Option Addr) (m n c : Nat) : (Value.slice A m c).ownBlock = (Value.slice A n c).ownBlock := by
  rcases A with _ | ⟨b, o, p⟩
  · rfl
  · cases o <;> cases p <;> rfl
theorem own_drop {w : World} {base c : Nat} {e : TypeId} {A : Option Addr} {holes : List Bool} (h : w.ownsRow base e 1 (.slice A holes.length c) holes.length (holes.map .bool)) {m : Nat} (hm : m = holes.length - 1) :
    w.ownsRow base e 1 (.slice A m c) holes.dropLast.length (holes.dropLast.map .bool) := by
  subst hm
  rcases List.eq_nil_or_concat holes with rfl | ⟨l, b, rfl⟩
  · exact h
  · obtain ⟨gb, cap, hv, _, _⟩ := h.form (by simp)
    injection hv with h1 _ h3
    subst h1 h3
    simp only [List.concat_eq_append, List.length_append, List.length_cons, List.length_nil, List.map_append, List.map_cons, List.map_nil, List.dropLast_concat, Nat.add_sub_cancel, Nat.zero_add] at h ⊢
    exact ownsRow_pop (by simp) h
theorem ext_one {s : ByteArray} {i : Nat} (hi : i < s.size) (c : UInt8) : (s.extract i (i + 1) = ⟨#[c]⟩) ↔ bt s i = c.toNat := by
  have h := hasB_one s i c
  unfold hasB at h
  rw [show (⟨#[c]⟩ : ByteArray).size = 1 from rfl, decide_eq_true (show i + 1 ≤ s.size by omega), decide_eq_true hi, Bool.true_and, Bool.true_and, Bool.eq_iff_iff, decide_eq_true_eq, beq_iff_eq] at h
  exact h
theorem text_ne {x : ByteArray} {b : UInt8} (h : x ≠ ⟨#[b]⟩) : (x.toList == [b]) = false := by
  rw [Lib.toList_data]; exact beq_eq_false_iff_ne.2 fun e => h (ByteArray.ext (Array.toList_inj.1 e))
set_option maxRecDepth 100000 in
set_option maxHeartbeats 40000000 in
theorem sign_any (s : ByteArray) (A : Option Addr) (c : Nat) (hs : s.size ≤ 1000000) (hcap : s.size ≤ c) (w : World) (hm : Mx w) (g : Nat) (hg0 : 1 < g) (h : Rd w g A s.size (byteC s)) (i : Nat) (hi : i < s.size) (holes : List Bool) (hol : holes.length ≤ 4000000) (hv : Value) (hg : Scn w g A s.size c i hv) (ho : w.ownsRow (g + 1) 4 1 hv holes.length (holes.map .bool)) :
    Calls Tryd.prog 30 #[.pointer (some ⟨g, 0, none⟩)] w fun e w' => e = .returned (.agg (tokA (tokS s i))) ∧ After g A s.size c i (holesS s i holes) hv w w' := by
  have HN := Lib.hid h
  obtain ⟨A2, c2, rfl, hc2, _⟩ := rd_own ho
  have HO := Lib.hid ho
  have lz := hg.lt
  obtain ⟨ad, rfl, hadB, ci⟩ := h i hi
  clear ci h ho
  have HT := Lib.hid (show tokS s i = if signAt s i = 0 then tokZ else ⟨9, s.extract i (i + signAt s i), i, i + signAt s i⟩ from rfl)
  have HH := Lib.hid (show holesS s i holes = if signAt s i = 1 ∧ bt s i = 123 then holes ++ [false] else if signAt s i = 1 ∧ bt s i = 125 then holes.dropLast else holes from rfl)
  have HC0 := Lib.hid (fun (n : Nat) (hn : i + n ≤ s.size) W (hb : Below w.heap.size w W) => cut_any s (some ad) c (by omega) hcap W ((HN.out.below (hb.mono (by omega))).more (by have := Below.size hb; omega)) g i _ (Row.below hg hb lz) hi 9 (i + n) (by omega) hn)
  go_enter Tryd.func30, Tryd.ntmps30
  go_upto_block 0 with (fail)
  obtain ⟨wo, hwo⟩ : ∃ wo : World, wo = (w.alloc (.cells #[.int .i64 0, .string ⟨#[]⟩, .int .i64 0, .int .i64 0] 29)).alloc (.cells #[.string ⟨#[32, 61, 61, 61, 32, 33, 61, 61, 32, 62, 62, 62, 32]⟩, .string ⟨#[32, 61, 62, 32, 43, 61, 32, 45, 61, 32, 42, 61, 32, 37, 61, 32, 60, 61, 32, 62, 61, 32, 60, 60, 32, 62, 62, 32, 38, 38, 32, 124, 124, 32]⟩, .string ⟨#[32, 123, 32, 125, 32, 40, 32, 41, 32, 91, 32, 93, 32, 46, 32, 44, 32, 59, 32, 58, 32, 63, 32, 61, 32, 43, 32, 45, 32, 42, 32, 37, 32, 33, 32, 126, 32, 60, 32, 62, 32, 38, 32, 124, 32, 94, 32]⟩] 87) := ⟨_, rfl⟩
  rw [← hwo]
  have rz : Row wo w.heap.size 29 #[.int .i64 0, .string ⟨#[]⟩, .int .i64 0, .int .i64 0] := by rw [hwo]; exact (row_new rfl).alloc _
  have hbr : Below w.heap.size w wo := by rw [hwo]; (repeat (first | (with_reducible exact Below.refl _ _) | (with_reducible assumption) | (with_reducible refine Below.setCell ?_ (by first | omega | (simp <;> omega)) _) | (with_reducible refine Below.alloc ?_ (by first | omega | (simp <;> omega)) _) | (with_reducible refine Below.drew ?_) | (with_reducible refine below_drewN ?_ _) | (with_reducible refine Below.trans ?_ (Below.mono (by with_reducible assumption) (by first | omega | (simp <;> omega))))))
  clear hwo
  go_wp2_with fail
  go_loopw [10] (fun x wr => ∃ (k : Nat) (q : Int), x = .int .i64 q ∧ q = (k : Int) ∧ k ≤ 3 ∧ Row wr w.heap.size 29 #[.int .i64 0, .string ⟨#[]⟩, .int .i64 0, .int .i64 0] ∧ Below w.heap.size w wr ∧ signAt s i = signF s i k) (fun x _ => 3 - (intOf x).toNat)
  case atStart => exact ⟨0, 0, rfl, rfl, by omega, rz, hbr, rfl⟩
  case round =>
    obtain ⟨k, q, rfl, hq0, hk, ry, hb, hsf⟩ := hrel
    have HF := Lib.hid hsf
    clear hsf
    have rg := Row.below hg hb lz
    have z0 := rg.cell 0
    have z1 := rg.cell 1
    have z2 := rg.cell 2
    have fz0 := rg.free 0
    have fz1 := rg.free 1
    have fz2 := rg.free 2
    simp at z0 z1 z2
    have y0 := ry.cell 0
    have y1 := ry.cell 1
    have y2 := ry.cell 2
    have y3 := ry.cell 3
    have fy0 := ry.free 0
    have fy1 := ry.free 1
    have fy2 := ry.free 2
    have fy3 := ry.free 3
    have ly := ry.lt
    rcases (by omega : k = 0 ∨ k = 1 ∨ k = 2 ∨ k = 3) with rfl | rfl | rfl | rfl
    · obtain rfl : q = 0 := by omega
      clear hq0
      by_cases hfit : i + 3 ≤ s.size
      · have f1 : ((s.size : Int) - (i : Int) < 3) = False := by simp; omega
        have HC := HC0.out 3 hfit
        have htx : (s.extract i (i + 3)).size ≤ 8 := by rw [ByteArray.size_extract]; omega
        unfold tokA at HC
        simp only [Int.natCast_add, Int.cast_ofNat_Int] at HC
        have HC := Lib.hid HC
        have hsz : (s.extract i (i + 3)).size = 3 := by rw [ByteArray.size_extract]; omega
        by_cases hin : (s.extract i (i + 3)).data.toList ∈ signs3
        · have HS : signAt s i = 3 := HF.out.trans (signF_yes (k := 0) (by omega) ⟨hfit, by rw [isSign_of (by omega) (by omega)]; exact decide_eq_true hin⟩)
          have HX : tokS s i = ⟨9, s.extract i (i + 3), i, i + 3⟩ := by rw [HT.out, HS]; rfl
          have HX := Lib.hid HX
          have HY : holesS s i holes = holes := by rw [HH.out, HS, if_neg (by omega), if_neg (by omega)]
          have HY := Lib.hid HY
          have q1 := text_ne (x := s.extract i (i + 3)) (b := 123) (fun e => by rw [e] at hsz; exact absurd hsz (by decide))
          have q2 := text_ne (x := s.extract i (i + 3)) (b := 125) (fun e => by rw [e] at hsz; exact absurd hsz (by decide))
          clear hsz HS
          generalize s.extract i (i + 3) = tx at *
          go_wp2_with fail
          go_quiet (fail)
          go_wp2_with (first | (go_at_call 42; (with_reducible refine (HC.out _ (by (repeat (first | (with_reducible exact Below.refl _ _) | (with_reducible assumption) | (with_reducible refine Below.setCell ?_ (by first | omega | (simp <;> omega)) _) | (with_reducible refine Below.alloc ?_ (by first | omega | (simp <;> omega)) _) | (with_reducible refine Below.drew ?_) | (with_reducible refine below_drewN ?_ _) | (with_reducible refine Below.trans ?_ (Below.mono (by with_reducible assumption) (by first | omega | (simp <;> omega)))))))).mono ?_); rintro e wb1 ⟨rfl, b1⟩; have zb1 : wr.heap.size ≤ wb1.heap.size := (by have hzz := Below.size b1; exact hzz); have rz1 := (ry.drewN _).below b1 (by show _ < wr.heap.size; omega); have hb1 : Below w.heap.size w wb1 := (by (repeat (first | (with_reducible exact Below.refl _ _) | (with_reducible assumption) | (with_reducible refine Below.setCell ?_ (by first | omega | (simp <;> omega)) _) | (with_reducible refine Below.alloc ?_ (by first | omega | (simp <;> omega)) _) | (with_reducible refine Below.drew ?_) | (with_reducible refine below_drewN ?_ _) | (with_reducible refine Below.trans ?_ (Below.mono (by with_reducible assumption) (by first | omega | (simp <;> omega)))))))) | (go_at_call 45; (with_reducible refine (conAny_sign _ clear3 tx htx _).mono ?_); rintro e wb2 ⟨⟨B, rfl, hq⟩, b2⟩; obtain rfl : B = false := hq.1 hin; have rz2 := (Row.alloc rz1 (.cells #[.int .i64 9, .string tx, .int .i64 (i : Int), .int .i64 ((i : Int) + 3)] 29)).below b2 (by simp; omega); have rt2 := (row_new (w := wb1) (t := 29) (cs := #[.int .i64 9, .string tx, .int .i64 (i : Int), .int .i64 ((i : Int) + 3)]) rfl).below b2 (by simp); have zb2 := Below.size b2; simp at zb2; have hb2 : Below w.heap.size w wb2 := (by (repeat (first | (with_reducible exact Below.refl _ _) | (with_reducible assumption) | (with_reducible refine Below.setCell ?_ (by first | omega | (simp <;> omega)) _) | (with_reducible refine Below.alloc ?_ (by first | omega | (simp <;> omega)) _) | (with_reducible refine Below.drew ?_) | (with_reducible refine below_drewN ?_ _) | (with_reducible refine Below.trans ?_ (Below.mono (by with_reducible assumption) (by first | omega | (simp <;> omega))))))); have rg2 := Row.below hg hb2 lz; have zz2 := rg2.cell 2; have fzz2 := rg2.free 2; simp at zz2; have y0 := rz2.cell 0; have y1 := rz2.cell 1; have y2 := rz2.cell 2; have y3 := rz2.cell 3; have fy0 := rz2.free 0; have fy1 := rz2.free 1; have fy2 := rz2.free 2; have fy3 := rz2.free 3; have x0 := rt2.cell 0; have x1 := rt2.cell 1; have x2 := rt2.cell 2; have x3 := rt2.cell 3; have fx0 := rt2.free 0; have fx1 := rt2.free 1; have fx2 := rt2.free 2; have fx3 := rt2.free 3; simp at x0 x1 x2 x3) | (go_at_call 46; (with_reducible refine (con3 tx htx _ (hm.keep hb2) hq).mono ?_); rintro e wq ⟨rfl, hwq⟩; obtain rfl := hwq.symm; rw [decide_eq_true hin]))
          exact bodyPost_ret (v := .agg (tokA ⟨9, tx, i, i + 3⟩)) (by simp [results, Tryd.results30, go_sem, tokA, *]) rfl ⟨by rw [HX.out], by rw [HY.out]; exact After.same hg HO.out (by (repeat (first | (with_reducible exact Below.refl _ _) | (with_reducible assumption) | (with_reducible refine Below.setCell ?_ (by first | omega | (simp <;> omega)) _) | (with_reducible refine Below.alloc ?_ (by first | omega | (simp <;> omega)) _) | (with_reducible refine Below.drew ?_) | (with_reducible refine below_drewN ?_ _) | (with_reducible refine Below.trans ?_ (Below.mono (by with_reducible assumption) (by first | omega | (simp <;> omega)))))))⟩
        · have HS := Lib.hid (HF.out.trans (signF_no (k := 0) (by omega) (fun e => hin (by have := e.2; rw [isSign_of (by omega) (by omega)] at this; exact of_decide_eq_true this))))
          clear hsz
          generalize s.extract i (i + 3) = tx at *
          go_wp2_with fail
          go_quiet (fail)
          go_wp2_with (first | (go_at_call 42; (with_reducible refine (HC.out _ (by (repeat (first | (with_reducible exact Below.refl _ _) | (with_reducible assumption) | (with_reducible refine Below.setCell ?_ (by first | omega | (simp <;> omega)) _) | (with_reducible refine Below.alloc ?_ (by first | omega | (simp <;> omega)) _) | (with_reducible refine Below.drew ?_) | (with_reducible refine below_drewN ?_ _) | (with_reducible refine Below.trans ?_ (Below.mono (by with_reducible assumption) (by first | omega | (simp <;> omega)))))))).mono ?_); rintro e wb1 ⟨rfl, b1⟩; have zb1 : wr.heap.size ≤ wb1.heap.size := (by have hzz := Below.size b1; exact hzz); have rz1 := (ry.drewN _).below b1 (by show _ < wr.heap.size; omega); have hb1 : Below w.heap.size w wb1 := (by (repeat (first | (with_reducible exact Below.refl _ _) | (with_reducible assumption) | (with_reducible refine Below.setCell ?_ (by first | omega | (simp <;> omega)) _) | (with_reducible refine Below.alloc ?_ (by first | omega | (simp <;> omega)) _) | (with_reducible refine Below.drew ?_) | (with_reducible refine below_drewN ?_ _) | (with_reducible refine Below.trans ?_ (Below.mono (by with_reducible assumption) (by first | omega | (simp <;> omega)))))))) | (go_at_call 45; (with_reducible refine (conAny_sign _ clear3 tx htx _).mono ?_); rintro e wb2 ⟨⟨B, rfl, hq⟩, b2⟩; have rz2 := (Row.alloc rz1 (.cells #[.int .i64 9, .string tx, .int .i64 (i : Int), .int .i64 ((i : Int) + 3)] 29)).below b2 (by simp; omega); have rt2 := (row_new (w := wb1) (t := 29) (cs := #[.int .i64 9, .string tx, .int .i64 (i : Int), .int .i64 ((i : Int) + 3)]) rfl).below b2 (by simp); have zb2 := Below.size b2; simp at zb2; have hb2 : Below w.heap.size w wb2 := (by (repeat (first | (with_reducible exact Below.refl _ _) | (with_reducible assumption) | (with_reducible refine Below.setCell ?_ (by first | omega | (simp <;> omega)) _) | (with_reducible refine Below.alloc ?_ (by first | omega | (simp <;> omega)) _) | (with_reducible refine Below.drew ?_) | (with_reducible refine below_drewN ?_ _) | (with_reducible refine Below.trans ?_ (Below.mono (by with_reducible assumption) (by first | omega | (simp <;> omega))))))); have rg2 := Row.below hg hb2 lz; have zz2 := rg2.cell 2; have fzz2 := rg2.free 2; simp at zz2; have y0 := rz2.cell 0; have y1 := rz2.cell 1; have y2 := rz2.cell 2; have y3 := rz2.cell 3; have fy0 := rz2.free 0; have fy1 := rz2.free 1; have fy2 := rz2.free 2; have fy3 := rz2.free 3; have x0 := rt2.cell 0; have x1 := rt2.cell 1; have x2 := rt2.cell 2; have x3 := rt2.cell 3; have fx0 := rt2.free 0; have fx1 := rt2.free 1; have fx2 := rt2.free 2; have fx3 := rt2.free 3; simp at x0 x1 x2 x3; cases B) | (go_at_call 46; (with_reducible refine (con3 tx htx _ (hm.keep hb2) hq).mono ?_); rintro e wq ⟨rfl, hwq⟩; obtain rfl := hwq.symm; rw [decide_eq_false hin]))
          all_goals exact ⟨⟨1, 1, rfl, rfl, by omega, rz2, hb2, HS.out⟩, by simp [intOf]⟩
      · have f1 : ((s.size : Int) - (i : Int) < 3) = True := by simp; omega
        have HS := Lib.hid (HF.out.trans (signF_no (k := 0) (by omega) (fun e => hfit e.1)))
        go_wp2_with fail
        go_quiet (fail)
        go_wp2_with fail
        exact ⟨⟨1, 1, rfl, rfl, by omega, ry, hb.trans (below_drewN (Below.refl _ _) _), HS.out⟩, by simp [intOf]⟩
    · obtain rfl : q = 1 := by omega
      clear hq0
      by_cases hfit : i + 2 ≤ s.size
      · have f1 : ((s.size : Int) - (i : Int) < 2) = False := by simp; omega
        have HC := HC0.out 2 hfit
        have htx : (s.extract i (i + 2)).size ≤ 8 := by rw [ByteArray.size_extract]; omega
        unfold tokA at HC
        simp only [Int.natCast_add, Int.cast_ofNat_Int] at HC
        have HC := Lib.hid HC
        have hsz : (s.extract i (i + 2)).size = 2 := by rw [ByteArray.size_extract]; omega
        by_cases hin : (s.extract i (i + 2)).data.toList ∈ signs2
        · have HS : signAt s i = 2 := HF.out.trans (signF_yes (k := 1) (by omega) ⟨hfit, by rw [isSign_of (by omega) (by omega)]; exact decide_eq_true hin⟩)
          have HX : tokS s i = ⟨9, s.extract i (i + 2), i, i + 2⟩ := by rw [HT.out, HS]; rfl
          have HX := Lib.hid HX
          have HY : holesS s i holes = holes := by rw [HH.out, HS, if_neg (by omega), if_neg (by omega)]
          have HY := Lib.hid HY
          have q1 := text_ne (x := s.extract i (i + 2)) (b := 123) (fun e => by rw [e] at hsz; exact absurd hsz (by decide))
          have q2 := text_ne (x := s.extract i (i + 2)) (b := 125) (fun e => by rw [e] at hsz; exact absurd hsz (by decide))
          clear hsz HS
          generalize s.extract i (i + 2) = tx at *
          go_wp2_with fail
          go_quiet (fail)
          go_wp2_with (first | (go_at_call 42; (with_reducible refine (HC.out _ (by (repeat (first | (with_reducible exact Below.refl _ _) | (with_reducible assumption) | (with_reducible refine Below.setCell ?_ (by first | omega | (simp <;> omega)) _) | (with_reducible refine Below.alloc ?_ (by first | omega | (simp <;> omega)) _) | (with_reducible refine Below.drew ?_) | (with_reducible refine below_drewN ?_ _) | (with_reducible refine Below.trans ?_ (Below.mono (by with_reducible assumption) (by first | omega | (simp <;> omega)))))))).mono ?_); rintro e wb1 ⟨rfl, b1⟩; have zb1 : wr.heap.size ≤ wb1.heap.size := (by have hzz := Below.size b1; exact hzz); have rz1 := (ry.drewN _).below b1 (by show _ < wr.heap.size; omega); have hb1 : Below w.heap.size w wb1 := (by (repeat (first | (with_reducible exact Below.refl _ _) | (with_reducible assumption) | (with_reducible refine Below.setCell ?_ (by first | omega | (simp <;> omega)) _) | (with_reducible refine Below.alloc ?_ (by first | omega | (simp <;> omega)) _) | (with_reducible refine Below.drew ?_) | (with_reducible refine below_drewN ?_ _) | (with_reducible refine Below.trans ?_ (Below.mono (by with_reducible assumption) (by first | omega | (simp <;> omega)))))))) | (go_at_call 45; (with_reducible refine (conAny_sign _ clear2 tx htx _).mono ?_); rintro e wb2 ⟨⟨B, rfl, hq⟩, b2⟩; obtain rfl : B = false := hq.1 hin; have rz2 := (Row.alloc rz1 (.cells #[.int .i64 9, .string tx, .int .i64 (i : Int), .int .i64 ((i : Int) + 2)] 29)).below b2 (by simp; omega); have rt2 := (row_new (w := wb1) (t := 29) (cs := #[.int .i64 9, .string tx, .int .i64 (i : Int), .int .i64 ((i : Int) + 2)]) rfl).below b2 (by simp); have zb2 := Below.size b2; simp at zb2; have hb2 : Below w.heap.size w wb2 := (by (repeat (first | (with_reducible exact Below.refl _ _) | (with_reducible assumption) | (with_reducible refine Below.setCell ?_ (by first | omega | (simp <;> omega)) _) | (with_reducible refine Below.alloc ?_ (by first | omega | (simp <;> omega)) _) | (with_reducible refine Below.drew ?_) | (with_reducible refine below_drewN ?_ _) | (with_reducible refine Below.trans ?_ (Below.mono (by with_reducible assumption) (by first | omega | (simp <;> omega))))))); have rg2 := Row.below hg hb2 lz; have zz2 := rg2.cell 2; have fzz2 := rg2.free 2; simp at zz2; have y0 := rz2.cell 0; have y1 := rz2.cell 1; have y2 := rz2.cell 2; have y3 := rz2.cell 3; have fy0 := rz2.free 0; have fy1 := rz2.free 1; have fy2 := rz2.free 2; have fy3 := rz2.free 3; have x0 := rt2.cell 0; have x1 := rt2.cell 1; have x2 := rt2.cell 2; have x3 := rt2.cell 3; have fx0 := rt2.free 0; have fx1 := rt2.free 1; have fx2 := rt2.free 2; have fx3 := rt2.free 3; simp at x0 x1 x2 x3) | (go_at_call 46; (with_reducible refine (con2 tx htx _ (hm.keep hb2) hq).mono ?_); rintro e wq ⟨rfl, hwq⟩; obtain rfl := hwq.symm; rw [decide_eq_true hin]))
          exact bodyPost_ret (v := .agg (tokA ⟨9, tx, i, i + 2⟩)) (by simp [results, Tryd.results30, go_sem, tokA, *]) rfl ⟨by rw [HX.out], by rw [HY.out]; exact After.same hg HO.out (by (repeat (first | (with_reducible exact Below.refl _ _) | (with_reducible assumption) | (with_reducible refine Below.setCell ?_ (by first | omega | (simp <;> omega)) _) | (with_reducible refine Below.alloc ?_ (by first | omega | (simp <;> omega)) _) | (with_reducible refine Below.drew ?_) | (with_reducible refine below_drewN ?_ _) | (with_reducible refine Below.trans ?_ (Below.mono (by with_reducible assumption) (by first | omega | (simp <;> omega)))))))⟩
        · have HS := Lib.hid (HF.out.trans (signF_no (k := 1) (by omega) (fun e => hin (by have := e.2; rw [isSign_of (by omega) (by omega)] at this; exact of_decide_eq_true this))))
          clear hsz
          generalize s.extract i (i + 2) = tx at *
          go_wp2_with fail
          go_quiet (fail)
          go_wp2_with (first | (go_at_call 42; (with_reducible refine (HC.out _ (by (repeat (first | (with_reducible exact Below.refl _ _) | (with_reducible assumption) | (with_reducible refine Below.setCell ?_ (by first | omega | (simp <;> omega)) _) | (with_reducible refine Below.alloc ?_ (by first | omega | (simp <;> omega)) _) | (with_reducible refine Below.drew ?_) | (with_reducible refine below_drewN ?_ _) | (with_reducible refine Below.trans ?_ (Below.mono (by with_reducible assumption) (by first | omega | (simp <;> omega)))))))).mono ?_); rintro e wb1 ⟨rfl, b1⟩; have zb1 : wr.heap.size ≤ wb1.heap.size := (by have hzz := Below.size b1; exact hzz); have rz1 := (ry.drewN _).below b1 (by show _ < wr.heap.size; omega); have hb1 : Below w.heap.size w wb1 := (by (repeat (first | (with_reducible exact Below.refl _ _) | (with_reducible assumption) | (with_reducible refine Below.setCell ?_ (by first | omega | (simp <;> omega)) _) | (with_reducible refine Below.alloc ?_ (by first | omega | (simp <;> omega)) _) | (with_reducible refine Below.drew ?_) | (with_reducible refine below_drewN ?_ _) | (with_reducible refine Below.trans ?_ (Below.mono (by with_reducible assumption) (by first | omega | (simp <;> omega)))))))) | (go_at_call 45; (with_reducible refine (conAny_sign _ clear2 tx htx _).mono ?_); rintro e wb2 ⟨⟨B, rfl, hq⟩, b2⟩; have rz2 := (Row.alloc rz1 (.cells #[.int .i64 9, .string tx, .int .i64 (i : Int), .int .i64 ((i : Int) + 2)] 29)).below b2 (by simp; omega); have rt2 := (row_new (w := wb1) (t := 29) (cs := #[.int .i64 9, .string tx, .int .i64 (i : Int), .int .i64 ((i : Int) + 2)]) rfl).below b2 (by simp); have zb2 := Below.size b2; simp at zb2; have hb2 : Below w.heap.size w wb2 := (by (repeat (first | (with_reducible exact Below.refl _ _) | (with_reducible assumption) | (with_reducible refine Below.setCell ?_ (by first | omega | (simp <;> omega)) _) | (with_reducible refine Below.alloc ?_ (by first | omega | (simp <;> omega)) _) | (with_reducible refine Below.drew ?_) | (with_reducible refine below_drewN ?_ _) | (with_reducible refine Below.trans ?_ (Below.mono (by with_reducible assumption) (by first | omega | (simp <;> omega))))))); have rg2 := Row.below hg hb2 lz; have zz2 := rg2.cell 2; have fzz2 := rg2.free 2; simp at zz2; have y0 := rz2.cell 0; have y1 := rz2.cell 1; have y2 := rz2.cell 2; have y3 := rz2.cell 3; have fy0 := rz2.free 0; have fy1 := rz2.free 1; have fy2 := rz2.free 2; have fy3 := rz2.free 3; have x0 := rt2.cell 0; have x1 := rt2.cell 1; have x2 := rt2.cell 2; have x3 := rt2.cell 3; have fx0 := rt2.free 0; have fx1 := rt2.free 1; have fx2 := rt2.free 2; have fx3 := rt2.free 3; simp at x0 x1 x2 x3; cases B) | (go_at_call 46; (with_reducible refine (con2 tx htx _ (hm.keep hb2) hq).mono ?_); rintro e wq ⟨rfl, hwq⟩; obtain rfl := hwq.symm; rw [decide_eq_false hin]))
          all_goals exact ⟨⟨2, 2, rfl, rfl, by omega, rz2, hb2, HS.out⟩, by simp [intOf]⟩
      · have f1 : ((s.size : Int) - (i : Int) < 2) = True := by simp; omega
        have HS := Lib.hid (HF.out.trans (signF_no (k := 1) (by omega) (fun e => hfit e.1)))
        go_wp2_with fail
        go_quiet (fail)
        go_wp2_with fail
        exact ⟨⟨2, 2, rfl, rfl, by omega, ry, hb.trans (below_drewN (Below.refl _ _) _), HS.out⟩, by simp [intOf]⟩
    · obtain rfl : q = 2 := by omega
      clear hq0
      by_cases hfit : i + 1 ≤ s.size
      · have f1 : ((s.size : Int) - (i : Int) < 1) = False := by simp; omega
        have HC := HC0.out 1 hfit
        have htx : (s.extract i (i + 1)).size ≤ 8 := by rw [ByteArray.size_extract]; omega
        unfold tokA at HC
        simp only [Int.natCast_add, Int.cast_ofNat_Int] at HC
        have HC := Lib.hid HC
        have hsz : (s.extract i (i + 1)).size = 1 := by rw [ByteArray.size_extract]; omega
        by_cases hin : (s.extract i (i + 1)).data.toList ∈ signs1
        · have HS : signAt s i = 1 := HF.out.trans (signF_yes (k := 2) (by omega) ⟨hfit, by rw [isSign_of (by omega) (by omega)]; exact decide_eq_true hin⟩)
          have HX : tokS s i = ⟨9, s.extract i (i + 1), i, i + 1⟩ := by rw [HT.out, HS]; rfl
          have HX := Lib.hid HX
          clear hsz
          by_cases h123 : bt s i = 123
          · have e1 : s.extract i (i + 1) = ⟨#[123]⟩ := (ext_one hi 123).2 h123
            have q1 : ((s.extract i (i + 1)).toList == [123]) = true := by rw [Lib.toList_data, e1]; rfl
            have HY := Lib.hid (show holesS s i holes = holes ++ [false] by rw [HH.out, HS, if_pos ⟨rfl, h123⟩])
            clear HS e1 h123
            generalize s.extract i (i + 1) = tx at *
            obtain ⟨i0, hif, hz0, hz1, hz2⟩ := info_parts infoBool
            go_wp2_with fail
            go_quiet (fail)
            go_wp2_with (first | (go_at_call 42; (with_reducible refine (HC.out _ (by (repeat (first | (with_reducible exact Below.refl _ _) | (with_reducible assumption) | (with_reducible refine Below.setCell ?_ (by first | omega | (simp <;> omega)) _) | (with_reducible refine Below.alloc ?_ (by first | omega | (simp <;> omega)) _) | (with_reducible refine Below.drew ?_) | (with_reducible refine below_drewN ?_ _) | (with_reducible refine Below.trans ?_ (Below.mono (by with_reducible assumption) (by first | omega | (simp <;> omega)))))))).mono ?_); rintro e wb1 ⟨rfl, b1⟩; have zb1 : wr.heap.size ≤ wb1.heap.size := (by have hzz := Below.size b1; exact hzz); have rz1 := (ry.drewN _).below b1 (by show _ < wr.heap.size; omega); have hb1 : Below w.heap.size w wb1 := (by (repeat (first | (with_reducible exact Below.refl _ _) | (with_reducible assumption) | (with_reducible refine Below.setCell ?_ (by first | omega | (simp <;> omega)) _) | (with_reducible refine Below.alloc ?_ (by first | omega | (simp <;> omega)) _) | (with_reducible refine Below.drew ?_) | (with_reducible refine below_drewN ?_ _) | (with_reducible refine Below.trans ?_ (Below.mono (by with_reducible assumption) (by first | omega | (simp <;> omega)))))))) | (go_at_call 45; (with_reducible refine (conAny_sign _ clear1 tx htx _).mono ?_); rintro e wb2 ⟨⟨B, rfl, hq⟩, b2⟩; obtain rfl : B = false := hq.1 hin; have rz2 := (Row.alloc rz1 (.cells #[.int .i64 9, .string tx, .int .i64 (i : Int), .int .i64 ((i : Int) + 1)] 29)).below b2 (by simp; omega); have rt2 := (row_new (w := wb1) (t := 29) (cs := #[.int .i64 9, .string tx, .int .i64 (i : Int), .int .i64 ((i : Int) + 1)]) rfl).below b2 (by simp); have zb2 := Below.size b2; simp at zb2; have hb2 : Below w.heap.size w wb2 := (by (repeat (first | (with_reducible exact Below.refl _ _) | (with_reducible assumption) | (with_reducible refine Below.setCell ?_ (by first | omega | (simp <;> omega)) _) | (with_reducible refine Below.alloc ?_ (by first | omega | (simp <;> omega)) _) | (with_reducible refine Below.drew ?_) | (with_reducible refine below_drewN ?_ _) | (with_reducible refine Below.trans ?_ (Below.mono (by with_reducible assumption) (by first | omega | (simp <;> omega))))))); have rg2 := Row.below hg hb2 lz; have zz2 := rg2.cell 2; have fzz2 := rg2.free 2; simp at zz2; have y0 := rz2.cell 0; have y1 := rz2.cell 1; have y2 := rz2.cell 2; have y3 := rz2.cell 3; have fy0 := rz2.free 0; have fy1 := rz2.free 1; have fy2 := rz2.free 2; have fy3 := rz2.free 3; have x0 := rt2.cell 0; have x1 := rt2.cell 1; have x2 := rt2.cell 2; have x3 := rt2.cell 3; have fx0 := rt2.free 0; have fx1 := rt2.free 1; have fx2 := rt2.free 2; have fx3 := rt2.free 3; simp at x0 x1 x2 x3) | (go_at_call 46; (with_reducible refine (con1 tx htx _ (hm.keep hb2) hq).mono ?_); rintro e wq ⟨rfl, hwq⟩; obtain rfl := hwq.symm; rw [decide_eq_true hin]) | (at_builtin; refine wpList_append_rd _ rfl (.tmp 56) (.tmp 57) _ rfl (g + 1) 4 i0 _ 1 Tryd.underlying61 hif hz0 hz1 hz2 rfl _ _ _ rfl ((own_below HO.out hb2).alloc _) _ _ 1 1 _ rfl (rd_one wb2 4 (.bool false)) (fun _ => rfl) (by simp only [maxLen]; omega) (by omega) (by simp; omega) ?_; intro v2 w2 hown2 hg2 hob; obtain ⟨A3, c3, hv3, hc3, _⟩ := rd_own hown2; subst hv3; have hge := own_ge HO.out; have hlt := own_lt HO.out; have rg3 := row_grown (Row.alloc (Row.below hg hb2 lz) _) hg2 (fun e => by have := hge _ e; omega); have rt3 := row_grown (Row.alloc rt2 _) hg2 (fun e => by have := hlt _ e; omega); have rz3 := row_grown (Row.alloc rz2 _) hg2 (fun e => by have := hlt _ e; omega); have hkp : Kept g (Value.slice A2 holes.length c2).ownBlock w w2 := Kept.grown (Kept.of_below (hb2.alloc (by omega) _)) hg2 (.inl rfl); have hblk : ∀ b, (Value.slice A3 (holes.length + 1) c3).ownBlock = some b → b ≠ w.heap.size := (fun b e => by rcases hob with q | q; exact Nat.ne_of_lt (hlt b (q ▸ e)); (rw [q] at e; injection e with e; simp at e; omega)); have u0 := rg3.free 2; have rt4 := rt3.far (p := ⟨g, 2, none⟩) (by simp; omega) (.slice A3 (holes.length + 1) c3); have rz4 := rz3.far (p := ⟨g, 2, none⟩) (by simp; omega) (.slice A3 (holes.length + 1) c3); have s0 := rt4.cell 0; have s1 := rt4.cell 1; have s2 := rt4.cell 2; have s3 := rt4.cell 3; have r0 := rz4.cell 0; have r1 := rz4.cell 1; have r2 := rz4.cell 2; have r3 := rz4.cell 3; have fr0 := rz4.free 0; have fr1 := rz4.free 1; have fr2 := rz4.free 2; have fr3 := rz4.free 3; have rl := rz4.lt; have cg2 := rg3.cell 2; simp at s0 s1 s2 s3 cg2))
            refine bodyPost_ret (v := .agg (tokA ⟨9, tx, i, i + 1⟩)) (by simp [results, Tryd.results30, go_sem, tokA, *]) rfl ⟨by rw [HX.out], ?_⟩
            rw [HY.out]
            refine ⟨.slice A3 (holes.length + 1) c3, ?_, ?_, ?_, ?_⟩
            · have rg5 := Scn.open rg3 (.slice A3 (holes.length + 1) c3)
              unfold Scn at rg5 ⊢
              repeat (first | with_reducible exact rg5 | with_reducible refine Row.far ?_ (by simp; omega) _)
            · rw [List.length_append, List.map_append]
              have hown4 : w2.ownsRow (g + 1) 4 1 (.slice A3 (holes.length + 1) c3) (holes.length + [false].length) (holes.map .bool ++ [false].map .bool) := hown2
              have hb1 : (Value.slice A3 (holes.length + 1) c3).ownBlock ≠ some w.heap.size := fun e => hblk _ e rfl
              have hb0 : (Value.slice A3 (holes.length + 1) c3).ownBlock ≠ some g := fun e => by have := own_ge hown2 _ e; omega
              repeat (first | with_reducible exact hown4 | with_reducible refine ownsRow_setCell_other ?_ hb1 _ | with_reducible refine ownsRow_setCell_other ?_ hb0 _)
            · repeat (first | with_reducible exact Kept.set hkp rfl _ | with_reducible refine Kept.setNew ?_ (by simp) _)
            · rcases hob with e | e
              · exact .inl e
              · refine .inr fun b hb => ?_
                rw [e] at hb
                injection hb with hb
                simp at hb
                omega
          · have q1 : ((s.extract i (i + 1)).toList == [123]) = false := text_ne fun e => h123 ((ext_one hi 123).1 e)
            by_cases h125 : bt s i = 125
            · have e1 : s.extract i (i + 1) = ⟨#[125]⟩ := (ext_one hi 125).2 h125
              have q2 : ((s.extract i (i + 1)).toList == [125]) = true := by rw [Lib.toList_data, e1]; rfl
              have HY := Lib.hid (show holesS s i holes = holes.dropLast by rw [HH.out, HS, if_neg (by omega), if_pos ⟨rfl, h125⟩])
              clear HS e1 h123 h125
              generalize s.extract i (i + 1) = tx at *
              have hown := HO.out
              obtain ⟨m, hm1, hm2⟩ : ∃ m : Nat, m = holes.length - 1 ∧ m ≤ holes.length := ⟨_, rfl, by omega⟩
              go_wp2_with fail
              go_quiet (fail)
              go_wp2_with (first | (go_at_call 42; (with_reducible refine (HC.out _ (by (repeat (first | (with_reducible exact Below.refl _ _) | (with_reducible assumption) | (with_reducible refine Below.setCell ?_ (by first | omega | (simp <;> omega)) _) | (with_reducible refine Below.alloc ?_ (by first | omega | (simp <;> omega)) _) | (with_reducible refine Below.drew ?_) | (with_reducible refine below_drewN ?_ _) | (with_reducible refine Below.trans ?_ (Below.mono (by with_reducible assumption) (by first | omega | (simp <;> omega)))))))).mono ?_); rintro e wb1 ⟨rfl, b1⟩; have zb1 : wr.heap.size ≤ wb1.heap.size := (by have hzz := Below.size b1; exact hzz); have rz1 := (ry.drewN _).below b1 (by show _ < wr.heap.size; omega); have hb1 : Below w.heap.size w wb1 := (by (repeat (first | (with_reducible exact Below.refl _ _) | (with_reducible assumption) | (with_reducible refine Below.setCell ?_ (by first | omega | (simp <;> omega)) _) | (with_reducible refine Below.alloc ?_ (by first | omega | (simp <;> omega)) _) | (with_reducible refine Below.drew ?_) | (with_reducible refine below_drewN ?_ _) | (with_reducible refine Below.trans ?_ (Below.mono (by with_reducible assumption) (by first | omega | (simp <;> omega)))))))) | (go_at_call 45; (with_reducible refine (conAny_sign _ clear1 tx htx _).mono ?_); rintro e wb2 ⟨⟨B, rfl, hq⟩, b2⟩; obtain rfl : B = false := hq.1 hin; have rz2 := (Row.alloc rz1 (.cells #[.int .i64 9, .string tx, .int .i64 (i : Int), .int .i64 ((i : Int) + 1)] 29)).below b2 (by simp; omega); have rt2 := (row_new (w := wb1) (t := 29) (cs := #[.int .i64 9, .string tx, .int .i64 (i : Int), .int .i64 ((i : Int) + 1)]) rfl).below b2 (by simp); have zb2 := Below.size b2; simp at zb2; have hb2 : Below w.heap.size w wb2 := (by (repeat (first | (with_reducible exact Below.refl _ _) | (with_reducible assumption) | (with_reducible refine Below.setCell ?_ (by first | omega | (simp <;> omega)) _) | (with_reducible refine Below.alloc ?_ (by first | omega | (simp <;> omega)) _) | (with_reducible refine Below.drew ?_) | (with_reducible refine below_drewN ?_ _) | (with_reducible refine Below.trans ?_ (Below.mono (by with_reducible assumption) (by first | omega | (simp <;> omega))))))); have rg2 := Row.below hg hb2 lz; have zz2 := rg2.cell 2; have fzz2 := rg2.free 2; simp at zz2; have y0 := rz2.cell 0; have y1 := rz2.cell 1; have y2 := rz2.cell 2; have y3 := rz2.cell 3; have fy0 := rz2.free 0; have fy1 := rz2.free 1; have fy2 := rz2.free 2; have fy3 := rz2.free 3; have x0 := rt2.cell 0; have x1 := rt2.cell 1; have x2 := rt2.cell 2; have x3 := rt2.cell 3; have fx0 := rt2.free 0; have fx1 := rt2.free 1; have fx2 := rt2.free 2; have fx3 := rt2.free 3; simp at x0 x1 x2 x3) | (go_at_call 46; (with_reducible refine (con1 tx htx _ (hm.keep hb2) hq).mono ?_); rintro e wq ⟨rfl, hwq⟩; obtain rfl := hwq.symm; rw [decide_eq_true hin]))
              refine wp_region_still_tail 15 (by kernel_rfl) (by kernel_rfl) ?_
              simp only [List.take_succ_cons, List.take_zero, List.drop_succ_cons, List.drop_zero]
              obtain ⟨wd, hwd⟩ : ∃ wd : World, wd = { wb2 with drawn := wb2.drawn + 1 } := ⟨_, rfl⟩
              rw [← hwd]
              replace hb2 : Below w.heap.size w wd := by rw [hwd]; exact hb2.drew
              replace rz2 : Row wd w.heap.size 29 #[.int .i64 0, .string ⟨#[]⟩, .int .i64 0, .int .i64 0] := by rw [hwd]; exact rz2
              replace rt2 : Row wd wb1.heap.size 29 #[.int .i64 9, .string tx, .int .i64 (i : Int), .int .i64 ((i : Int) + 1)] := by rw [hwd]; exact rt2
              clear hwd zz2 fzz2 y0 y1 y2 y3 fy0 fy1 fy2 fy3 x0 x1 x2 x3 fx0 fx1 fx2 fx3
              have rg3 := Row.below hg hb2 lz
              have zz2 := rg3.cell 2
              have fzz2 := rg3.free 2
              simp at zz2
              have hmx : max 0 (IntKind.i64.wrap ((holes.length : Int) - 1)) = (m : Int) := by rw [IntKind.wrap_i64]; omega
              have hmc : ((m : Int) ≤ (c2 : Int)) = True := by simp; omega
              have hmc2 : (m ≤ c2) = True := by simp; omega
              have HM1 := Lib.hid hm1
              clear hm1
              repeat still_step
              refine wpStill_nil ?_
              have rt4 := rt2.far (p := ⟨g, 2, none⟩) (by simp; omega) (.slice A2 m c2)
              have rz4 := rz2.far (p := ⟨g, 2, none⟩) (by simp; omega) (.slice A2 m c2)
              have s0 := rt4.cell 0
              have s1 := rt4.cell 1
              have s2 := rt4.cell 2
              have s3 := rt4.cell 3
              have r0 := rz4.cell 0
              have r1 := rz4.cell 1
              have r2 := rz4.cell 2
              have r3 := rz4.cell 3
              have fr0 := rz4.free 0
              have fr1 := rz4.free 1
              have fr2 := rz4.free 2
              have fr3 := rz4.free 3
              have rl := rz4.lt
              simp at s0 s1 s2 s3
              go_wp2
              refine bodyPost_ret (v := .agg (tokA ⟨9, tx, i, i + 1⟩)) (by simp [results, Tryd.results30, go_sem, tokA, *]) rfl ⟨by rw [HX.out], ?_⟩
              rw [HY.out]
              have how := own_drop (own_below HO.out hb2) HM1.out
              have hge := own_ge how
              have hlt := own_lt (own_drop HO.out HM1.out)
              have hb1 : (Value.slice A2 m c2).ownBlock ≠ some w.heap.size := fun e => by have := hlt _ e; omega
              have hb0 : (Value.slice A2 m c2).ownBlock ≠ some g := fun e => by have := hge _ e; omega
              have rg5 := Scn.open rg3 (.slice A2 m c2)
              unfold Scn at rg5
              refine ⟨.slice A2 m c2, ?_, ?_, ?_, .inl (ob_len _ _ _ _)⟩
              · unfold Scn
                repeat (first | with_reducible exact rg5 | with_reducible refine Row.far ?_ (by simp; omega) _)
              · repeat (first | with_reducible exact how | with_reducible refine ownsRow_setCell_other ?_ hb1 _ | with_reducible refine ownsRow_setCell_other ?_ hb0 _)
              · have hkp : Kept g (Value.slice A2 holes.length c2).ownBlock w wd := Kept.of_below hb2
                repeat (first | with_reducible exact Kept.set hkp rfl _ | with_reducible refine Kept.setNew ?_ (by simp) _)
            · have q2 : ((s.extract i (i + 1)).toList == [125]) = false := text_ne fun e => h125 ((ext_one hi 125).1 e)
              have HY := Lib.hid (show holesS s i holes = holes by rw [HH.out, if_neg (fun e => h123 e.2), if_neg (fun e => h125 e.2)])
              clear HS h123 h125
              generalize s.extract i (i + 1) = tx at *
              go_wp2_with fail
              go_quiet (fail)
              go_wp2_with (first | (go_at_call 42; (with_reducible refine (HC.out _ (by (repeat (first | (with_reducible exact Below.refl _ _) | (with_reducible assumption) | (with_reducible refine Below.setCell ?_ (by first | omega | (simp <;> omega)) _) | (with_reducible refine Below.alloc ?_ (by first | omega | (simp <;> omega)) _) | (with_reducible refine Below.drew ?_) | (with_reducible refine below_drewN ?_ _) | (with_reducible refine Below.trans ?_ (Below.mono (by with_reducible assumption) (by first | omega | (simp <;> omega)))))))).mono ?_); rintro e wb1 ⟨rfl, b1⟩; have zb1 : wr.heap.size ≤ wb1.heap.size := (by have hzz := Below.size b1; exact hzz); have rz1 := (ry.drewN _).below b1 (by show _ < wr.heap.size; omega); have hb1 : Below w.heap.size w wb1 := (by (repeat (first | (with_reducible exact Below.refl _ _) | (with_reducible assumption) | (with_reducible refine Below.setCell ?_ (by first | omega | (simp <;> omega)) _) | (with_reducible refine Below.alloc ?_ (by first | omega | (simp <;> omega)) _) | (with_reducible refine Below.drew ?_) | (with_reducible refine below_drewN ?_ _) | (with_reducible refine Below.trans ?_ (Below.mono (by with_reducible assumption) (by first | omega | (simp <;> omega)))))))) | (go_at_call 45; (with_reducible refine (conAny_sign _ clear1 tx htx _).mono ?_); rintro e wb2 ⟨⟨B, rfl, hq⟩, b2⟩; obtain rfl : B = false := hq.1 hin; have rz2 := (Row.alloc rz1 (.cells #[.int .i64 9, .string tx, .int .i64 (i : Int), .int .i64 ((i : Int) + 1)] 29)).below b2 (by simp; omega); have rt2 := (row_new (w := wb1) (t := 29) (cs := #[.int .i64 9, .string tx, .int .i64 (i : Int), .int .i64 ((i : Int) + 1)]) rfl).below b2 (by simp); have zb2 := Below.size b2; simp at zb2; have hb2 : Below w.heap.size w wb2 := (by (repeat (first | (with_reducible exact Below.refl _ _) | (with_reducible assumption) | (with_reducible refine Below.setCell ?_ (by first | omega | (simp <;> omega)) _) | (with_reducible refine Below.alloc ?_ (by first | omega | (simp <;> omega)) _) | (with_reducible refine Below.drew ?_) | (with_reducible refine below_drewN ?_ _) | (with_reducible refine Below.trans ?_ (Below.mono (by with_reducible assumption) (by first | omega | (simp <;> omega))))))); have rg2 := Row.below hg hb2 lz; have zz2 := rg2.cell 2; have fzz2 := rg2.free 2; simp at zz2; have y0 := rz2.cell 0; have y1 := rz2.cell 1; have y2 := rz2.cell 2; have y3 := rz2.cell 3; have fy0 := rz2.free 0; have fy1 := rz2.free 1; have fy2 := rz2.free 2; have fy3 := rz2.free 3; have x0 := rt2.cell 0; have x1 := rt2.cell 1; have x2 := rt2.cell 2; have x3 := rt2.cell 3; have fx0 := rt2.free 0; have fx1 := rt2.free 1; have fx2 := rt2.free 2; have fx3 := rt2.free 3; simp at x0 x1 x2 x3) | (go_at_call 46; (with_reducible refine (con1 tx htx _ (hm.keep hb2) hq).mono ?_); rintro e wq ⟨rfl, hwq⟩; obtain rfl := hwq.symm; rw [decide_eq_true hin]))
              exact bodyPost_ret (v := .agg (tokA ⟨9, tx, i, i + 1⟩)) (by simp [results, Tryd.results30, go_sem, tokA, *]) rfl ⟨by rw [HX.out], by rw [HY.out]; exact After.same hg HO.out (by (repeat (first | (with_reducible exact Below.refl _ _) | (with_reducible assumption) | (with_reducible refine Below.setCell ?_ (by first | omega | (simp <;> omega)) _) | (with_reducible refine Below.alloc ?_ (by first | omega | (simp <;> omega)) _) | (with_reducible refine Below.drew ?_) | (with_reducible refine below_drewN ?_ _) | (with_reducible refine Below.trans ?_ (Below.mono (by with_reducible assumption) (by first | omega | (simp <;> omega)))))))⟩
        · have HS := Lib.hid (HF.out.trans (signF_no (k := 2) (by omega) (fun e => hin (by have := e.2; rw [isSign_of (by omega) (by omega)] at this; exact of_decide_eq_true this))))
          clear hsz
          generalize s.extract i (i + 1) = tx at *
          go_wp2_with fail
          go_quiet (fail)
          go_wp2_with (first | (go_at_call 42; (with_reducible refine (HC.out _ (by (repeat (first | (with_reducible exact Below.refl _ _) | (with_reducible assumption) | (with_reducible refine Below.setCell ?_ (by first | omega | (simp <;> omega)) _) | (with_reducible refine Below.alloc ?_ (by first | omega | (simp <;> omega)) _) | (with_reducible refine Below.drew ?_) | (with_reducible refine below_drewN ?_ _) | (with_reducible refine Below.trans ?_ (Below.mono (by with_reducible assumption) (by first | omega | (simp <;> omega)))))))).mono ?_); rintro e wb1 ⟨rfl, b1⟩; have zb1 : wr.heap.size ≤ wb1.heap.size := (by have hzz := Below.size b1; exact hzz); have rz1 := (ry.drewN _).below b1 (by show _ < wr.heap.size; omega); have hb1 : Below w.heap.size w wb1 := (by (repeat (first | (with_reducible exact Below.refl _ _) | (with_reducible assumption) | (with_reducible refine Below.setCell ?_ (by first | omega | (simp <;> omega)) _) | (with_reducible refine Below.alloc ?_ (by first | omega | (simp <;> omega)) _) | (with_reducible refine Below.drew ?_) | (with_reducible refine below_drewN ?_ _) | (with_reducible refine Below.trans ?_ (Below.mono (by with_reducible assumption) (by first | omega | (simp <;> omega)))))))) | (go_at_call 45; (with_reducible refine (conAny_sign _ clear1 tx htx _).mono ?_); rintro e wb2 ⟨⟨B, rfl, hq⟩, b2⟩; have rz2 := (Row.alloc rz1 (.cells #[.int .i64 9, .string tx, .int .i64 (i : Int), .int .i64 ((i : Int) + 1)] 29)).below b2 (by simp; omega); have rt2 := (row_new (w := wb1) (t := 29) (cs := #[.int .i64 9, .string tx, .int .i64 (i : Int), .int .i64 ((i : Int) + 1)]) rfl).below b2 (by simp); have zb2 := Below.size b2; simp at zb2; have hb2 : Below w.heap.size w wb2 := (by (repeat (first | (with_reducible exact Below.refl _ _) | (with_reducible assumption) | (with_reducible refine Below.setCell ?_ (by first | omega | (simp <;> omega)) _) | (with_reducible refine Below.alloc ?_ (by first | omega | (simp <;> omega)) _) | (with_reducible refine Below.drew ?_) | (with_reducible refine below_drewN ?_ _) | (with_reducible refine Below.trans ?_ (Below.mono (by with_reducible assumption) (by first | omega | (simp <;> omega))))))); have rg2 := Row.below hg hb2 lz; have zz2 := rg2.cell 2; have fzz2 := rg2.free 2; simp at zz2; have y0 := rz2.cell 0; have y1 := rz2.cell 1; have y2 := rz2.cell 2; have y3 := rz2.cell 3; have fy0 := rz2.free 0; have fy1 := rz2.free 1; have fy2 := rz2.free 2; have fy3 := rz2.free 3; have x0 := rt2.cell 0; have x1 := rt2.cell 1; have x2 := rt2.cell 2; have x3 := rt2.cell 3; have fx0 := rt2.free 0; have fx1 := rt2.free 1; have fx2 := rt2.free 2; have fx3 := rt2.free 3; simp at x0 x1 x2 x3; cases B) | (go_at_call 46; (with_reducible refine (con1 tx htx _ (hm.keep hb2) hq).mono ?_); rintro e wq ⟨rfl, hwq⟩; obtain rfl := hwq.symm; rw [decide_eq_false hin]))
          all_goals exact ⟨⟨3, 3, rfl, rfl, by omega, rz2, hb2, HS.out⟩, by simp [intOf]⟩
      · omega
    · obtain rfl : q = 3 := by omega
      clear hq0
      have HX : tokS s i = tokZ := by rw [HT.out, HF.out]; rfl
      have HS : signAt s i = 0 := HF.out
      have HY : holesS s i holes = holes := by rw [HH.out, HS, if_neg (by omega), if_neg (by omega)]
      have HX := Lib.hid HX
      have HY := Lib.hid HY
      clear HS
      go_wp2_with fail
      exact bodyPost_ret (v := .agg (tokA tokZ)) (by simp [results, Tryd.results30, go_sem, tokA, tokZ, *]) rfl ⟨by rw [HX.out], by rw [HY.out]; exact After.same hg HO.out (by (repeat (first | (with_reducible exact Below.refl _ _) | (with_reducible assumption) | (with_reducible refine Below.setCell ?_ (by first | omega | (simp <;> omega)) _) | (with_reducible refine Below.alloc ?_ (by first | omega | (simp <;> omega)) _) | (with_reducible refine Below.drew ?_) | (with_reducible refine below_drewN ?_ _) | (with_reducible refine Below.trans ?_ (Below.mono (by with_reducible assumption) (by first | omega | (simp <;> omega)))))))⟩
end Go.Proofs.YtdlppdoankeilaaDoor
