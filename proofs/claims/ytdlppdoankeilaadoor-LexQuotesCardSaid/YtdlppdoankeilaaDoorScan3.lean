/- The walks of chapter 2's scanner: number. -/
import Derived.Test.YtdlppdoankeilaaDoorScan2
import Derived.IntWalk
namespace Go.Proofs.YtdlppdoankeilaaDoor
set_option linter.unusedVariables false
set_option linter.unusedSimpArgs false
set_option linter.unnecessarySimpa false
open Go.RowKit
attribute [local go_sem] cell_alloc_add cell_set_add lt_more
def tokZ : Tok := ⟨0, ⟨#[]⟩, 0, 0⟩
/-- The number that begins here (kind 0: none). -/
def tokN (s : ByteArray) (i : Nat) : Tok := if numOk s i = true then ⟨3, s.extract i (digEnd s i), i, digEnd s i⟩ else tokZ
theorem tokN_no {s : ByteArray} {i : Nat} (h : numOk s i = false) : tokN s i = tokZ := by unfold tokN; rw [h]; rfl
theorem digVal_le (s : ByteArray) : ∀ (i v : Nat), v ≤ 9007199254740992 → digVal s i v ≤ 9007199254740992 := by
  have : ∀ (n i v : Nat), s.size - i ≤ n → v ≤ 9007199254740992 → digVal s i v ≤ 9007199254740992 := by
    intro n
    induction n with
    | zero => intro i v h hv; rw [digVal_stop (by omega)]; exact hv
    | succ n ih =>
      intro i v h hv
      by_cases c : i < s.size ∧ digitB (bt s i) = true
      · rw [digVal_go c.1 c.2]; exact ih (i + 1) _ (by omega) (by omega)
      · rw [digVal_stop c]; exact hv
  exact fun i v hv => this _ i v (Nat.le_refl _) hv
set_option maxRecDepth 100000 in
set_option maxHeartbeats 8000000 in
theorem number_any (s : ByteArray) (A : Option Addr) (c : Nat) (hs : s.size ≤ 4000000) (hcap : s.size ≤ c) (w : World) (h : Rd w w.heap.size A s.size (byteC s)) (g i : Nat) (hv : Value) (hg : Scn w g A s.size c i hv) (hi : i < s.size) : Calls Tryd.prog 27 #[.pointer (some ⟨g, 0, none⟩)] w fun e w' => e = .returned (.agg (tokA (tokN s i))) ∧ Below w.heap.size w w' := by
  have hE := digEnd_bd s _ i (Nat.le_refl _) (by omega)
  have HN := Lib.hid h
  obtain ⟨ad, rfl, hadB, ci⟩ := h i hi
  unfold byteC at ci
  have lz := hg.lt
  have z0 := hg.cell 0
  have z1 := hg.cell 1
  have fz0 := hg.free 0
  have fz1 := hg.free 1
  simp at z0 z1
  go_enter Tryd.func27, Tryd.ntmps27
  go_upto_block 0 with (fail)
  obtain ⟨wo, hwo⟩ : ∃ wo : World, wo = w.alloc (.cells #[.int .i64 0, .string ⟨#[]⟩, .int .i64 0, .int .i64 0] 29) := ⟨_, rfl⟩
  rw [← hwo]
  have rz : Row wo w.heap.size 29 #[.int .i64 0, .string ⟨#[]⟩, .int .i64 0, .int .i64 0] := by rw [hwo]; exact row_new rfl
  have hbr : Below w.heap.size w wo := by rw [hwo]; (repeat (first | (with_reducible exact Below.refl _ _) | (with_reducible assumption) | (with_reducible refine Below.setCell ?_ (by first | omega | (simp <;> omega)) _) | (with_reducible refine Below.alloc ?_ (by first | omega | (simp <;> omega)) _) | (with_reducible refine Below.drew ?_) | (with_reducible refine below_drewN ?_ _) | (with_reducible refine Below.trans ?_ (Below.mono (by with_reducible assumption) (by first | omega | (simp <;> omega))))))
  have hzo : wo.heap.size = w.heap.size + 1 := by rw [hwo]; simp
  clear hwo z0 z1 fz0 fz1
  have rg := Row.below hg hbr lz
  have z0 := rg.cell 0
  have z1 := rg.cell 1
  have fz0 := rg.free 0
  have fz1 := rg.free 1
  simp at z0 z1
  have di := (hbr.cell (p := ad.add i) (by rw [block_add]; omega)).trans ci
  clear ci
  go_cut [3, 4] (fun a v wx => a = .int .i64 (digEnd s i : Nat) ∧ v = .int .i64 (digVal s i 0 : Nat) ∧ wx = wo)
  case first =>
    go_wp2_with fail
    go_loop [3, 4] (fun a b => ∃ (j v : Nat), i ≤ j ∧ j ≤ s.size ∧ a = .int .i64 j ∧ b = .int .i64 v ∧ v ≤ 9007199254740992 ∧ digEnd s i = digEnd s j ∧ digVal s i 0 = digVal s j v) (fun a _ => s.size - (intOf a).toNat)
    case atStart => exact ⟨i, 0, Nat.le_refl _, by omega, rfl, rfl, by omega, rfl, rfl⟩
    case round =>
      obtain ⟨j, v, hij, hj, rfl, rfl, hv9, he, hvv⟩ := hrel
      have HE := Lib.hid he
      have HV := Lib.hid hvv
      clear he hvv
      by_cases hjs : j < s.size
      · obtain ⟨ad2, e2, _, c1⟩ := HN.out j hjs
        obtain rfl : ad = ad2 := by injection e2
        clear e2
        unfold byteC at c1
        have d1 := (hbr.cell (p := ad.add j) (by rw [block_add]; omega)).trans c1
        clear c1
        have HB := Lib.hid (Digit_any (bt s j))
        cases hb : digitB (bt s j)
        · have HX := Lib.hid (digEnd_stop (s := s) (i := j) (by rw [hb]; simp))
          have HY := Lib.hid (digVal_stop (s := s) (i := j) (v := v) (by rw [hb]; simp))
          rw [hb] at HB
          clear hb
          go_wp2_with (go_at_call 26; (with_reducible refine (HB.out _).mono ?_); rintro e w1 ⟨rfl, rfl⟩)
          go_meet
          exact ⟨by rw [HE.out, HX.out], by rw [HV.out, HY.out], rfl⟩
        · have HX := Lib.hid (digEnd_go hjs hb)
          have HY := Lib.hid (digVal_go (v := v) hjs hb)
          have hlo : 48 ≤ bt s j ∧ bt s j ≤ 57 := by simpa [digitB] using hb
          obtain ⟨hlo, hhi⟩ := hlo
          rw [hb] at HB
          clear hb
          generalize bt s j = x at *
          go_wp2_with (go_at_call 26; (with_reducible refine (HB.out _).mono ?_); rintro e w1 ⟨rfl, rfl⟩)
          exact ⟨⟨j + 1, min (v * 10 + (x - 48)) 9007199254740992, by omega, by omega, by go_num, by congr 1; omega, by omega, by rw [HE.out, HX.out], by rw [HV.out, HY.out]⟩, by simp [intOf]; omega⟩
      · have HX := Lib.hid (digEnd_stop (s := s) (i := j) (by omega))
        have HY := Lib.hid (digVal_stop (s := s) (i := j) (v := v) (by omega))
        go_wp2
        go_meet
        exact ⟨by rw [HE.out, HX.out], by rw [HV.out, HY.out], rfl⟩
  case rest =>
    obtain ⟨rfl, rfl, rfl⟩ := hcut
    have HT := Lib.hid (show tokN s i = if numOk s i = true then ⟨3, s.extract i (digEnd s i), i, digEnd s i⟩ else tokZ from rfl)
    have hok : numOk s i = (decide (digVal s i 0 ≤ 9007199254740991) && !(decide (bt s i = 48) && decide (i + 1 < digEnd s i)) && !(decide (digEnd s i < s.size) && letterB (bt s (digEnd s i)))) := rfl
    have hV := digVal_le s i 0 (by omega)
    generalize digVal s i 0 = V at *
    generalize digEnd s i = E at *
    have y0 := rz.cell 0
    have y1 := rz.cell 1
    have y2 := rz.cell 2
    have y3 := rz.cell 3
    have fy0 := rz.free 0
    have fy1 := rz.free 1
    have fy2 := rz.free 2
    have fy3 := rz.free 3
    have ly := rz.lt
    have hw : IntKind.i64.wrap ((i : Int) + 1) = (i : Int) + 1 := IntWalk.i64_in _ (by omega)
    by_cases h1 : V ≤ 9007199254740991
    · have e1 : ((V : Int) > 9007199254740991) = False := by simp; omega
      rw [show decide (V ≤ 9007199254740991) = true from decide_eq_true h1, Bool.true_and] at hok
      by_cases h2 : bt s i = 48 ∧ i + 1 < E
      · have e2 : ((E : Int) > (i : Int) + 1) = True := by simp; omega
        rw [show decide (bt s i = 48) = true from decide_eq_true h2.1, show decide (i + 1 < E) = true from decide_eq_true h2.2] at hok
        simp only [Bool.and_self, Bool.not_true, Bool.false_and] at hok
        rw [hok] at HT
        clear hok
        rw [h2.1] at di
        go_wp2_with fail
        go_quiet (fail)
        go_wp2
        exact bodyPost_ret (v := .agg (tokA tokZ)) (by simp [results, Tryd.results27, go_sem, tokA, tokZ, *]) rfl ⟨by rw [HT.out]; rfl, (by (repeat (first | (with_reducible exact Below.refl _ _) | (with_reducible assumption) | (with_reducible refine Below.setCell ?_ (by first | omega | (simp <;> omega)) _) | (with_reducible refine Below.alloc ?_ (by first | omega | (simp <;> omega)) _) | (with_reducible refine Below.drew ?_) | (with_reducible refine below_drewN ?_ _) | (with_reducible refine Below.trans ?_ (Below.mono (by with_reducible assumption) (by first | omega | (simp <;> omega)))))))⟩
      · rw [show (decide (bt s i = 48) && decide (i + 1 < E)) = false by rw [← Bool.decide_and]; exact decide_eq_false h2, Bool.not_false, Bool.true_and] at hok
        have key : ∀ (b : Bool), (((bt s i : Int) == 48) = false ∨ (bt s i = 48 ∧ ((E : Int) > (i : Int) + 1) = False)) := fun _ => by
          by_cases h : bt s i = 48
          · exact .inr ⟨h, by simp; omega⟩
          · exact .inl (by simp; omega)
        by_cases h3 : E < s.size
        · obtain ⟨ad2, e2, _, c1⟩ := HN.out E h3
          obtain rfl : ad = ad2 := by injection e2
          clear e2
          unfold byteC at c1
          have d1 := (hbr.cell (p := ad.add E) (by rw [block_add]; omega)).trans c1
          clear c1
          rw [show decide (E < s.size) = true from decide_eq_true h3, Bool.true_and] at hok
          have HA := Lib.hid (Letter_any (bt s E))
          cases hl : letterB (bt s E)
          · rw [hl] at hok HA
            rw [hok] at HT
            clear hok hl
            have HC := Lib.hid (fun W (hb : Below w.heap.size w W) => cut_any s (some ad) c hs hcap W ((HN.out.below hb).more (Below.size hb)) g i hv (Row.below hg hb lz) hi 3 E hE.1 hE.2)
            unfold tokA at HC
            generalize s.extract i E = tx at *
            rcases key true with k1 | ⟨k1, k2⟩
            · go_wp2_with fail
              go_quiet (fail)
              go_wp2_with (first | (go_at_call 24; (with_reducible refine (HA.out _).mono ?_); rintro e w1 ⟨rfl, rfl⟩) | (go_at_call 42; (with_reducible refine (HC.out _ (by (repeat (first | (with_reducible exact Below.refl _ _) | (with_reducible assumption) | (with_reducible refine Below.setCell ?_ (by first | omega | (simp <;> omega)) _) | (with_reducible refine Below.alloc ?_ (by first | omega | (simp <;> omega)) _) | (with_reducible refine Below.drew ?_) | (with_reducible refine below_drewN ?_ _) | (with_reducible refine Below.trans ?_ (Below.mono (by with_reducible assumption) (by first | omega | (simp <;> omega)))))))).mono ?_); rintro e wb1 ⟨rfl, b1⟩; have zb1 := Below.size b1; have rzb := (rz.drewN _).below b1 (by show _ < wc.heap.size; omega); have y0 := rzb.cell 0; have y1 := rzb.cell 1; have y2 := rzb.cell 2; have y3 := rzb.cell 3; have fy0 := rzb.free 0; have fy1 := rzb.free 1; have fy2 := rzb.free 2; have fy3 := rzb.free 3))
              exact bodyPost_ret (v := .agg (tokA ⟨3, tx, i, E⟩)) (by simp [results, Tryd.results27, go_sem, tokA, tokZ, *]) rfl ⟨by rw [HT.out]; rfl, (by (repeat (first | (with_reducible exact Below.refl _ _) | (with_reducible assumption) | (with_reducible refine Below.setCell ?_ (by first | omega | (simp <;> omega)) _) | (with_reducible refine Below.alloc ?_ (by first | omega | (simp <;> omega)) _) | (with_reducible refine Below.drew ?_) | (with_reducible refine below_drewN ?_ _) | (with_reducible refine Below.trans ?_ (Below.mono (by with_reducible assumption) (by first | omega | (simp <;> omega)))))))⟩
            · rw [k1] at di
              go_wp2_with fail
              go_quiet (fail)
              go_wp2_with (first | (go_at_call 24; (with_reducible refine (HA.out _).mono ?_); rintro e w1 ⟨rfl, rfl⟩) | (go_at_call 42; (with_reducible refine (HC.out _ (by (repeat (first | (with_reducible exact Below.refl _ _) | (with_reducible assumption) | (with_reducible refine Below.setCell ?_ (by first | omega | (simp <;> omega)) _) | (with_reducible refine Below.alloc ?_ (by first | omega | (simp <;> omega)) _) | (with_reducible refine Below.drew ?_) | (with_reducible refine below_drewN ?_ _) | (with_reducible refine Below.trans ?_ (Below.mono (by with_reducible assumption) (by first | omega | (simp <;> omega)))))))).mono ?_); rintro e wb1 ⟨rfl, b1⟩; have zb1 := Below.size b1; have rzb := (rz.drewN _).below b1 (by show _ < wc.heap.size; omega); have y0 := rzb.cell 0; have y1 := rzb.cell 1; have y2 := rzb.cell 2; have y3 := rzb.cell 3; have fy0 := rzb.free 0; have fy1 := rzb.free 1; have fy2 := rzb.free 2; have fy3 := rzb.free 3))
              exact bodyPost_ret (v := .agg (tokA ⟨3, tx, i, E⟩)) (by simp [results, Tryd.results27, go_sem, tokA, tokZ, *]) rfl ⟨by rw [HT.out]; rfl, (by (repeat (first | (with_reducible exact Below.refl _ _) | (with_reducible assumption) | (with_reducible refine Below.setCell ?_ (by first | omega | (simp <;> omega)) _) | (with_reducible refine Below.alloc ?_ (by first | omega | (simp <;> omega)) _) | (with_reducible refine Below.drew ?_) | (with_reducible refine below_drewN ?_ _) | (with_reducible refine Below.trans ?_ (Below.mono (by with_reducible assumption) (by first | omega | (simp <;> omega)))))))⟩
          · rw [hl] at hok HA
            rw [hok] at HT
            clear hok hl
            rcases key true with k1 | ⟨k1, k2⟩
            · go_wp2_with fail
              go_quiet (fail)
              go_wp2_with (go_at_call 24; (with_reducible refine (HA.out _).mono ?_); rintro e w1 ⟨rfl, rfl⟩)
              exact bodyPost_ret (v := .agg (tokA tokZ)) (by simp [results, Tryd.results27, go_sem, tokA, tokZ, *]) rfl ⟨by rw [HT.out]; rfl, (by (repeat (first | (with_reducible exact Below.refl _ _) | (with_reducible assumption) | (with_reducible refine Below.setCell ?_ (by first | omega | (simp <;> omega)) _) | (with_reducible refine Below.alloc ?_ (by first | omega | (simp <;> omega)) _) | (with_reducible refine Below.drew ?_) | (with_reducible refine below_drewN ?_ _) | (with_reducible refine Below.trans ?_ (Below.mono (by with_reducible assumption) (by first | omega | (simp <;> omega)))))))⟩
            · rw [k1] at di
              go_wp2_with fail
              go_quiet (fail)
              go_wp2_with (go_at_call 24; (with_reducible refine (HA.out _).mono ?_); rintro e w1 ⟨rfl, rfl⟩)
              exact bodyPost_ret (v := .agg (tokA tokZ)) (by simp [results, Tryd.results27, go_sem, tokA, tokZ, *]) rfl ⟨by rw [HT.out]; rfl, (by (repeat (first | (with_reducible exact Below.refl _ _) | (with_reducible assumption) | (with_reducible refine Below.setCell ?_ (by first | omega | (simp <;> omega)) _) | (with_reducible refine Below.alloc ?_ (by first | omega | (simp <;> omega)) _) | (with_reducible refine Below.drew ?_) | (with_reducible refine below_drewN ?_ _) | (with_reducible refine Below.trans ?_ (Below.mono (by with_reducible assumption) (by first | omega | (simp <;> omega)))))))⟩
        · rw [show decide (E < s.size) = false from decide_eq_false h3, Bool.false_and] at hok
          rw [hok] at HT
          clear hok
          have HC := Lib.hid (fun W (hb : Below w.heap.size w W) => cut_any s (some ad) c hs hcap W ((HN.out.below hb).more (Below.size hb)) g i hv (Row.below hg hb lz) hi 3 E hE.1 hE.2)
          unfold tokA at HC
          generalize s.extract i E = tx at *
          rcases key true with k1 | ⟨k1, k2⟩
          · go_wp2_with fail
            go_quiet (fail)
            go_wp2_with (go_at_call 42; (with_reducible refine (HC.out _ (by (repeat (first | (with_reducible exact Below.refl _ _) | (with_reducible assumption) | (with_reducible refine Below.setCell ?_ (by first | omega | (simp <;> omega)) _) | (with_reducible refine Below.alloc ?_ (by first | omega | (simp <;> omega)) _) | (with_reducible refine Below.drew ?_) | (with_reducible refine below_drewN ?_ _) | (with_reducible refine Below.trans ?_ (Below.mono (by with_reducible assumption) (by first | omega | (simp <;> omega)))))))).mono ?_); rintro e wb1 ⟨rfl, b1⟩; have zb1 := Below.size b1; have rzb := (rz.drewN _).below b1 (by show _ < wc.heap.size; omega); have y0 := rzb.cell 0; have y1 := rzb.cell 1; have y2 := rzb.cell 2; have y3 := rzb.cell 3; have fy0 := rzb.free 0; have fy1 := rzb.free 1; have fy2 := rzb.free 2; have fy3 := rzb.free 3)
            exact bodyPost_ret (v := .agg (tokA ⟨3, tx, i, E⟩)) (by simp [results, Tryd.results27, go_sem, tokA, tokZ, *]) rfl ⟨by rw [HT.out]; rfl, (by (repeat (first | (with_reducible exact Below.refl _ _) | (with_reducible assumption) | (with_reducible refine Below.setCell ?_ (by first | omega | (simp <;> omega)) _) | (with_reducible refine Below.alloc ?_ (by first | omega | (simp <;> omega)) _) | (with_reducible refine Below.drew ?_) | (with_reducible refine below_drewN ?_ _) | (with_reducible refine Below.trans ?_ (Below.mono (by with_reducible assumption) (by first | omega | (simp <;> omega)))))))⟩
          · rw [k1] at di
            go_wp2_with fail
            go_quiet (fail)
            go_wp2_with (go_at_call 42; (with_reducible refine (HC.out _ (by (repeat (first | (with_reducible exact Below.refl _ _) | (with_reducible assumption) | (with_reducible refine Below.setCell ?_ (by first | omega | (simp <;> omega)) _) | (with_reducible refine Below.alloc ?_ (by first | omega | (simp <;> omega)) _) | (with_reducible refine Below.drew ?_) | (with_reducible refine below_drewN ?_ _) | (with_reducible refine Below.trans ?_ (Below.mono (by with_reducible assumption) (by first | omega | (simp <;> omega)))))))).mono ?_); rintro e wb1 ⟨rfl, b1⟩; have zb1 := Below.size b1; have rzb := (rz.drewN _).below b1 (by show _ < wc.heap.size; omega); have y0 := rzb.cell 0; have y1 := rzb.cell 1; have y2 := rzb.cell 2; have y3 := rzb.cell 3; have fy0 := rzb.free 0; have fy1 := rzb.free 1; have fy2 := rzb.free 2; have fy3 := rzb.free 3)
            exact bodyPost_ret (v := .agg (tokA ⟨3, tx, i, E⟩)) (by simp [results, Tryd.results27, go_sem, tokA, tokZ, *]) rfl ⟨by rw [HT.out]; rfl, (by (repeat (first | (with_reducible exact Below.refl _ _) | (with_reducible assumption) | (with_reducible refine Below.setCell ?_ (by first | omega | (simp <;> omega)) _) | (with_reducible refine Below.alloc ?_ (by first | omega | (simp <;> omega)) _) | (with_reducible refine Below.drew ?_) | (with_reducible refine below_drewN ?_ _) | (with_reducible refine Below.trans ?_ (Below.mono (by with_reducible assumption) (by first | omega | (simp <;> omega)))))))⟩
    · have e1 : ((V : Int) > 9007199254740991) = True := by simp; omega
      rw [show decide (V ≤ 9007199254740991) = false from decide_eq_false h1, Bool.false_and, Bool.false_and] at hok
      rw [hok] at HT
      clear hok
      go_wp2
      exact bodyPost_ret (v := .agg (tokA tokZ)) (by simp [results, Tryd.results27, go_sem, tokA, tokZ, *]) rfl ⟨by rw [HT.out]; rfl, (by (repeat (first | (with_reducible exact Below.refl _ _) | (with_reducible assumption) | (with_reducible refine Below.setCell ?_ (by first | omega | (simp <;> omega)) _) | (with_reducible refine Below.alloc ?_ (by first | omega | (simp <;> omega)) _) | (with_reducible refine Below.drew ?_) | (with_reducible refine below_drewN ?_ _) | (with_reducible refine Below.trans ?_ (Below.mono (by with_reducible assumption) (by first | omega | (simp <;> omega)))))))⟩
end Go.Proofs.YtdlppdoankeilaaDoor
