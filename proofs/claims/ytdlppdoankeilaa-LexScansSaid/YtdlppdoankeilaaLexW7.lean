/- The walk of chapter 2's reference: a number. -/
import Derived.Test.YtdlppdoankeilaaLexW6
namespace Go.Proofs.Ytdlppdoankeilaa
set_option linter.unusedVariables false
set_option linter.unusedSimpArgs false
set_option linter.unnecessarySimpa false
open Go.RowKit
attribute [local go_sem] cell_alloc_add cell_set_add lt_more
def numTok (s : ByteArray) (i : Nat) : Tok := if numOk s i = true then ⟨3, s.extract i (digEnd s i), i, digEnd s i⟩ else ⟨0, ⟨#[]⟩, 0, 0⟩
theorem numTok_yes {s : ByteArray} {i : Nat} (h : numOk s i = true) : numTok s i = ⟨3, s.extract i (digEnd s i), i, digEnd s i⟩ := if_pos h
theorem numTok_no {s : ByteArray} {i : Nat} (h : numOk s i = false) : numTok s i = ⟨0, ⟨#[]⟩, 0, 0⟩ := if_neg (by rw [h]; decide)
theorem num_no {s : ByteArray} {i : Nat} (h : 9007199254740991 < digVal s i 0 ∨ (bt s i = 48 ∧ i + 1 < digEnd s i) ∨ (digEnd s i < s.size ∧ letterB (bt s (digEnd s i)) = true)) : numOk s i = false := by
  unfold numOk
  rcases h with h | h | h
  · rw [decide_eq_false (by omega)]; rfl
  · rw [decide_eq_true h.1, decide_eq_true h.2]; simp
  · rw [decide_eq_true h.1, h.2]; simp
theorem num_yes {s : ByteArray} {i : Nat} (h1 : digVal s i 0 ≤ 9007199254740991) (h2 : ¬ (bt s i = 48 ∧ i + 1 < digEnd s i)) (h3 : ¬ (digEnd s i < s.size ∧ letterB (bt s (digEnd s i)) = true)) : numOk s i = true := by
  unfold numOk
  rw [decide_eq_true h1]
  simp
  refine ⟨by omega, ?_⟩
  by_cases hc : digEnd s i < s.size
  · right
    cases hl : letterB (bt s (digEnd s i)) with
    | false => rfl
    | true => exact absurd ⟨hc, hl⟩ h3
  · left; omega
def capV (f : Bool) (x : Nat) : Nat := if f = true then x else 9007199254740992
theorem digVal_step {s : ByteArray} {j x : Nat} (hj : j < s.size) (hd : digitB (bt s j) = true) (hx : x ≤ 9007199254740991) : digVal s j (capV true x) = digVal s (j + 1) (capV (decide (x * 10 + (bt s j - 48) ≤ 9007199254740991)) (x * 10 + (bt s j - 48))) := by
  rw [digVal_go hj hd]
  unfold capV
  by_cases h : x * 10 + (bt s j - 48) ≤ 9007199254740991
  · rw [decide_eq_true h, if_pos rfl, if_pos rfl, Nat.min_eq_left (by omega)]
  · rw [decide_eq_false h, if_pos rfl, if_neg (by decide), Nat.min_eq_right (by omega)]
theorem digVal_stay {s : ByteArray} {j x : Nat} (hj : j < s.size) (hd : digitB (bt s j) = true) : digVal s j (capV false x) = digVal s (j + 1) (capV false x) := by
  rw [digVal_go hj hd]
  unfold capV
  rw [if_neg (by decide), Nat.min_eq_right (by omega)]
theorem digVal_fin {s : ByteArray} {j x : Nat} {f : Bool} (hs : ¬ (j < s.size ∧ digitB (bt s j) = true)) (hx : f = true → x ≤ 9007199254740991) : decide (digVal s j (capV f x) ≤ 9007199254740991) = f := by
  rw [digVal_stop hs]
  unfold capV
  cases f
  · rw [if_neg (by decide)]; decide
  · rw [if_pos rfl]; exact decide_eq_true (hx rfl)
set_option maxRecDepth 100000 in
set_option maxHeartbeats 4000000 in
theorem rnumber_any (s : ByteArray) (A : Option Addr) (c : Nat) (hs : s.size ≤ 4000000) (hcap : s.size ≤ c) (w : World) {B : Nat} (hB : B ≤ w.heap.size) (h : Rd w B A s.size (byteC s)) (i : Nat) (hi : i < s.size) :
    Calls Try.prog 45 #[.slice A s.size c, .int .i64 (i : Int)] w fun e w' => e = .returned (.tuple #[.agg (tokA (numTok s i)), .bool (numOk s i)]) ∧ Below w.heap.size w w' := by
  have HN := Lib.hid h
  obtain ⟨ad, rfl, hadB, ci⟩ := h i hi
  unfold byteC at ci
  clear h
  go_enter Try.func45, Try.ntmps45
  go_upto_block 0 with fail
  obtain ⟨wo, hwo⟩ : ∃ wo : World, wo = w.alloc (.cells #[.int .i64 0, .string ⟨#[]⟩, .int .i64 0, .int .i64 0] 33) := ⟨_, rfl⟩
  rw [← hwo]
  have rz : Row wo w.heap.size 33 #[.int .i64 0, .string ⟨#[]⟩, .int .i64 0, .int .i64 0] := by rw [hwo]; exact row_new rfl
  have hbr : Below w.heap.size w wo := by rw [hwo]; (repeat (first | (with_reducible exact Below.refl _ _) | (with_reducible assumption) | (with_reducible refine Below.setCell ?_ (by first | omega | (simp <;> omega)) _) | (with_reducible refine Below.alloc ?_ (by first | omega | (simp <;> omega)) _) | (with_reducible refine Below.drew ?_) | (with_reducible refine below_drewN ?_ _) | (with_reducible refine Below.trans ?_ (Below.mono (by with_reducible assumption) (by first | omega | (simp <;> omega))))))
  clear hwo
  go_cut [6, 8] (fun a f wx => a = .int .i64 (digEnd s i : Nat) ∧ f = .bool (decide (digVal s i 0 ≤ 9007199254740991)) ∧ Row wx w.heap.size 33 #[.int .i64 0, .string ⟨#[]⟩, .int .i64 0, .int .i64 0] ∧ Below w.heap.size w wx)
  case first =>
    go_wp2_with fail
    go_loop [6, 7, 8] (fun a v f => ∃ (j x : Nat) (fb : Bool), i ≤ j ∧ j ≤ s.size ∧ a = .int .i64 j ∧ v = .int .i64 (x : Int) ∧ f = .bool fb ∧ (fb = true → x ≤ 9007199254740991) ∧ x ≤ 90071992547409919 ∧ digEnd s i = digEnd s j ∧ digVal s i 0 = digVal s j (capV fb x)) (fun a _ _ => s.size - (intOf a).toNat)
    case atStart => exact ⟨i, 0, true, Nat.le_refl _, by omega, rfl, rfl, rfl, fun _ => by omega, by omega, rfl, rfl⟩
    case round =>
      obtain ⟨j, x, fb, hij, hj, rfl, rfl, rfl, hx, hx2, he, hv⟩ := hrel
      have HE := Lib.hid he
      have HV := Lib.hid hv
      clear he hv
      by_cases hjs : j < s.size
      · obtain ⟨ad2, e2, _, c1⟩ := HN.out j hjs
        obtain rfl : ad = ad2 := by injection e2
        clear e2
        unfold byteC at c1
        have d1 := (hbr.cell (p := ad.add j) (by rw [block_add]; omega)).trans c1
        have hb := bt_lt s j
        clear c1
        cases hdg : digitB (bt s j)
        · have HD := Lib.hid (rDigit_any (bt s j))
          rw [hdg] at HD
          have hX := Lib.hid hx
          clear hx
          go_wp2_with (go_at_call 43; (with_reducible refine (HD.out _).mono ?_); rintro e w1 ⟨rfl, rfl⟩)
          go_meet
          exact ⟨by rw [HE.out, digEnd_stop (s := s) (i := j) (by rw [hdg]; simp)], by rw [HV.out, digVal_fin (by rw [hdg]; simp) hX.out], rz, hbr⟩
        · have HD := Lib.hid (rDigit_any (bt s j))
          rw [hdg] at HD
          have h48 : 48 ≤ bt s j ∧ bt s j ≤ 57 := by simpa [digitB] using hdg
          have H1 := Lib.hid (digEnd_go hjs hdg)
          cases fb
          · have H2 := Lib.hid (digVal_stay (x := x) hjs hdg)
            clear hdg hx
            go_wp2_with (go_at_call 43; (with_reducible refine (HD.out _).mono ?_); rintro e w1 ⟨rfl, rfl⟩)
            go_round
            case rel => exact ⟨j + 1, x, false, by omega, by omega, by go_num, rfl, rfl, (fun h => by cases h), hx2, by rw [HE.out, H1.out], by rw [HV.out, H2.out]⟩
            case measure => simp [intOf]; omega
          · have hxx := hx rfl
            have H2 := Lib.hid (digVal_step hjs hdg hxx)
            clear hdg hx
            have ec : ((bt s j : Int) - 48) = ((bt s j - 48 : Nat) : Int) := by omega
            go_wp2_with (go_at_call 43; (with_reducible refine (HD.out _).mono ?_); rintro e w1 ⟨rfl, rfl⟩)
            have ex : ((x : Int) * 10 + (bt s j : Int) - 48) = ((x * 10 + (bt s j - 48) : Nat) : Int) := by omega
            refine ⟨⟨j + 1, x * 10 + (bt s j - 48), decide (x * 10 + (bt s j - 48) ≤ 9007199254740991), by omega, by omega, by go_num, by rw [ex], ?_, (fun h => by simpa using h), by omega, by rw [HE.out, H1.out], by rw [HV.out, H2.out]⟩, by simp [intOf]; omega⟩
            congr 1
            rw [Bool.eq_iff_iff]; simp; omega
      · have hX := Lib.hid hx
        clear hx
        go_wp2
        go_meet
        exact ⟨by rw [HE.out, digEnd_stop (s := s) (i := j) (by omega)], by rw [HV.out, digVal_fin (by omega) hX.out], rz, hbr⟩
  case rest =>
    obtain ⟨rfl, rfl, rz2, hbr2⟩ := hcut
    have z0 := rz2.cell 0
    have z1 := rz2.cell 1
    have z2 := rz2.cell 2
    have z3 := rz2.cell 3
    have fz0 := rz2.free 0
    have fz1 := rz2.free 1
    have fz2 := rz2.free 2
    have fz3 := rz2.free 3
    have lz := rz2.lt
    have hE := digEnd_bd s _ i (Nat.le_refl _) (by omega)
    have HNO := Lib.hid (fun h => numTok_no (num_no (s := s) (i := i) h))
    have HNO2 := Lib.hid (fun h => num_no (s := s) (i := i) h)
    have HYES := Lib.hid (fun h1 h2 h3 => numTok_yes (num_yes (s := s) (i := i) h1 h2 h3))
    have HYES2 := Lib.hid (fun h1 h2 h3 => num_yes (s := s) (i := i) h1 h2 h3)
    have di := (hbr2.cell (p := ad.add i) (by rw [block_add]; omega)).trans ci
    generalize digEnd s i = E at *
    generalize digVal s i 0 = V at *
    by_cases hV : V ≤ 9007199254740991
    · by_cases h48 : bt s i = 48 ∧ i + 1 < E
      · have HX := Lib.hid (HNO.out (.inr (.inl h48)))
        have HX2 := Lib.hid (HNO2.out (.inr (.inl h48)))
        obtain ⟨g1, g2⟩ := h48
        rw [g1] at di
        have hV2 : decide (V ≤ 9007199254740991) = true := by simpa using hV
        clear g1
        go_wp2
        exact bodyPost_ret (v := .tuple #[.agg (tokA (numTok s i)), .bool (numOk s i)]) (by rw [HX.out, HX2.out]; simp [results, Try.results45, go_sem, tokA, *]) rfl ⟨rfl, (by (repeat (first | (with_reducible exact Below.refl _ _) | (with_reducible assumption) | (with_reducible refine Below.setCell ?_ (by first | omega | (simp <;> omega)) _) | (with_reducible refine Below.alloc ?_ (by first | omega | (simp <;> omega)) _) | (with_reducible refine Below.drew ?_) | (with_reducible refine below_drewN ?_ _) | (with_reducible refine Below.trans ?_ (Below.mono (by with_reducible assumption) (by first | omega | (simp <;> omega)))))))⟩
      · have hV2 : decide (V ≤ 9007199254740991) = true := by simpa using hV
        by_cases hE2 : E < s.size
        · obtain ⟨ad3, e3, _, c3⟩ := HN.out E hE2
          obtain rfl : ad = ad3 := by injection e3
          clear e3
          unfold byteC at c3
          have dE := (hbr2.cell (p := ad.add E) (by rw [block_add]; omega)).trans c3
          have HD := Lib.hid (rLetter_any (bt s E))
          clear c3
          cases hl : letterB (bt s E)
          · have HX := Lib.hid (HYES.out hV h48 (by rw [hl]; simp))
            have HX2 := Lib.hid (HYES2.out hV h48 (by rw [hl]; simp))
            rw [hl] at HD
            clear hl
            have kc : ∀ m, (convert 22 9 (.slice (some (ad.add i)) (E - i) m)).run Try.prog wc = .ok (.string (s.extract i E)) wc := fun m => (by have hh := run_part (P := Try.prog) 22 9 5 Try.underlying22 Try.underlying5 Try.underlying9 (HN.out.below (hbr2.mono hB)) i (E - i) m (by omega); rwa [show i + (E - i) = E by omega] at hh)
            by_cases g1 : bt s i = 48
            · have g2 : decide ((i : Int) + 1 < (E : Int)) = false := by simp; omega
              rw [g1] at di
              clear g1 h48
              go_wp2_with (go_at_call 42; (with_reducible refine (HD.out _).mono ?_); rintro e w1 ⟨rfl, rfl⟩)
              exact bodyPost_ret (v := .tuple #[.agg (tokA (numTok s i)), .bool (numOk s i)]) (by rw [HX.out, HX2.out]; simp [results, Try.results45, go_sem, tokA, *]) rfl ⟨rfl, (by (repeat (first | (with_reducible exact Below.refl _ _) | (with_reducible assumption) | (with_reducible refine Below.setCell ?_ (by first | omega | (simp <;> omega)) _) | (with_reducible refine Below.alloc ?_ (by first | omega | (simp <;> omega)) _) | (with_reducible refine Below.drew ?_) | (with_reducible refine below_drewN ?_ _) | (with_reducible refine Below.trans ?_ (Below.mono (by with_reducible assumption) (by first | omega | (simp <;> omega)))))))⟩
            · have g2 : ((bt s i : Int) == 48) = false := by simp; omega
              clear g1 h48
              go_wp2_with (go_at_call 42; (with_reducible refine (HD.out _).mono ?_); rintro e w1 ⟨rfl, rfl⟩)
              exact bodyPost_ret (v := .tuple #[.agg (tokA (numTok s i)), .bool (numOk s i)]) (by rw [HX.out, HX2.out]; simp [results, Try.results45, go_sem, tokA, *]) rfl ⟨rfl, (by (repeat (first | (with_reducible exact Below.refl _ _) | (with_reducible assumption) | (with_reducible refine Below.setCell ?_ (by first | omega | (simp <;> omega)) _) | (with_reducible refine Below.alloc ?_ (by first | omega | (simp <;> omega)) _) | (with_reducible refine Below.drew ?_) | (with_reducible refine below_drewN ?_ _) | (with_reducible refine Below.trans ?_ (Below.mono (by with_reducible assumption) (by first | omega | (simp <;> omega)))))))⟩
          · have HX := Lib.hid (HNO.out (.inr (.inr ⟨hE2, hl⟩)))
            have HX2 := Lib.hid (HNO2.out (.inr (.inr ⟨hE2, hl⟩)))
            rw [hl] at HD
            clear hl
            by_cases g1 : bt s i = 48
            · have g2 : decide ((i : Int) + 1 < (E : Int)) = false := by simp; omega
              rw [g1] at di
              clear g1 h48
              go_wp2_with (go_at_call 42; (with_reducible refine (HD.out _).mono ?_); rintro e w1 ⟨rfl, rfl⟩)
              exact bodyPost_ret (v := .tuple #[.agg (tokA (numTok s i)), .bool (numOk s i)]) (by rw [HX.out, HX2.out]; simp [results, Try.results45, go_sem, tokA, *]) rfl ⟨rfl, (by (repeat (first | (with_reducible exact Below.refl _ _) | (with_reducible assumption) | (with_reducible refine Below.setCell ?_ (by first | omega | (simp <;> omega)) _) | (with_reducible refine Below.alloc ?_ (by first | omega | (simp <;> omega)) _) | (with_reducible refine Below.drew ?_) | (with_reducible refine below_drewN ?_ _) | (with_reducible refine Below.trans ?_ (Below.mono (by with_reducible assumption) (by first | omega | (simp <;> omega)))))))⟩
            · have g2 : ((bt s i : Int) == 48) = false := by simp; omega
              clear g1 h48
              go_wp2_with (go_at_call 42; (with_reducible refine (HD.out _).mono ?_); rintro e w1 ⟨rfl, rfl⟩)
              exact bodyPost_ret (v := .tuple #[.agg (tokA (numTok s i)), .bool (numOk s i)]) (by rw [HX.out, HX2.out]; simp [results, Try.results45, go_sem, tokA, *]) rfl ⟨rfl, (by (repeat (first | (with_reducible exact Below.refl _ _) | (with_reducible assumption) | (with_reducible refine Below.setCell ?_ (by first | omega | (simp <;> omega)) _) | (with_reducible refine Below.alloc ?_ (by first | omega | (simp <;> omega)) _) | (with_reducible refine Below.drew ?_) | (with_reducible refine below_drewN ?_ _) | (with_reducible refine Below.trans ?_ (Below.mono (by with_reducible assumption) (by first | omega | (simp <;> omega)))))))⟩
        · have HX := Lib.hid (HYES.out hV h48 (fun h => hE2 h.1))
          have HX2 := Lib.hid (HYES2.out hV h48 (fun h => hE2 h.1))
          have kc : ∀ m, (convert 22 9 (.slice (some (ad.add i)) (E - i) m)).run Try.prog wc = .ok (.string (s.extract i E)) wc := fun m => (by have hh := run_part (P := Try.prog) 22 9 5 Try.underlying22 Try.underlying5 Try.underlying9 (HN.out.below (hbr2.mono hB)) i (E - i) m (by omega); rwa [show i + (E - i) = E by omega] at hh)
          by_cases g1 : bt s i = 48
          · have g2 : decide ((i : Int) + 1 < (E : Int)) = false := by simp; omega
            rw [g1] at di
            clear g1 h48
            go_wp2
            exact bodyPost_ret (v := .tuple #[.agg (tokA (numTok s i)), .bool (numOk s i)]) (by rw [HX.out, HX2.out]; simp [results, Try.results45, go_sem, tokA, *]) rfl ⟨rfl, (by (repeat (first | (with_reducible exact Below.refl _ _) | (with_reducible assumption) | (with_reducible refine Below.setCell ?_ (by first | omega | (simp <;> omega)) _) | (with_reducible refine Below.alloc ?_ (by first | omega | (simp <;> omega)) _) | (with_reducible refine Below.drew ?_) | (with_reducible refine below_drewN ?_ _) | (with_reducible refine Below.trans ?_ (Below.mono (by with_reducible assumption) (by first | omega | (simp <;> omega)))))))⟩
          · have g2 : ((bt s i : Int) == 48) = false := by simp; omega
            clear g1 h48
            go_wp2
            exact bodyPost_ret (v := .tuple #[.agg (tokA (numTok s i)), .bool (numOk s i)]) (by rw [HX.out, HX2.out]; simp [results, Try.results45, go_sem, tokA, *]) rfl ⟨rfl, (by (repeat (first | (with_reducible exact Below.refl _ _) | (with_reducible assumption) | (with_reducible refine Below.setCell ?_ (by first | omega | (simp <;> omega)) _) | (with_reducible refine Below.alloc ?_ (by first | omega | (simp <;> omega)) _) | (with_reducible refine Below.drew ?_) | (with_reducible refine below_drewN ?_ _) | (with_reducible refine Below.trans ?_ (Below.mono (by with_reducible assumption) (by first | omega | (simp <;> omega)))))))⟩
    · have HX := Lib.hid (HNO.out (.inl (by omega)))
      have HX2 := Lib.hid (HNO2.out (.inl (by omega)))
      have hV2 : decide (V ≤ 9007199254740991) = false := by simpa using hV
      go_wp2
      exact bodyPost_ret (v := .tuple #[.agg (tokA (numTok s i)), .bool (numOk s i)]) (by rw [HX.out, HX2.out]; simp [results, Try.results45, go_sem, tokA, *]) rfl ⟨rfl, (by (repeat (first | (with_reducible exact Below.refl _ _) | (with_reducible assumption) | (with_reducible refine Below.setCell ?_ (by first | omega | (simp <;> omega)) _) | (with_reducible refine Below.alloc ?_ (by first | omega | (simp <;> omega)) _) | (with_reducible refine Below.drew ?_) | (with_reducible refine below_drewN ?_ _) | (with_reducible refine Below.trans ?_ (Below.mono (by with_reducible assumption) (by first | omega | (simp <;> omega)))))))⟩
end Go.Proofs.Ytdlppdoankeilaa
