/- The walks of chapter 2's reference: hexadecimal digits, escapes. -/
import Derived.Test.YtdlppdoankeilaaLexW2
import Derived.Deep.DeepCutAuto
import Derived.Deep.CutBlock
namespace Go.Proofs.Ytdlppdoankeilaa
set_option linter.unusedVariables false
set_option linter.unusedSimpArgs false
set_option linter.unnecessarySimpa false
open Go.RowKit
attribute [local go_sem] cell_alloc_add cell_set_add lt_more
set_option maxHeartbeats 1000000 in
theorem rdigit_any (c : Nat) (w : World) (hc : c < 256) : Calls Try.prog 65 #[.int .u8 (c : Int)] w fun e w' => e = .returned (.int .i64 (hexD c)) ∧ w' = w := by
  go_enter Try.func65, Try.ntmps65
  go_wp2
  all_goals go_ret
  all_goals (refine ⟨ret_int ?_, rfl⟩; unfold hexD; (repeat' split) <;> first | omega | (simp; omega))
/-- An escape's answer, whatever it is. -/
def escR (s : ByteArray) (i : Nat) : ByteArray × Nat × Bool := match esc s i with
  | some p => (p.1, p.2, true)
  | none => (⟨#[]⟩, i, false)
theorem escR_some {s : ByteArray} {i : Nat} {t : ByteArray} {n : Nat} (h : esc s i = some (t, n)) : escR s i = (t, n, true) := by unfold escR; rw [h]
theorem escR_none {s : ByteArray} {i : Nat} (h : esc s i = none) : escR s i = (⟨#[]⟩, i, false) := by unfold escR; rw [h]
theorem ret_sib {a b : ByteArray} {c d : Int} {x y : Bool} (h : a = b) (h' : c = d) (h'' : x = y) : Ending.returned (.tuple #[.string a, .int .i64 c, .bool x]) = .returned (.tuple #[.string b, .int .i64 d, .bool y]) := by rw [h, h', h'']
theorem extract_one {s : ByteArray} {i : Nat} (h : i < s.size) : s.extract i (i + 1) = one1 (bt s i) := by
  apply ByteArray.ext
  have h1 : (s.extract i (i + 1)).size = 1 := by rw [ByteArray.size_extract]; omega
  apply Array.ext
  · show (s.extract i (i + 1)).size = _; rw [h1]; rfl
  · intro j hj _
    have hj1 : j < 1 := by rw [← h1]; exact hj
    have : j = 0 := by omega
    subst this
    have e : bt (s.extract i (i + 1)) 0 = bt s i := by
      have := bt_extract (s := s) (lo := i) (hi := i + 1) (j := 0) (by omega) (by omega)
      simpa using this
    rw [data_at (show 0 < (s.extract i (i + 1)).size by omega)] at e
    apply UInt8.toNat_inj.1
    simp only [one1, List.getElem_toArray, List.getElem_cons_zero]
    rw [← e, UInt8.ofNat_toNat]
    rfl
def pw : Nat → Int
  | 0 => 1
  | n + 1 => 16 * pw n
theorem pw_bd {m : Nat} (h : m ≤ 6) : pw m ≤ 16777216 := by
  rcases (by omega : m = 0 ∨ m = 1 ∨ m = 2 ∨ m = 3 ∨ m = 4 ∨ m = 5 ∨ m = 6) with rfl | rfl | rfl | rfl | rfl | rfl | rfl <;> decide
theorem hex_no (s : ByteArray) (i : Nat) : ¬ (i + 2 < s.size ∧ bt s (i + 2) = 123 ∧ hexEnd s (i + 3) (i + 9) ≠ i + 3 ∧ hexEnd s (i + 3) (i + 9) < s.size ∧ bt s (hexEnd s (i + 3) (i + 9)) = 125 ∧ hexVal s (i + 3) (i + 9) 0 ≤ 1114111 ∧ ¬ (55296 ≤ hexVal s (i + 3) (i + 9) 0 ∧ hexVal s (i + 3) (i + 9) 0 ≤ 57343)) → hexOk s i = false := by
  intro h
  unfold hexOk
  rw [Bool.eq_false_iff]
  intro h2
  apply h
  simp at h2
  omega
theorem hex_yes (s : ByteArray) (i : Nat) : (i + 2 < s.size ∧ bt s (i + 2) = 123 ∧ hexEnd s (i + 3) (i + 9) ≠ i + 3 ∧ hexEnd s (i + 3) (i + 9) < s.size ∧ bt s (hexEnd s (i + 3) (i + 9)) = 125 ∧ hexVal s (i + 3) (i + 9) 0 ≤ 1114111 ∧ ¬ (55296 ≤ hexVal s (i + 3) (i + 9) 0 ∧ hexVal s (i + 3) (i + 9) 0 ≤ 57343)) → hexOk s i = true := by
  intro h
  unfold hexOk
  simp
  omega
set_option maxRecDepth 100000 in
set_option maxHeartbeats 4000000 in
theorem escape_hex (s : ByteArray) (A : Option Addr) (c : Nat) (hs : s.size ≤ 4000000) (hcap : s.size ≤ c) (w : World) {B : Nat} (h : Rd w B A s.size (byteC s)) (i : Nat) (hi : i < s.size) (h1 : i + 1 < s.size) (h117 : bt s (i + 1) = 117) : Calls Try.prog 58 #[.slice A s.size c, .int .i64 (i : Int)] w fun e w' => e = .returned (.tuple #[.string (escR s i).1, .int .i64 ((escR s i).2.1 : Int), .bool (escR s i).2.2]) ∧ w' = w := by
  have HN := Lib.hid h
  clear h
  obtain ⟨ad, rfl, _, c1⟩ := HN.out (i + 1) h1
  unfold byteC at c1
  replace c1 := cell_succ c1
  have hval : escR s i = if hexOk s i = true then (Utf8.encode (hexVal s (i + 3) (i + 9) 0), hexEnd s (i + 3) (i + 9) + 1, true) else (⟨#[]⟩, i, false) := by
    unfold escR esc
    rw [if_pos h1, if_neg (by omega), if_neg (by omega), if_neg (by omega), if_neg (by omega), if_neg (by omega), if_pos h117]
    by_cases hk : hexOk s i = true
    · rw [if_pos hk, if_pos hk]
    · rw [if_neg hk, if_neg hk]
  have HV := Lib.hid hval
  clear hval
  rw [h117] at c1
  go_enter Try.func58, Try.ntmps58
  go_upto_block 1 with fail
  go_cut [7, 8] (fun a v wx => a = .int .i64 (hexEnd s (i + 3) (i + 9)) ∧ v = .int .i64 (hexVal s (i + 3) (i + 9) 0) ∧ wx = w ∧ 0 ≤ hexVal s (i + 3) (i + 9) 0 ∧ hexVal s (i + 3) (i + 9) 0 ≤ 16777215)
  case first =>
    go_wp2_with fail
    go_loop [7, 8] (fun a v => ∃ (j : Nat) (x : Int), i + 3 ≤ j ∧ j ≤ i + 9 ∧ a = .int .i64 j ∧ v = .int .i64 x ∧ 0 ≤ x ∧ x + 1 ≤ pw (j - (i + 3)) ∧ hexEnd s (i + 3) (i + 9) = hexEnd s j (i + 9) ∧ hexVal s (i + 3) (i + 9) 0 = hexVal s j (i + 9) x) (fun a _ => i + 9 - (intOf a).toNat)
    case atStart => exact ⟨i + 3, 0, Nat.le_refl _, by omega, by go_num, rfl, by omega, by simp [pw], rfl, rfl⟩
    case round =>
      obtain ⟨j, x, hj1, hj2, rfl, rfl, hx0, hx1, he, hv⟩ := hrel
      have hpw := pw_bd (show j - (i + 3) ≤ 6 by omega)
      have hx2 : x ≤ 16777215 := by omega
      have HE := Lib.hid he
      have HX := Lib.hid hv
      have HP := Lib.hid hx1
      clear he hv hx1 hpw
      by_cases hjs : j < s.size
      · obtain ⟨ad2, e2, _, c2⟩ := HN.out j hjs
        obtain rfl : ad = ad2 := by injection e2
        clear e2
        unfold byteC at c2
        have hb := bt_lt s j
        have hd := hexD_bd (bt s j)
        by_cases hjl : j < i + 9
        · by_cases hpos : 0 ≤ hexD (bt s j)
          · have H1 := Lib.hid (hexEnd_go (lim := i + 9) hjs hjl hpos)
            have H2 := Lib.hid (hexVal_go (lim := i + 9) (v := x) hjs hjl hpos)
            generalize bt s j = y at *
            have HD := fun W => rdigit_any y W hb
            have HDD := Lib.hid HD
            clear HD
            generalize hexD y = d at *
            go_wp2_with (go_at_call 65; (with_reducible refine (HDD.out _).mono ?_); rintro e w1 ⟨rfl, rfl⟩)
            go_round
            case rel =>
              refine ⟨j + 1, x * 16 + d, by omega, by omega, by go_num, rfl, by omega, ?_, by rw [HE.out, H1.out], by rw [HX.out, H2.out]⟩
              have := HP.out
              rw [show j + 1 - (i + 3) = (j - (i + 3)) + 1 by omega, pw]
              omega
            case measure => simp [intOf]; omega
          · have H1 := Lib.hid (hexEnd_stop (s := s) (i := j) (lim := i + 9) (fun h => hpos h.2.2))
            have H2 := Lib.hid (hexVal_stop (s := s) (i := j) (lim := i + 9) (v := x) (fun h => hpos h.2.2))
            have hneg : ¬ 0 ≤ hexD (bt s j) := hpos
            generalize bt s j = y at *
            have HDD := Lib.hid (fun W => rdigit_any y W hb)
            generalize hexD y = d at *
            go_wp2_with (go_at_call 65; (with_reducible refine (HDD.out _).mono ?_); rintro e w1 ⟨rfl, rfl⟩)
            go_meet
            exact ⟨by rw [HE.out, H1.out], by rw [HX.out, H2.out], rfl, by rw [HX.out, H2.out]; exact hx0, by rw [HX.out, H2.out]; exact hx2⟩
        · have H1 := Lib.hid (hexEnd_stop (s := s) (i := j) (lim := i + 9) (fun h => hjl h.2.1))
          have H2 := Lib.hid (hexVal_stop (s := s) (i := j) (lim := i + 9) (v := x) (fun h => hjl h.2.1))
          go_wp2
          go_meet
          exact ⟨by rw [HE.out, H1.out], by rw [HX.out, H2.out], rfl, by rw [HX.out, H2.out]; exact hx0, by rw [HX.out, H2.out]; exact hx2⟩
      · have H1 := Lib.hid (hexEnd_stop (s := s) (i := j) (lim := i + 9) (fun h => hjs h.1))
        have H2 := Lib.hid (hexVal_stop (s := s) (i := j) (lim := i + 9) (v := x) (fun h => hjs h.1))
        go_wp2
        go_meet
        exact ⟨by rw [HE.out, H1.out], by rw [HX.out, H2.out], rfl, by rw [HX.out, H2.out]; exact hx0, by rw [HX.out, H2.out]; exact hx2⟩
  case rest =>
    obtain ⟨rfl, rfl, rfl, hv0, hv1⟩ := hcut
    have hEb := hexEnd_bd s (i + 9) _ (i + 3) (Nat.le_refl _)
    have hno := hex_no s i
    have hyes := hex_yes s i
    generalize hexEnd s (i + 3) (i + 9) = E at *
    generalize hexVal s (i + 3) (i + 9) 0 = V at *
    have HNO := Lib.hid hno
    have HYES := Lib.hid hyes
    clear hno hyes
    have hE1 : E ≤ 4000000 + 9 := by omega
    by_cases a1 : i + 2 < s.size
    · obtain ⟨ad2, e2, _, c2⟩ := HN.out (i + 2) a1
      obtain rfl : ad = ad2 := by injection e2
      clear e2
      unfold byteC at c2
      replace c2 := cell_succ c2
      by_cases a2 : bt s (i + 2) = 123
      · by_cases a3 : E = i + 3
        · (have HK := Lib.hid (HNO.out (fun h => h.2.2.1 a3)); go_wp2; go_ret3; exact ⟨by rw [HV.out, if_neg (by rw [HK.out]; simp)]; rfl, rfl⟩)
        · by_cases a4 : E < s.size
          · obtain ⟨ad3, e3, _, c3⟩ := HN.out E a4
            obtain rfl : ad = ad3 := by injection e3
            clear e3
            unfold byteC at c3
            by_cases a5 : bt s E = 125
            · by_cases a6 : V ≤ 1114111
              · by_cases a7 : 55296 ≤ V ∧ V ≤ 57343
                · (have HK := Lib.hid (HNO.out (fun h => h.2.2.2.2.2.2 a7)); go_wp2; go_ret3; exact ⟨by rw [HV.out, if_neg (by rw [HK.out]; simp)]; rfl, rfl⟩)
                · have HK := Lib.hid (HYES.out ⟨a1, a2, a3, a4, a5, a6, a7⟩)
                  rw [a2] at c2
                  rw [a5] at c3
                  have d1 : ((E : Int) == (i : Int) + 3) = false := by simp; omega
                  have d2 : decide (s.size ≤ E) = false := by simpa using a4
                  have d3 : decide (1114111 < V) = false := by simpa using a6
                  by_cases a8 : V < 55296
                  · clear a7
                    have d4 : decide (55296 ≤ V) = false := by simpa using a8
                    go_wp2
                    go_ret3
                    exact ⟨by rw [HV.out, if_pos HK.out]; rfl, rfl⟩
                  · have a9 : 57343 < V := by omega
                    clear a7
                    have d4 : decide (55296 ≤ V) = true := by simp; omega
                    have d5 : decide (V ≤ 57343) = false := by simp; omega
                    go_wp2
                    go_ret3
                    exact ⟨by rw [HV.out, if_pos HK.out]; rfl, rfl⟩
              · (have HK := Lib.hid (HNO.out (fun h => a6 h.2.2.2.2.2.1)); go_wp2; go_ret3; exact ⟨by rw [HV.out, if_neg (by rw [HK.out]; simp)]; rfl, rfl⟩)
            · (have HK := Lib.hid (HNO.out (fun h => a5 h.2.2.2.2.1)); go_wp2; go_ret3; exact ⟨by rw [HV.out, if_neg (by rw [HK.out]; simp)]; rfl, rfl⟩)
          · (have HK := Lib.hid (HNO.out (fun h => a4 h.2.2.2.1)); go_wp2; go_ret3; exact ⟨by rw [HV.out, if_neg (by rw [HK.out]; simp)]; rfl, rfl⟩)
      · (have HK := Lib.hid (HNO.out (fun h => a2 h.2.1)); go_wp2; go_ret3; exact ⟨by rw [HV.out, if_neg (by rw [HK.out]; simp)]; rfl, rfl⟩)
    · (have HK := Lib.hid (HNO.out (fun h => a1 h.1)); go_wp2; go_ret3; exact ⟨by rw [HV.out, if_neg (by rw [HK.out]; simp)]; rfl, rfl⟩)
end Go.Proofs.Ytdlppdoankeilaa
