/- Some texts of this claim, put together. -/
import Derived.Test.YtpkdhciokiomlaaGreatDoorHBZ2
import Derived.Test.YtpkdhciokiomlaaGreatDoorHBZ3
namespace Go.Proofs.YtpkdhciokiomlaaGreatDoor
section
set_option linter.unusedVariables false
set_option linter.unusedSimpArgs false
set_option linter.unnecessarySimpa false
open Go.RowKit
theorem get_btT (q : ByteArray) (i : Nat) (h : i < q.size) : (q[i]'h).toNat = bt q i := by
  rw [data_at h, Array.getElem_toList]; rfl
attribute [local go_sem] cell_alloc_add cell_set_add lt_more get_btT
def namesL (l : List UInt8) : Bool := l.all fun c => nameB c.toNat
theorem names_from {s : ByteArray} {j : Nat} (h : j < s.size) : namesL (s.data.toList.drop j) = (nameB (bt s j) && namesL (s.data.toList.drop (j + 1))) := by
  have h2 : j < s.data.toList.length := by simpa using h
  rw [List.drop_eq_getElem_cons h2, data_at h]
  rfl
theorem isName_eq (s : ByteArray) (h : 0 < s.size) : isName s.data.toList = (!digitB (bt s 0) && !reserved s.data.toList && namesL s.data.toList) := by
  have h2 : 0 < s.data.toList.length := by simpa using h
  unfold isName
  rw [data_at h]
  obtain ⟨c, l, e⟩ : ∃ c l, s.data.toList = c :: l := by
    cases he : s.data.toList with
    | nil => rw [he] at h2; simp at h2
    | cons c l => exact ⟨c, l, rfl⟩
  simp only [e, List.isEmpty_cons, Bool.not_false, Bool.true_and, List.headD_cons, List.getElem_cons_zero]
  rfl
theorem no_space {s : ByteArray} (h : namesL s.data.toList = true) : ∀ x ∈ s.data.toList, x ≠ 32 := fun x hx e => by
  have := List.all_eq_true.1 h x hx
  rw [e] at this
  cases this
set_option maxRecDepth 100000 in
set_option maxHeartbeats 1000000 in
theorem Reserved_b (s : ByteArray) (w : World) (hm : Mx w) (hz : s.size ≤ 4000000) : ∃ b : Bool, Calls Tryz.prog 68 #[.string s] w fun e w' => e = .returned (.bool b) ∧ w = w' := by
  obtain ⟨m, hm⟩ := hm
  refine ⟨Lib.contains (⟨#[32, 98, 114, 101, 97, 107, 32, 99, 97, 116, 99, 104, 32, 99, 108, 97, 115, 115, 32, 99, 111, 110, 115, 116, 32, 99, 111, 110, 115, 116, 114, 117, 99, 116, 111, 114, 32, 99, 111, 110, 116, 105, 110, 117, 101, 32, 101, 108, 115, 101, 32, 101, 110, 117, 109, 32, 101, 120, 112, 111, 114, 116, 32, 101, 120, 116, 101, 110, 100, 115, 32, 102, 97, 108, 115, 101, 32, 102, 105, 110, 97, 108, 108, 121, 32, 102, 111, 114, 32, 102, 117, 110, 99, 116, 105, 111, 110, 32, 105, 102, 32, 105, 109, 112, 108, 101, 109, 101, 110, 116, 115, 32, 105, 110, 32, 105, 110, 116, 101, 114, 102, 97, 99, 101, 32, 108, 101, 116, 32, 110, 97, 109, 101, 115, 112, 97, 99, 101, 32, 110, 101, 119, 32, 110, 117, 108, 108, 32, 111, 102, 32, 112, 117, 98, 108, 105, 99, 32, 114, 101, 97, 100, 111, 110, 108, 121, 32, 114, 101, 116, 117, 114, 110, 32, 115, 117, 112, 101, 114, 32, 116, 104, 105, 115, 32, 116, 104, 114, 111, 119, 32, 116, 114, 117, 101, 32, 116, 114, 121, 32, 116, 121, 112, 101, 32, 116, 121, 112, 101, 111, 102, 32, 117, 110, 100, 101, 102, 105, 110, 101, 100, 32, 119, 104, 105, 108, 101, 32, 97, 115, 32]⟩ : ByteArray).data.toList ((⟨#[32]⟩ ++ s ++ ⟨#[32]⟩ : ByteArray)).data.toList, ?_⟩
  go_enter Tryz.func68, Tryz.ntmps68
  go_wp2_with (go_at_call 65; (with_reducible refine (Tryz.strings_Contains ⟨#[32, 98, 114, 101, 97, 107, 32, 99, 97, 116, 99, 104, 32, 99, 108, 97, 115, 115, 32, 99, 111, 110, 115, 116, 32, 99, 111, 110, 115, 116, 114, 117, 99, 116, 111, 114, 32, 99, 111, 110, 116, 105, 110, 117, 101, 32, 101, 108, 115, 101, 32, 101, 110, 117, 109, 32, 101, 120, 112, 111, 114, 116, 32, 101, 120, 116, 101, 110, 100, 115, 32, 102, 97, 108, 115, 101, 32, 102, 105, 110, 97, 108, 108, 121, 32, 102, 111, 114, 32, 102, 117, 110, 99, 116, 105, 111, 110, 32, 105, 102, 32, 105, 109, 112, 108, 101, 109, 101, 110, 116, 115, 32, 105, 110, 32, 105, 110, 116, 101, 114, 102, 97, 99, 101, 32, 108, 101, 116, 32, 110, 97, 109, 101, 115, 112, 97, 99, 101, 32, 110, 101, 119, 32, 110, 117, 108, 108, 32, 111, 102, 32, 112, 117, 98, 108, 105, 99, 32, 114, 101, 97, 100, 111, 110, 108, 121, 32, 114, 101, 116, 117, 114, 110, 32, 115, 117, 112, 101, 114, 32, 116, 104, 105, 115, 32, 116, 104, 114, 111, 119, 32, 116, 114, 117, 101, 32, 116, 114, 121, 32, 116, 121, 112, 101, 32, 116, 121, 112, 101, 111, 102, 32, 117, 110, 100, 101, 102, 105, 110, 101, 100, 32, 119, 104, 105, 108, 101, 32, 97, 115, 32]⟩ _ m w (by decide) hm).mono ?_); rintro e w1 ⟨rfl, rfl⟩)
  go_ret
  exact ⟨rfl, rfl⟩
theorem lv (c : Nat) (w : World) : Calls Tryz.prog 69 #[.int .u8 (c : Int)] w fun e w' => e = .returned (.bool (letterB c)) ∧ w = w' := (Letter_any c w).mono fun _ _ ⟨h1, h2⟩ => ⟨h1, h2.symm⟩
theorem dv (c : Nat) (w : World) : Calls Tryz.prog 67 #[.int .u8 (c : Int)] w fun e w' => e = .returned (.bool (digitB c)) ∧ w = w' := (Digit_any c w).mono fun _ _ ⟨h1, h2⟩ => ⟨h1, h2.symm⟩
theorem rlv (c : Nat) (w : World) : Calls Tryz.prog 102 #[.int .u8 (c : Int)] w fun e w' => e = .returned (.bool (letterB c)) ∧ w = w' := (rLetter_any c w).mono fun _ _ ⟨h1, h2⟩ => ⟨h1, h2.symm⟩
theorem rdv (c : Nat) (w : World) : Calls Tryz.prog 104 #[.int .u8 (c : Int)] w fun e w' => e = .returned (.bool (digitB c)) ∧ w = w' := (rDigit_any c w).mono fun _ _ ⟨h1, h2⟩ => ⟨h1, h2.symm⟩
set_option maxRecDepth 100000 in
set_option maxHeartbeats 4000000 in
theorem Name_any (s : ByteArray) (hz : s.size ≤ 4000000) (w : World) (hm : Mx w) : Calls Tryz.prog 48 #[.string s] w fun e w' => e = .returned (.bool (isName s.data.toList)) ∧ w = w' := by
  by_cases h0 : s.size = 0
  · have he : s = ⟨#[]⟩ := by
      apply ByteArray.ext
      apply Array.eq_empty_of_size_eq_zero
      exact h0
    subst he
    go_enter Tryz.func48, Tryz.ntmps48
    go_wp2
    go_ret
    exact ⟨rfl, rfl⟩
  · have hpos : 0 < s.size := by omega
    have HE := Lib.hid (isName_eq s hpos)
    have hne : s.toList.isEmpty = false := by
      have := str_eq s ⟨#[]⟩
      cases hl : s.toList with
      | nil =>
        rw [hl] at this
        have h9 : s.data.toList = [] := by simpa using this
        exact absurd (show s.size = 0 by show s.data.size = 0; rw [← Array.length_toList, h9]; rfl) h0
      | cons a l => rfl
    have hne2 : s.toList ≠ [] := fun e => by rw [e] at hne; cases hne
    by_cases hall : namesL s.data.toList = true
    · have HRES := Lib.hid ((Reserved_any s w hm hz (no_space hall)).mono fun _ _ ⟨h1, h2⟩ => (⟨h1, h2.symm⟩ : _ ∧ w = _))
      rw [HE.out, hall, Bool.and_true]
      have HA := Lib.hid (show namesL (s.data.toList.drop 0) = true from hall)
      clear HE hall hm
      cases hd : digitB (bt s 0)
      · cases hr : reserved s.data.toList
        · go_enter Tryz.func48, Tryz.ntmps48
          go_wp2_with (first | (go_at_call 69; (with_reducible refine (lv _ _).mono ?_); rintro e w9 ⟨rfl, rfl⟩) | (go_at_call 67; (with_reducible refine (dv _ _).mono ?_); rintro e w9 ⟨rfl, rfl⟩) | (go_at_call 68; (with_reducible refine HRES.out.mono ?_); rintro e w9 ⟨rfl, rfl⟩) | fail)
          go_loop [17] (fun t => ∃ q : Nat, q ≤ s.size ∧ t = .int .i64 (q : Int) ∧ Hid (namesL (s.data.toList.drop q) = true)) (fun t => s.size - (intOf t).toNat)
          case atStart => exact ⟨0, Nat.zero_le _, rfl, HA⟩
          case round =>
            obtain ⟨q, hq, rfl, HT⟩ := hrel
            by_cases hlt : q < s.size
            · have hs := HT.out
              rw [names_from hlt, Bool.and_eq_true] at hs
              have hn := hs.1
              have HN := Lib.hid hs.2
              clear hs
              unfold nameB at hn
              cases hl : letterB (bt s q)
              · rw [hl, Bool.false_or] at hn
                go_wp2_with (first | (go_at_call 69; (with_reducible refine (lv _ _).mono ?_); rintro e w9 ⟨rfl, rfl⟩) | (go_at_call 67; (with_reducible refine (dv _ _).mono ?_); rintro e w9 ⟨rfl, rfl⟩) | (go_at_call 68; (with_reducible refine HRES.out.mono ?_); rintro e w9 ⟨rfl, rfl⟩) | fail)
                go_round
                case rel => exact ⟨q + 1, by omega, by go_num, HN⟩
                case measure => simp [intOf]; omega
              · clear hn
                go_wp2_with (first | (go_at_call 69; (with_reducible refine (lv _ _).mono ?_); rintro e w9 ⟨rfl, rfl⟩) | (go_at_call 67; (with_reducible refine (dv _ _).mono ?_); rintro e w9 ⟨rfl, rfl⟩) | (go_at_call 68; (with_reducible refine HRES.out.mono ?_); rintro e w9 ⟨rfl, rfl⟩) | fail)
                go_round
                case rel => exact ⟨q + 1, by omega, by go_num, HN⟩
                case measure => simp [intOf]; omega
            · go_wp2
              go_ret
              exact ⟨rfl, rfl⟩
        · go_enter Tryz.func48, Tryz.ntmps48
          go_wp2_with (first | (go_at_call 69; (with_reducible refine (lv _ _).mono ?_); rintro e w9 ⟨rfl, rfl⟩) | (go_at_call 67; (with_reducible refine (dv _ _).mono ?_); rintro e w9 ⟨rfl, rfl⟩) | (go_at_call 68; (with_reducible refine HRES.out.mono ?_); rintro e w9 ⟨rfl, rfl⟩) | fail)
          go_ret
          exact ⟨rfl, rfl⟩
      · go_enter Tryz.func48, Tryz.ntmps48
        go_wp2_with (first | (go_at_call 69; (with_reducible refine (lv _ _).mono ?_); rintro e w9 ⟨rfl, rfl⟩) | (go_at_call 67; (with_reducible refine (dv _ _).mono ?_); rintro e w9 ⟨rfl, rfl⟩) | (go_at_call 68; (with_reducible refine HRES.out.mono ?_); rintro e w9 ⟨rfl, rfl⟩) | fail)
        go_ret
        exact ⟨rfl, rfl⟩
    · obtain ⟨rv, hrv⟩ := Reserved_b s w hm hz
      have HRES := Lib.hid hrv
      clear hrv
      have HR := Lib.hid (show isName s.data.toList = false by rw [HE.out, Bool.eq_false_iff.2 hall, Bool.and_false])
      rw [HR.out]
      cases hd : digitB (bt s 0)
      · go_enter Tryz.func48, Tryz.ntmps48
        have HA := Lib.hid (show namesL (s.data.toList.drop 0) = false from Bool.eq_false_iff.2 hall)
        clear HE hall hm
        cases rv
        rotate_left
        · go_wp2_with (first | (go_at_call 69; (with_reducible refine (lv _ _).mono ?_); rintro e w9 ⟨rfl, rfl⟩) | (go_at_call 67; (with_reducible refine (dv _ _).mono ?_); rintro e w9 ⟨rfl, rfl⟩) | (go_at_call 68; (with_reducible refine HRES.out.mono ?_); rintro e w9 ⟨rfl, rfl⟩) | fail)
          go_ret
          exact ⟨rfl, rfl⟩
        go_wp2_with (first | (go_at_call 69; (with_reducible refine (lv _ _).mono ?_); rintro e w9 ⟨rfl, rfl⟩) | (go_at_call 67; (with_reducible refine (dv _ _).mono ?_); rintro e w9 ⟨rfl, rfl⟩) | (go_at_call 68; (with_reducible refine HRES.out.mono ?_); rintro e w9 ⟨rfl, rfl⟩) | fail)
        go_loop [17] (fun t => ∃ q : Nat, q ≤ s.size ∧ t = .int .i64 (q : Int) ∧ Hid (namesL (s.data.toList.drop q) = false)) (fun t => s.size - (intOf t).toNat)
        case atStart => exact ⟨0, Nat.zero_le _, rfl, HA⟩
        case round =>
          obtain ⟨q, hq, rfl, HT⟩ := hrel
          by_cases hlt : q < s.size
          · have HS := Lib.hid ((names_from hlt).symm.trans HT.out)
            have HN := Lib.hid (show nameB (bt s q) = (letterB (bt s q) || digitB (bt s q)) from rfl)
            cases hl : letterB (bt s q)
            · cases hdd : digitB (bt s q)
              · go_wp2_with (first | (go_at_call 69; (with_reducible refine (lv _ _).mono ?_); rintro e w9 ⟨rfl, rfl⟩) | (go_at_call 67; (with_reducible refine (dv _ _).mono ?_); rintro e w9 ⟨rfl, rfl⟩) | (go_at_call 68; (with_reducible refine HRES.out.mono ?_); rintro e w9 ⟨rfl, rfl⟩) | fail)
                go_ret
                exact ⟨rfl, rfl⟩
              · go_wp2_with (first | (go_at_call 69; (with_reducible refine (lv _ _).mono ?_); rintro e w9 ⟨rfl, rfl⟩) | (go_at_call 67; (with_reducible refine (dv _ _).mono ?_); rintro e w9 ⟨rfl, rfl⟩) | (go_at_call 68; (with_reducible refine HRES.out.mono ?_); rintro e w9 ⟨rfl, rfl⟩) | fail)
                go_round
                case rel => exact ⟨q + 1, by omega, by go_num, Lib.hid (by have := HS.out; rw [HN.out, hl, hdd] at this; simpa using this)⟩
                case measure => simp [intOf]; omega
            · go_wp2_with (first | (go_at_call 69; (with_reducible refine (lv _ _).mono ?_); rintro e w9 ⟨rfl, rfl⟩) | (go_at_call 67; (with_reducible refine (dv _ _).mono ?_); rintro e w9 ⟨rfl, rfl⟩) | (go_at_call 68; (with_reducible refine HRES.out.mono ?_); rintro e w9 ⟨rfl, rfl⟩) | fail)
              go_round
              case rel => exact ⟨q + 1, by omega, by go_num, Lib.hid (by have := HS.out; rw [HN.out, hl] at this; simpa using this)⟩
              case measure => simp [intOf]; omega
          · exfalso
            have h9 := HT.out
            rw [List.drop_of_length_le (by simp; omega)] at h9
            cases h9
      · go_enter Tryz.func48, Tryz.ntmps48
        go_wp2_with (first | (go_at_call 69; (with_reducible refine (lv _ _).mono ?_); rintro e w9 ⟨rfl, rfl⟩) | (go_at_call 67; (with_reducible refine (dv _ _).mono ?_); rintro e w9 ⟨rfl, rfl⟩) | (go_at_call 68; (with_reducible refine HRES.out.mono ?_); rintro e w9 ⟨rfl, rfl⟩) | fail)
        go_ret
        exact ⟨rfl, rfl⟩
end
section
set_option linter.unusedVariables false
set_option linter.unusedSimpArgs false
set_option linter.unnecessarySimpa false
open Go.RowKit
attribute [local go_sem] cell_alloc_add cell_set_add lt_more get_btT
theorem letter_digit {c : Nat} (h : letterB c = true) : digitB c = false := by
  simp [letterB, digitB] at *
  omega
theorem isName_letter {s : ByteArray} (h : 0 < s.size) : isName s.data.toList = (letterB (bt s 0) && !reserved s.data.toList && namesL (s.data.toList.drop 1)) := by
  rw [isName_eq s h]
  have h0 := names_from h
  rw [show s.data.toList.drop 0 = s.data.toList from rfl] at h0
  rw [h0]
  unfold nameB
  cases hl : letterB (bt s 0)
  · cases digitB (bt s 0) <;> simp
  · rw [letter_digit hl]; simp
theorem nonempty_str {s : ByteArray} (h : 0 < s.size) : s.toList.isEmpty = false ∧ s.toList ≠ [] := by
  have := str_eq s ⟨#[]⟩
  cases hl : s.toList with
  | nil =>
    rw [hl] at this
    have h9 : s.data.toList = [] := by simpa using this
    have h8 : s.size = 0 := by show s.data.size = 0; rw [← Array.length_toList, h9]; rfl
    omega
  | cons a l => exact ⟨rfl, by simp⟩
theorem empty_str {s : ByteArray} (h : s.size = 0) : s = ⟨#[]⟩ := by
  apply ByteArray.ext
  apply Array.eq_empty_of_size_eq_zero
  exact h
set_option maxRecDepth 100000 in
set_option maxHeartbeats 4000000 in
theorem IsName_any (s : ByteArray) (hz : s.size ≤ 4000000000000) (w : World) : Calls Tryz.prog 87 #[.string s] w fun e w' => e = .returned (.bool (isName s.data.toList)) ∧ Below w.heap.size w w' := by
  by_cases h0 : s.size = 0
  · obtain rfl := empty_str h0
    go_enter Tryz.func87, Tryz.ntmps87
    go_wp2
    go_ret
    exact ⟨rfl, Below.refl _ _⟩
  · have hpos : 0 < s.size := by omega
    obtain ⟨hne, hne2⟩ := nonempty_str hpos
    have HRES := Lib.hid (rReserved_any s w)
    rw [isName_letter hpos]
    cases hl : letterB (bt s 0)
    · go_enter Tryz.func87, Tryz.ntmps87
      go_wp2_with (first | (go_at_call 102; (with_reducible refine (rlv _ _).mono ?_); rintro e w9 ⟨rfl, rfl⟩) | (go_at_call 104; (with_reducible refine (rdv _ _).mono ?_); rintro e w9 ⟨rfl, rfl⟩) | (go_at_call 103; (with_reducible refine HRES.out.mono ?_); rintro e w1 ⟨rfl, b1⟩) | fail)
      go_ret
      exact ⟨rfl, Below.refl _ _⟩
    · cases hr : reserved s.data.toList
      · obtain ⟨R, hR⟩ : ∃ R, R = namesL (s.data.toList.drop 1) := ⟨_, rfl⟩
        simp only [Bool.not_false, Bool.true_and, Bool.and_true]
        rw [← hR]
        have HA := Lib.hid hR.symm
        clear hR
        go_enter Tryz.func87, Tryz.ntmps87
        go_wp2_with (first | (go_at_call 102; (with_reducible refine (rlv _ _).mono ?_); rintro e w9 ⟨rfl, rfl⟩) | (go_at_call 104; (with_reducible refine (rdv _ _).mono ?_); rintro e w9 ⟨rfl, rfl⟩) | (go_at_call 103; (with_reducible refine HRES.out.mono ?_); rintro e w1 ⟨rfl, b1⟩) | fail)
        go_loop [3] (fun t => ∃ q : Nat, q ≤ s.size ∧ t = .int .i64 (q : Int) ∧ Hid (namesL (s.data.toList.drop q) = R)) (fun t => s.size - (intOf t).toNat)
        case atStart => exact ⟨1, by omega, rfl, HA⟩
        case round =>
          clear hl
          obtain ⟨q, hq, rfl, HT⟩ := hrel
          by_cases hlt : q < s.size
          · have HS := Lib.hid ((names_from hlt).symm.trans HT.out)
            have HN := Lib.hid (show nameB (bt s q) = (letterB (bt s q) || digitB (bt s q)) from rfl)
            cases hl : letterB (bt s q)
            · cases hdd : digitB (bt s q)
              · have hRf : R = false := by rw [← HS.out, HN.out, hl, hdd]; rfl
                subst hRf
                go_wp2_with (first | (go_at_call 102; (with_reducible refine (rlv _ _).mono ?_); rintro e w9 ⟨rfl, rfl⟩) | (go_at_call 104; (with_reducible refine (rdv _ _).mono ?_); rintro e w9 ⟨rfl, rfl⟩) | (go_at_call 103; (with_reducible refine HRES.out.mono ?_); rintro e w1 ⟨rfl, b1⟩) | fail)
                go_ret
                exact ⟨rfl, b1⟩
              · go_wp2_with (first | (go_at_call 102; (with_reducible refine (rlv _ _).mono ?_); rintro e w9 ⟨rfl, rfl⟩) | (go_at_call 104; (with_reducible refine (rdv _ _).mono ?_); rintro e w9 ⟨rfl, rfl⟩) | (go_at_call 103; (with_reducible refine HRES.out.mono ?_); rintro e w1 ⟨rfl, b1⟩) | fail)
                go_round
                case rel => exact ⟨q + 1, by omega, by go_num, Lib.hid (by have := HS.out; rw [HN.out, hl, hdd] at this; simpa using this)⟩
                case measure => simp [intOf]; omega
            · go_wp2_with (first | (go_at_call 102; (with_reducible refine (rlv _ _).mono ?_); rintro e w9 ⟨rfl, rfl⟩) | (go_at_call 104; (with_reducible refine (rdv _ _).mono ?_); rintro e w9 ⟨rfl, rfl⟩) | (go_at_call 103; (with_reducible refine HRES.out.mono ?_); rintro e w1 ⟨rfl, b1⟩) | fail)
              go_round
              case rel => exact ⟨q + 1, by omega, by go_num, Lib.hid (by have := HS.out; rw [HN.out, hl] at this; simpa using this)⟩
              case measure => simp [intOf]; omega
          · have h9 := HT.out
            rw [List.drop_of_length_le (by simp; omega)] at h9
            have hRt : R = true := h9.symm
            subst hRt
            clear h9
            go_wp2
            go_ret
            exact ⟨rfl, b1⟩
      · go_enter Tryz.func87, Tryz.ntmps87
        go_wp2_with (first | (go_at_call 102; (with_reducible refine (rlv _ _).mono ?_); rintro e w9 ⟨rfl, rfl⟩) | (go_at_call 104; (with_reducible refine (rdv _ _).mono ?_); rintro e w9 ⟨rfl, rfl⟩) | (go_at_call 103; (with_reducible refine HRES.out.mono ?_); rintro e w1 ⟨rfl, b1⟩) | fail)
        go_ret
        exact ⟨rfl, b1⟩
/-! ### texts between dots -/
theorem dots_snoc (acc : List UInt8) : ∀ (l : List UInt8) (c : UInt8) , c ≠ 46 → (∀ x ∈ l, x ≠ 46) → dots acc (l ++ [c]) = [acc ++ l ++ [c]]
  | [], c, hc, _ => by simp [dots, hc]
  | a :: l, c, hc, hl => by
    have ha : a ≠ 46 := hl a (by simp)
    simp only [List.cons_append, dots, if_neg ha]
    rw [dots_snoc (acc ++ [a]) l c hc (fun x hx => hl x (by simp [hx]))]
    simp
/-- What is still to be asked, with a part begun. -/
def dotsB (acc l : List UInt8) : Bool := (dots acc l).all isName
theorem dotsB_nil (acc : List UInt8) : dotsB acc [] = isName acc := by simp [dotsB, dots]
theorem dotsB_dot (acc l : List UInt8) : dotsB acc (46 :: l) = (isName acc && dotsB [] l) := by simp [dotsB, dots]
theorem dotsB_other (acc : List UInt8) {c : UInt8} (l : List UInt8) (h : c ≠ 46) : dotsB acc (c :: l) = dotsB (acc ++ [c]) l := by simp [dotsB, dots, h]
theorem drop_at {s : ByteArray} {j : Nat} (h : j < s.size) : s.data.toList.drop j = s.data.toList[j]'(by simpa using h) :: s.data.toList.drop (j + 1) := List.drop_eq_getElem_cons (by simpa using h)
theorem extract_one {s : ByteArray} {i : Nat} (h : i < s.size) : (s.extract i (i + 1)).data.toList = [s.data.toList[i]'(by simpa using h)] := by
  have : i < s.data.toList.length := by simpa using h
  rw [ByteArray.data_extract]
  simp [List.take_one, List.drop_eq_getElem_cons this]
set_option maxRecDepth 100000 in
set_option maxHeartbeats 4000000 in
theorem dotted_any (s : ByteArray) (hz : s.size ≤ 4000000000) (w : World) : Calls Tryz.prog 89 #[.string s] w fun e w' => e = .returned (.bool (dottedB s.data.toList)) ∧ Below w.heap.size w w' := by
  obtain ⟨R, hR⟩ : ∃ R, R = dottedB s.data.toList := ⟨_, rfl⟩
  rw [← hR]
  have HA := Lib.hid (show dotsB (⟨#[]⟩ : ByteArray).data.toList (s.data.toList.drop 0) = R from hR.symm)
  clear hR
  go_enter Tryz.func89, Tryz.ntmps89
  go_wp2
  go_loopw [3, 4] (fun pt t wr => ∃ (q : Nat) (a : ByteArray), q ≤ s.size ∧ t = .int .i64 (q : Int) ∧ pt = .string a ∧ a.size ≤ q ∧ Hid (dotsB a.data.toList (s.data.toList.drop q) = R) ∧ Below w.heap.size w wr) (fun _ t _ => s.size - (intOf t).toNat)
  case atStart => exact ⟨0, ⟨#[]⟩, Nat.zero_le _, rfl, rfl, Nat.le_refl _, HA, Below.refl _ _⟩
  case round =>
    obtain ⟨q, a, hq, rfl, rfl, ha, HT, hb⟩ := hrel
    have HI := Lib.hid (IsName_any a (by omega) wr)
    by_cases hlt : q < s.size
    · have hd := HT.out
      rw [drop_at hlt] at hd
      have HD := Lib.hid hd
      have HB := Lib.hid (data_at hlt)
      have HX := Lib.hid (extract_one hlt)
      clear hd
      generalize hc : s.data.toList[q]'(by simpa using hlt) = c at *
      clear hc
      have hbt := HB.out
      by_cases h46 : c = 46
      · subst h46
        have hb46 : bt s q = 46 := hbt
        have HD2 := Lib.hid ((dotsB_dot _ _).symm.trans HD.out)
        clear hbt
        cases hn : isName a.data.toList
        · have hRf : R = false := by rw [← HD2.out, hn]; rfl
          subst hRf
          go_wp2_with (first | (go_at_call 87; (with_reducible refine HI.out.mono ?_); rintro e w1 ⟨rfl, b1⟩) | fail)
          go_ret
          exact ⟨rfl, hb.trans (b1.mono hb.size)⟩
        · go_wp2_with (first | (go_at_call 87; (with_reducible refine HI.out.mono ?_); rintro e w1 ⟨rfl, b1⟩) | fail)
          exact ⟨⟨q + 1, ⟨#[]⟩, by omega, by go_num, rfl, Nat.zero_le _, Lib.hid (by have := HD2.out; rw [hn, Bool.true_and] at this; exact this), hb.trans (b1.mono hb.size)⟩, by simp [intOf]; omega⟩
      · have hb46 : ((bt s q : Int) == 46) = false := by
          rw [hbt]
          simp
          intro e
          apply h46
          apply UInt8.toNat_inj.1
          have : (c.toNat : Int) = 46 := e
          show c.toNat = 46
          omega
        have HD2 := Lib.hid ((dotsB_other _ _ h46).symm.trans HD.out)
        have hsz : (s.extract q (q + 1)).size = 1 := by rw [ByteArray.size_extract]; omega
        clear hbt
        go_wp2
        exact ⟨⟨q + 1, a ++ s.extract q (q + 1), by omega, by go_num, rfl, by rw [ByteArray.size_append, hsz]; omega, Lib.hid (by
          rw [show (a ++ s.extract q (q + 1)).data.toList = a.data.toList ++ [c] by rw [ByteArray.data_append, Array.toList_append, HX.out]]
          exact HD2.out), hb⟩, by simp [intOf]; omega⟩
    · have h9 := HT.out
      rw [List.drop_of_length_le (by simp; omega), dotsB_nil] at h9
      subst h9
      go_wp2_with (first | (go_at_call 87; (with_reducible refine HI.out.mono ?_); rintro e w1 ⟨rfl, b1⟩) | fail)
      go_ret
      exact ⟨rfl, hb.trans (b1.mono hb.size)⟩
/-! ### a text among others -/
def amongTo (l : List UInt8) (ws : List ByteArray) (k : Nat) : Prop := ¬ l ∈ (ws.take k).map fun b => b.data.toList
theorem among_next {l : List UInt8} {ws : List ByteArray} {k : Nat} (hk : k < ws.length) (h : amongTo l ws k) (hne : (ws.getD k ⟨#[]⟩).data.toList ≠ l) : amongTo l ws (k + 1) := by
  unfold amongTo at *
  rw [List.take_succ_eq_append_getElem hk, List.map_append, List.mem_append]
  rintro (h1 | h1)
  · exact h h1
  · have e : ws.getD k ⟨#[]⟩ = ws[k] := by simp [List.getD, hk]
    rw [e] at hne
    simp at h1
    exact hne h1.symm
def amongB (l : List UInt8) (ws : List ByteArray) : Bool := decide (l ∈ ws.map fun b => b.data.toList)
set_option maxRecDepth 100000 in
set_option maxHeartbeats 4000000 in
theorem rAmong_any (s : ByteArray) (ws : List ByteArray) (n : Nat) (hn : ws.length = n) (hn2 : n ≤ 1000) (g : Nat) (w : World) (hc : ∀ k, k < n → w.cell? ⟨g, k, none⟩ = some (.string (ws.getD k ⟨#[]⟩))) :
    Calls Tryz.prog 88 #[.string s, .slice (some ⟨g, 0, none⟩) n n] w fun e w' => e = .returned (.bool (amongB s.data.toList ws)) ∧ w = w' := by
  have HC := Lib.hid hc
  have HN := Lib.hid hn
  clear hc hn
  go_enter Tryz.func88, Tryz.ntmps88
  go_wp2
  go_loop [5] (fun t => ∃ k : Nat, k ≤ n ∧ t = .int .i64 (k : Int) ∧ Hid (amongTo s.data.toList ws k)) (fun t => n - (intOf t).toNat)
  case atStart => exact ⟨0, Nat.zero_le _, rfl, Lib.hid (by simp [amongTo])⟩
  case round =>
    obtain ⟨k, hk, rfl, HT⟩ := hrel
    by_cases hlt : k < n
    · have c0 := HC.out k hlt
      have HNX := Lib.hid (fun e => among_next (by rw [HN.out]; exact hlt) HT.out e)
      have HY := Lib.hid (fun e : (ws.getD k ⟨#[]⟩).data.toList = s.data.toList => (show amongB s.data.toList ws = true by
        unfold amongB
        rw [decide_eq_true_eq, ← e]
        have hk2 : k < ws.length := by rw [HN.out]; exact hlt
        exact List.mem_map_of_mem (f := fun b : ByteArray => b.data.toList) (by simp [hk2])))
      generalize ws.getD k ⟨#[]⟩ = x at *
      have hse := str_eq x s
      by_cases he : x.data.toList = s.data.toList
      · have hy := Lib.hid (HY.out he)
        have hse2 : (x.toList == s.toList) = true := by rw [hse]; simpa using he
        clear hse
        go_wp2
        go_ret
        exact ⟨ret_bool hy.out.symm, rfl⟩
      · have hse2 : (x.toList == s.toList) = false := by rw [hse]; simpa using he
        clear hse
        go_wp2
        go_round
        case rel => exact ⟨k + 1, by omega, by go_num, Lib.hid (HNX.out he)⟩
        case measure => simp [intOf]; omega
    · obtain rfl : k = n := by omega
      have hf0 : amongB s.data.toList ws = false := by
        have := HT.out
        unfold amongTo at this
        rw [← HN.out, List.take_length] at this
        exact decide_eq_false this
      have hf := Lib.hid hf0
      clear hf0
      go_wp2
      go_ret
      exact ⟨ret_bool hf.out.symm, rfl⟩
end
end Go.Proofs.YtpkdhciokiomlaaGreatDoor
