/- The walks of names, of the program and of the reference. -/
import Derived.Test.YtpkdhciokiomlaaDoorHLexW1
import Derived.Test.YtpkdhciokiomlaaDoorHBZ3
namespace Go.Proofs.YtpkdhciokiomlaaDoor
set_option linter.unusedVariables false
set_option linter.unusedSimpArgs false
set_option linter.unnecessarySimpa false
open Go.RowKit
theorem get_btT (q : ByteArray) (i : Nat) (h : i < q.size) : (q[i]'h).toNat = bt q i := by
  rw [data_at h, Array.getElem_toList]; rfl
attribute [local go_sem] cell_alloc_add cell_set_add lt_more get_btT
def namesL (l : List UInt8) : Bool := l.all fun c => nameB c.toNat
theorem names_from {s : ByteArray} {j : Nat} (h : j < s.size) : namesL (s.data.toList.drop j) = (nameB (bt s j) && namesL (s.data.toList.drop (j + 1))) := by
  have h2 : j < s.data.toList.length := by simpa using h
  rw [List.drop_eq_getElem_cons h2, data_at h]
  rfl
theorem isName_eq (s : ByteArray) (h : 0 < s.size) : isName s.data.toList = (!digitB (bt s 0) && !reserved s.data.toList && namesL s.data.toList) := by
  have h2 : 0 < s.data.toList.length := by simpa using h
  unfold isName
  rw [data_at h]
  obtain ⟨c, l, e⟩ : ∃ c l, s.data.toList = c :: l := by
    cases he : s.data.toList with
    | nil => rw [he] at h2; simp at h2
    | cons c l => exact ⟨c, l, rfl⟩
  simp only [e, List.isEmpty_cons, Bool.not_false, Bool.true_and, List.headD_cons, List.getElem_cons_zero]
  rfl
theorem no_space {s : ByteArray} (h : namesL s.data.toList = true) : ∀ x ∈ s.data.toList, x ≠ 32 := fun x hx e => by
  have := List.all_eq_true.1 h x hx
  rw [e] at this
  cases this
set_option maxRecDepth 100000 in
set_option maxHeartbeats 1000000 in
theorem Reserved_b (s : ByteArray) (w : World) (hm : Mx w) (hz : s.size ≤ 4000000) : ∃ b : Bool, Calls Tryd.prog 54 #[.string s] w fun e w' => e = .returned (.bool b) ∧ w = w' := by
  obtain ⟨m, hm⟩ := hm
  refine ⟨Lib.contains (⟨#[32, 98, 114, 101, 97, 107, 32, 99, 97, 116, 99, 104, 32, 99, 108, 97, 115, 115, 32, 99, 111, 110, 115, 116, 32, 99, 111, 110, 115, 116, 114, 117, 99, 116, 111, 114, 32, 99, 111, 110, 116, 105, 110, 117, 101, 32, 101, 108, 115, 101, 32, 101, 110, 117, 109, 32, 101, 120, 112, 111, 114, 116, 32, 101, 120, 116, 101, 110, 100, 115, 32, 102, 97, 108, 115, 101, 32, 102, 105, 110, 97, 108, 108, 121, 32, 102, 111, 114, 32, 102, 117, 110, 99, 116, 105, 111, 110, 32, 105, 102, 32, 105, 109, 112, 108, 101, 109, 101, 110, 116, 115, 32, 105, 110, 32, 105, 110, 116, 101, 114, 102, 97, 99, 101, 32, 108, 101, 116, 32, 110, 97, 109, 101, 115, 112, 97, 99, 101, 32, 110, 101, 119, 32, 110, 117, 108, 108, 32, 111, 102, 32, 112, 117, 98, 108, 105, 99, 32, 114, 101, 97, 100, 111, 110, 108, 121, 32, 114, 101, 116, 117, 114, 110, 32, 115, 117, 112, 101, 114, 32, 116, 104, 105, 115, 32, 116, 104, 114, 111, 119, 32, 116, 114, 117, 101, 32, 116, 114, 121, 32, 116, 121, 112, 101, 32, 116, 121, 112, 101, 111, 102, 32, 117, 110, 100, 101, 102, 105, 110, 101, 100, 32, 119, 104, 105, 108, 101, 32, 97, 115, 32]⟩ : ByteArray).data.toList ((⟨#[32]⟩ ++ s ++ ⟨#[32]⟩ : ByteArray)).data.toList, ?_⟩
  go_enter Tryd.func54, Tryd.ntmps54
  go_wp2_with (go_at_call 51; (with_reducible refine (Tryd.strings_Contains ⟨#[32, 98, 114, 101, 97, 107, 32, 99, 97, 116, 99, 104, 32, 99, 108, 97, 115, 115, 32, 99, 111, 110, 115, 116, 32, 99, 111, 110, 115, 116, 114, 117, 99, 116, 111, 114, 32, 99, 111, 110, 116, 105, 110, 117, 101, 32, 101, 108, 115, 101, 32, 101, 110, 117, 109, 32, 101, 120, 112, 111, 114, 116, 32, 101, 120, 116, 101, 110, 100, 115, 32, 102, 97, 108, 115, 101, 32, 102, 105, 110, 97, 108, 108, 121, 32, 102, 111, 114, 32, 102, 117, 110, 99, 116, 105, 111, 110, 32, 105, 102, 32, 105, 109, 112, 108, 101, 109, 101, 110, 116, 115, 32, 105, 110, 32, 105, 110, 116, 101, 114, 102, 97, 99, 101, 32, 108, 101, 116, 32, 110, 97, 109, 101, 115, 112, 97, 99, 101, 32, 110, 101, 119, 32, 110, 117, 108, 108, 32, 111, 102, 32, 112, 117, 98, 108, 105, 99, 32, 114, 101, 97, 100, 111, 110, 108, 121, 32, 114, 101, 116, 117, 114, 110, 32, 115, 117, 112, 101, 114, 32, 116, 104, 105, 115, 32, 116, 104, 114, 111, 119, 32, 116, 114, 117, 101, 32, 116, 114, 121, 32, 116, 121, 112, 101, 32, 116, 121, 112, 101, 111, 102, 32, 117, 110, 100, 101, 102, 105, 110, 101, 100, 32, 119, 104, 105, 108, 101, 32, 97, 115, 32]⟩ _ m w (by decide) hm).mono ?_); rintro e w1 ⟨rfl, rfl⟩)
  go_ret
  exact ⟨rfl, rfl⟩
theorem lv (c : Nat) (w : World) : Calls Tryd.prog 55 #[.int .u8 (c : Int)] w fun e w' => e = .returned (.bool (letterB c)) ∧ w = w' := (Letter_any c w).mono fun _ _ ⟨h1, h2⟩ => ⟨h1, h2.symm⟩
theorem dv (c : Nat) (w : World) : Calls Tryd.prog 53 #[.int .u8 (c : Int)] w fun e w' => e = .returned (.bool (digitB c)) ∧ w = w' := (Digit_any c w).mono fun _ _ ⟨h1, h2⟩ => ⟨h1, h2.symm⟩
set_option maxRecDepth 100000 in
set_option maxHeartbeats 4000000 in
theorem Name_any (s : ByteArray) (hz : s.size ≤ 4000000) (w : World) (hm : Mx w) : Calls Tryd.prog 36 #[.string s] w fun e w' => e = .returned (.bool (isName s.data.toList)) ∧ w = w' := by
  by_cases h0 : s.size = 0
  · have he : s = ⟨#[]⟩ := by
      apply ByteArray.ext
      apply Array.eq_empty_of_size_eq_zero
      exact h0
    subst he
    go_enter Tryd.func36, Tryd.ntmps36
    go_wp2
    go_ret
    exact ⟨rfl, rfl⟩
  · have hpos : 0 < s.size := by omega
    have HE := Lib.hid (isName_eq s hpos)
    have hne : s.toList.isEmpty = false := by
      have := str_eq s ⟨#[]⟩
      cases hl : s.toList with
      | nil =>
        rw [hl] at this
        have h9 : s.data.toList = [] := by simpa using this
        exact absurd (show s.size = 0 by show s.data.size = 0; rw [← Array.length_toList, h9]; rfl) h0
      | cons a l => rfl
    have hne2 : s.toList ≠ [] := fun e => by rw [e] at hne; cases hne
    by_cases hall : namesL s.data.toList = true
    · have HRES := Lib.hid ((Reserved_any s w hm hz (no_space hall)).mono fun _ _ ⟨h1, h2⟩ => (⟨h1, h2.symm⟩ : _ ∧ w = _))
      rw [HE.out, hall, Bool.and_true]
      have HA := Lib.hid (show namesL (s.data.toList.drop 0) = true from hall)
      clear HE hall hm
      cases hd : digitB (bt s 0)
      · cases hr : reserved s.data.toList
        · go_enter Tryd.func36, Tryd.ntmps36
          go_wp2_with (first | (go_at_call 55; (with_reducible refine (lv _ _).mono ?_); rintro e w9 ⟨rfl, rfl⟩) | (go_at_call 53; (with_reducible refine (dv _ _).mono ?_); rintro e w9 ⟨rfl, rfl⟩) | (go_at_call 54; (with_reducible refine HRES.out.mono ?_); rintro e w9 ⟨rfl, rfl⟩) | fail)
          go_loop [17] (fun t => ∃ q : Nat, q ≤ s.size ∧ t = .int .i64 (q : Int) ∧ Hid (namesL (s.data.toList.drop q) = true)) (fun t => s.size - (intOf t).toNat)
          case atStart => exact ⟨0, Nat.zero_le _, rfl, HA⟩
          case round =>
            obtain ⟨q, hq, rfl, HT⟩ := hrel
            by_cases hlt : q < s.size
            · have hs := HT.out
              rw [names_from hlt, Bool.and_eq_true] at hs
              have hn := hs.1
              have HN := Lib.hid hs.2
              clear hs
              unfold nameB at hn
              cases hl : letterB (bt s q)
              · rw [hl, Bool.false_or] at hn
                go_wp2_with (first | (go_at_call 55; (with_reducible refine (lv _ _).mono ?_); rintro e w9 ⟨rfl, rfl⟩) | (go_at_call 53; (with_reducible refine (dv _ _).mono ?_); rintro e w9 ⟨rfl, rfl⟩) | (go_at_call 54; (with_reducible refine HRES.out.mono ?_); rintro e w9 ⟨rfl, rfl⟩) | fail)
                go_round
                case rel => exact ⟨q + 1, by omega, by go_num, HN⟩
                case measure => simp [intOf]; omega
              · clear hn
                go_wp2_with (first | (go_at_call 55; (with_reducible refine (lv _ _).mono ?_); rintro e w9 ⟨rfl, rfl⟩) | (go_at_call 53; (with_reducible refine (dv _ _).mono ?_); rintro e w9 ⟨rfl, rfl⟩) | (go_at_call 54; (with_reducible refine HRES.out.mono ?_); rintro e w9 ⟨rfl, rfl⟩) | fail)
                go_round
                case rel => exact ⟨q + 1, by omega, by go_num, HN⟩
                case measure => simp [intOf]; omega
            · go_wp2
              go_ret
              exact ⟨rfl, rfl⟩
        · go_enter Tryd.func36, Tryd.ntmps36
          go_wp2_with (first | (go_at_call 55; (with_reducible refine (lv _ _).mono ?_); rintro e w9 ⟨rfl, rfl⟩) | (go_at_call 53; (with_reducible refine (dv _ _).mono ?_); rintro e w9 ⟨rfl, rfl⟩) | (go_at_call 54; (with_reducible refine HRES.out.mono ?_); rintro e w9 ⟨rfl, rfl⟩) | fail)
          go_ret
          exact ⟨rfl, rfl⟩
      · go_enter Tryd.func36, Tryd.ntmps36
        go_wp2_with (first | (go_at_call 55; (with_reducible refine (lv _ _).mono ?_); rintro e w9 ⟨rfl, rfl⟩) | (go_at_call 53; (with_reducible refine (dv _ _).mono ?_); rintro e w9 ⟨rfl, rfl⟩) | (go_at_call 54; (with_reducible refine HRES.out.mono ?_); rintro e w9 ⟨rfl, rfl⟩) | fail)
        go_ret
        exact ⟨rfl, rfl⟩
    · obtain ⟨rv, hrv⟩ := Reserved_b s w hm hz
      have HRES := Lib.hid hrv
      clear hrv
      have HR := Lib.hid (show isName s.data.toList = false by rw [HE.out, Bool.eq_false_iff.2 hall, Bool.and_false])
      rw [HR.out]
      cases hd : digitB (bt s 0)
      · go_enter Tryd.func36, Tryd.ntmps36
        have HA := Lib.hid (show namesL (s.data.toList.drop 0) = false from Bool.eq_false_iff.2 hall)
        clear HE hall hm
        cases rv
        rotate_left
        · go_wp2_with (first | (go_at_call 55; (with_reducible refine (lv _ _).mono ?_); rintro e w9 ⟨rfl, rfl⟩) | (go_at_call 53; (with_reducible refine (dv _ _).mono ?_); rintro e w9 ⟨rfl, rfl⟩) | (go_at_call 54; (with_reducible refine HRES.out.mono ?_); rintro e w9 ⟨rfl, rfl⟩) | fail)
          go_ret
          exact ⟨rfl, rfl⟩
        go_wp2_with (first | (go_at_call 55; (with_reducible refine (lv _ _).mono ?_); rintro e w9 ⟨rfl, rfl⟩) | (go_at_call 53; (with_reducible refine (dv _ _).mono ?_); rintro e w9 ⟨rfl, rfl⟩) | (go_at_call 54; (with_reducible refine HRES.out.mono ?_); rintro e w9 ⟨rfl, rfl⟩) | fail)
        go_loop [17] (fun t => ∃ q : Nat, q ≤ s.size ∧ t = .int .i64 (q : Int) ∧ Hid (namesL (s.data.toList.drop q) = false)) (fun t => s.size - (intOf t).toNat)
        case atStart => exact ⟨0, Nat.zero_le _, rfl, HA⟩
        case round =>
          obtain ⟨q, hq, rfl, HT⟩ := hrel
          by_cases hlt : q < s.size
          · have HS := Lib.hid ((names_from hlt).symm.trans HT.out)
            have HN := Lib.hid (show nameB (bt s q) = (letterB (bt s q) || digitB (bt s q)) from rfl)
            cases hl : letterB (bt s q)
            · cases hdd : digitB (bt s q)
              · go_wp2_with (first | (go_at_call 55; (with_reducible refine (lv _ _).mono ?_); rintro e w9 ⟨rfl, rfl⟩) | (go_at_call 53; (with_reducible refine (dv _ _).mono ?_); rintro e w9 ⟨rfl, rfl⟩) | (go_at_call 54; (with_reducible refine HRES.out.mono ?_); rintro e w9 ⟨rfl, rfl⟩) | fail)
                go_ret
                exact ⟨rfl, rfl⟩
              · go_wp2_with (first | (go_at_call 55; (with_reducible refine (lv _ _).mono ?_); rintro e w9 ⟨rfl, rfl⟩) | (go_at_call 53; (with_reducible refine (dv _ _).mono ?_); rintro e w9 ⟨rfl, rfl⟩) | (go_at_call 54; (with_reducible refine HRES.out.mono ?_); rintro e w9 ⟨rfl, rfl⟩) | fail)
                go_round
                case rel => exact ⟨q + 1, by omega, by go_num, Lib.hid (by have := HS.out; rw [HN.out, hl, hdd] at this; simpa using this)⟩
                case measure => simp [intOf]; omega
            · go_wp2_with (first | (go_at_call 55; (with_reducible refine (lv _ _).mono ?_); rintro e w9 ⟨rfl, rfl⟩) | (go_at_call 53; (with_reducible refine (dv _ _).mono ?_); rintro e w9 ⟨rfl, rfl⟩) | (go_at_call 54; (with_reducible refine HRES.out.mono ?_); rintro e w9 ⟨rfl, rfl⟩) | fail)
              go_round
              case rel => exact ⟨q + 1, by omega, by go_num, Lib.hid (by have := HS.out; rw [HN.out, hl] at this; simpa using this)⟩
              case measure => simp [intOf]; omega
          · exfalso
            have h9 := HT.out
            rw [List.drop_of_length_le (by simp; omega)] at h9
            cases h9
      · go_enter Tryd.func36, Tryd.ntmps36
        go_wp2_with (first | (go_at_call 55; (with_reducible refine (lv _ _).mono ?_); rintro e w9 ⟨rfl, rfl⟩) | (go_at_call 53; (with_reducible refine (dv _ _).mono ?_); rintro e w9 ⟨rfl, rfl⟩) | (go_at_call 54; (with_reducible refine HRES.out.mono ?_); rintro e w9 ⟨rfl, rfl⟩) | fail)
        go_ret
        exact ⟨rfl, rfl⟩
end Go.Proofs.YtpkdhciokiomlaaDoor
