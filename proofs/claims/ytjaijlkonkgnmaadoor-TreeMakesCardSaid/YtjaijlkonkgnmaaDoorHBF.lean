/- Some texts of this claim, put together. -/
import Derived.Test.YtjaijlkonkgnmaaDoorHLexW1
import Derived.Test.YtjaijlkonkgnmaaDoorHBB
import Derived.Test.YtjaijlkonkgnmaaDoorHPgDec
import Derived.Test.YtjaijlkonkgnmaaDoorHBA
import Derived.Lib.SplitLaws
namespace Go.Proofs.YtjaijlkonkgnmaaDoor
section
set_option linter.unusedVariables false
set_option linter.unusedSimpArgs false
set_option linter.unnecessarySimpa false
open Go.RowKit
theorem get_btT (q : ByteArray) (i : Nat) (h : i < q.size) : (q[i]'h).toNat = bt q i := by
  rw [data_at h, Array.getElem_toList]; rfl
attribute [local go_sem] cell_alloc_add cell_set_add lt_more get_btT
def namesL (l : List UInt8) : Bool := l.all fun c => nameB c.toNat
theorem names_from {s : ByteArray} {j : Nat} (h : j < s.size) : namesL (s.data.toList.drop j) = (nameB (bt s j) && namesL (s.data.toList.drop (j + 1))) := by
  have h2 : j < s.data.toList.length := by simpa using h
  rw [List.drop_eq_getElem_cons h2, data_at h]
  rfl
theorem isName_eq (s : ByteArray) (h : 0 < s.size) : isName s.data.toList = (!digitB (bt s 0) && !reserved s.data.toList && namesL s.data.toList) := by
  have h2 : 0 < s.data.toList.length := by simpa using h
  unfold isName
  rw [data_at h]
  obtain ⟨c, l, e⟩ : ∃ c l, s.data.toList = c :: l := by
    cases he : s.data.toList with
    | nil => rw [he] at h2; simp at h2
    | cons c l => exact ⟨c, l, rfl⟩
  simp only [e, List.isEmpty_cons, Bool.not_false, Bool.true_and, List.headD_cons, List.getElem_cons_zero]
  rfl
theorem no_space {s : ByteArray} (h : namesL s.data.toList = true) : ∀ x ∈ s.data.toList, x ≠ 32 := fun x hx e => by
  have := List.all_eq_true.1 h x hx
  rw [e] at this
  cases this
set_option maxRecDepth 100000 in
set_option maxHeartbeats 1000000 in
theorem Reserved_b (s : ByteArray) (w : World) (hm : Mx w) (hz : s.size ≤ 4000000) : ∃ b : Bool, Calls Tryd.prog 64 #[.string s] w fun e w' => e = .returned (.bool b) ∧ w = w' := by
  obtain ⟨m, hm⟩ := hm
  refine ⟨Lib.contains (⟨#[32, 98, 114, 101, 97, 107, 32, 99, 97, 116, 99, 104, 32, 99, 108, 97, 115, 115, 32, 99, 111, 110, 115, 116, 32, 99, 111, 110, 115, 116, 114, 117, 99, 116, 111, 114, 32, 99, 111, 110, 116, 105, 110, 117, 101, 32, 101, 108, 115, 101, 32, 101, 110, 117, 109, 32, 101, 120, 112, 111, 114, 116, 32, 101, 120, 116, 101, 110, 100, 115, 32, 102, 97, 108, 115, 101, 32, 102, 105, 110, 97, 108, 108, 121, 32, 102, 111, 114, 32, 102, 117, 110, 99, 116, 105, 111, 110, 32, 105, 102, 32, 105, 109, 112, 108, 101, 109, 101, 110, 116, 115, 32, 105, 110, 32, 105, 110, 116, 101, 114, 102, 97, 99, 101, 32, 108, 101, 116, 32, 110, 97, 109, 101, 115, 112, 97, 99, 101, 32, 110, 101, 119, 32, 110, 117, 108, 108, 32, 111, 102, 32, 112, 117, 98, 108, 105, 99, 32, 114, 101, 97, 100, 111, 110, 108, 121, 32, 114, 101, 116, 117, 114, 110, 32, 115, 117, 112, 101, 114, 32, 116, 104, 105, 115, 32, 116, 104, 114, 111, 119, 32, 116, 114, 117, 101, 32, 116, 114, 121, 32, 116, 121, 112, 101, 32, 116, 121, 112, 101, 111, 102, 32, 117, 110, 100, 101, 102, 105, 110, 101, 100, 32, 119, 104, 105, 108, 101, 32, 97, 115, 32]⟩ : ByteArray).data.toList ((⟨#[32]⟩ ++ s ++ ⟨#[32]⟩ : ByteArray)).data.toList, ?_⟩
  go_enter Tryd.func64, Tryd.ntmps64
  go_wp2_with (go_at_call 61; (with_reducible refine (Tryd.strings_Contains ⟨#[32, 98, 114, 101, 97, 107, 32, 99, 97, 116, 99, 104, 32, 99, 108, 97, 115, 115, 32, 99, 111, 110, 115, 116, 32, 99, 111, 110, 115, 116, 114, 117, 99, 116, 111, 114, 32, 99, 111, 110, 116, 105, 110, 117, 101, 32, 101, 108, 115, 101, 32, 101, 110, 117, 109, 32, 101, 120, 112, 111, 114, 116, 32, 101, 120, 116, 101, 110, 100, 115, 32, 102, 97, 108, 115, 101, 32, 102, 105, 110, 97, 108, 108, 121, 32, 102, 111, 114, 32, 102, 117, 110, 99, 116, 105, 111, 110, 32, 105, 102, 32, 105, 109, 112, 108, 101, 109, 101, 110, 116, 115, 32, 105, 110, 32, 105, 110, 116, 101, 114, 102, 97, 99, 101, 32, 108, 101, 116, 32, 110, 97, 109, 101, 115, 112, 97, 99, 101, 32, 110, 101, 119, 32, 110, 117, 108, 108, 32, 111, 102, 32, 112, 117, 98, 108, 105, 99, 32, 114, 101, 97, 100, 111, 110, 108, 121, 32, 114, 101, 116, 117, 114, 110, 32, 115, 117, 112, 101, 114, 32, 116, 104, 105, 115, 32, 116, 104, 114, 111, 119, 32, 116, 114, 117, 101, 32, 116, 114, 121, 32, 116, 121, 112, 101, 32, 116, 121, 112, 101, 111, 102, 32, 117, 110, 100, 101, 102, 105, 110, 101, 100, 32, 119, 104, 105, 108, 101, 32, 97, 115, 32]⟩ _ m w (by decide) hm).mono ?_); rintro e w1 ⟨rfl, rfl⟩)
  go_ret
  exact ⟨rfl, rfl⟩
theorem lv (c : Nat) (w : World) : Calls Tryd.prog 65 #[.int .u8 (c : Int)] w fun e w' => e = .returned (.bool (letterB c)) ∧ w = w' := (Letter_any c w).mono fun _ _ ⟨h1, h2⟩ => ⟨h1, h2.symm⟩
theorem dv (c : Nat) (w : World) : Calls Tryd.prog 63 #[.int .u8 (c : Int)] w fun e w' => e = .returned (.bool (digitB c)) ∧ w = w' := (Digit_any c w).mono fun _ _ ⟨h1, h2⟩ => ⟨h1, h2.symm⟩
theorem rlv (c : Nat) (w : World) : Calls Tryd.prog 99 #[.int .u8 (c : Int)] w fun e w' => e = .returned (.bool (letterB c)) ∧ w = w' := (rLetter_any c w).mono fun _ _ ⟨h1, h2⟩ => ⟨h1, h2.symm⟩
theorem rdv (c : Nat) (w : World) : Calls Tryd.prog 101 #[.int .u8 (c : Int)] w fun e w' => e = .returned (.bool (digitB c)) ∧ w = w' := (rDigit_any c w).mono fun _ _ ⟨h1, h2⟩ => ⟨h1, h2.symm⟩
set_option maxRecDepth 100000 in
set_option maxHeartbeats 4000000 in
theorem Name_any (s : ByteArray) (hz : s.size ≤ 4000000) (w : World) (hm : Mx w) : Calls Tryd.prog 45 #[.string s] w fun e w' => e = .returned (.bool (isName s.data.toList)) ∧ w = w' := by
  by_cases h0 : s.size = 0
  · have he : s = ⟨#[]⟩ := by
      apply ByteArray.ext
      apply Array.eq_empty_of_size_eq_zero
      exact h0
    subst he
    go_enter Tryd.func45, Tryd.ntmps45
    go_wp2
    go_ret
    exact ⟨rfl, rfl⟩
  · have hpos : 0 < s.size := by omega
    have HE := Lib.hid (isName_eq s hpos)
    have hne : s.toList.isEmpty = false := by
      have := str_eq s ⟨#[]⟩
      cases hl : s.toList with
      | nil =>
        rw [hl] at this
        have h9 : s.data.toList = [] := by simpa using this
        exact absurd (show s.size = 0 by show s.data.size = 0; rw [← Array.length_toList, h9]; rfl) h0
      | cons a l => rfl
    have hne2 : s.toList ≠ [] := fun e => by rw [e] at hne; cases hne
    by_cases hall : namesL s.data.toList = true
    · have HRES := Lib.hid ((Reserved_any s w hm hz (no_space hall)).mono fun _ _ ⟨h1, h2⟩ => (⟨h1, h2.symm⟩ : _ ∧ w = _))
      rw [HE.out, hall, Bool.and_true]
      have HA := Lib.hid (show namesL (s.data.toList.drop 0) = true from hall)
      clear HE hall hm
      cases hd : digitB (bt s 0)
      · cases hr : reserved s.data.toList
        · go_enter Tryd.func45, Tryd.ntmps45
          go_wp2_with (first | (go_at_call 65; (with_reducible refine (lv _ _).mono ?_); rintro e w9 ⟨rfl, rfl⟩) | (go_at_call 63; (with_reducible refine (dv _ _).mono ?_); rintro e w9 ⟨rfl, rfl⟩) | (go_at_call 64; (with_reducible refine HRES.out.mono ?_); rintro e w9 ⟨rfl, rfl⟩) | fail)
          go_loop [17] (fun t => ∃ q : Nat, q ≤ s.size ∧ t = .int .i64 (q : Int) ∧ Hid (namesL (s.data.toList.drop q) = true)) (fun t => s.size - (intOf t).toNat)
          case atStart => exact ⟨0, Nat.zero_le _, rfl, HA⟩
          case round =>
            obtain ⟨q, hq, rfl, HT⟩ := hrel
            by_cases hlt : q < s.size
            · have hs := HT.out
              rw [names_from hlt, Bool.and_eq_true] at hs
              have hn := hs.1
              have HN := Lib.hid hs.2
              clear hs
              unfold nameB at hn
              cases hl : letterB (bt s q)
              · rw [hl, Bool.false_or] at hn
                go_wp2_with (first | (go_at_call 65; (with_reducible refine (lv _ _).mono ?_); rintro e w9 ⟨rfl, rfl⟩) | (go_at_call 63; (with_reducible refine (dv _ _).mono ?_); rintro e w9 ⟨rfl, rfl⟩) | (go_at_call 64; (with_reducible refine HRES.out.mono ?_); rintro e w9 ⟨rfl, rfl⟩) | fail)
                go_round
                case rel => exact ⟨q + 1, by omega, by go_num, HN⟩
                case measure => simp [intOf]; omega
              · clear hn
                go_wp2_with (first | (go_at_call 65; (with_reducible refine (lv _ _).mono ?_); rintro e w9 ⟨rfl, rfl⟩) | (go_at_call 63; (with_reducible refine (dv _ _).mono ?_); rintro e w9 ⟨rfl, rfl⟩) | (go_at_call 64; (with_reducible refine HRES.out.mono ?_); rintro e w9 ⟨rfl, rfl⟩) | fail)
                go_round
                case rel => exact ⟨q + 1, by omega, by go_num, HN⟩
                case measure => simp [intOf]; omega
            · go_wp2
              go_ret
              exact ⟨rfl, rfl⟩
        · go_enter Tryd.func45, Tryd.ntmps45
          go_wp2_with (first | (go_at_call 65; (with_reducible refine (lv _ _).mono ?_); rintro e w9 ⟨rfl, rfl⟩) | (go_at_call 63; (with_reducible refine (dv _ _).mono ?_); rintro e w9 ⟨rfl, rfl⟩) | (go_at_call 64; (with_reducible refine HRES.out.mono ?_); rintro e w9 ⟨rfl, rfl⟩) | fail)
          go_ret
          exact ⟨rfl, rfl⟩
      · go_enter Tryd.func45, Tryd.ntmps45
        go_wp2_with (first | (go_at_call 65; (with_reducible refine (lv _ _).mono ?_); rintro e w9 ⟨rfl, rfl⟩) | (go_at_call 63; (with_reducible refine (dv _ _).mono ?_); rintro e w9 ⟨rfl, rfl⟩) | (go_at_call 64; (with_reducible refine HRES.out.mono ?_); rintro e w9 ⟨rfl, rfl⟩) | fail)
        go_ret
        exact ⟨rfl, rfl⟩
    · obtain ⟨rv, hrv⟩ := Reserved_b s w hm hz
      have HRES := Lib.hid hrv
      clear hrv
      have HR := Lib.hid (show isName s.data.toList = false by rw [HE.out, Bool.eq_false_iff.2 hall, Bool.and_false])
      rw [HR.out]
      cases hd : digitB (bt s 0)
      · go_enter Tryd.func45, Tryd.ntmps45
        have HA := Lib.hid (show namesL (s.data.toList.drop 0) = false from Bool.eq_false_iff.2 hall)
        clear HE hall hm
        cases rv
        rotate_left
        · go_wp2_with (first | (go_at_call 65; (with_reducible refine (lv _ _).mono ?_); rintro e w9 ⟨rfl, rfl⟩) | (go_at_call 63; (with_reducible refine (dv _ _).mono ?_); rintro e w9 ⟨rfl, rfl⟩) | (go_at_call 64; (with_reducible refine HRES.out.mono ?_); rintro e w9 ⟨rfl, rfl⟩) | fail)
          go_ret
          exact ⟨rfl, rfl⟩
        go_wp2_with (first | (go_at_call 65; (with_reducible refine (lv _ _).mono ?_); rintro e w9 ⟨rfl, rfl⟩) | (go_at_call 63; (with_reducible refine (dv _ _).mono ?_); rintro e w9 ⟨rfl, rfl⟩) | (go_at_call 64; (with_reducible refine HRES.out.mono ?_); rintro e w9 ⟨rfl, rfl⟩) | fail)
        go_loop [17] (fun t => ∃ q : Nat, q ≤ s.size ∧ t = .int .i64 (q : Int) ∧ Hid (namesL (s.data.toList.drop q) = false)) (fun t => s.size - (intOf t).toNat)
        case atStart => exact ⟨0, Nat.zero_le _, rfl, HA⟩
        case round =>
          obtain ⟨q, hq, rfl, HT⟩ := hrel
          by_cases hlt : q < s.size
          · have HS := Lib.hid ((names_from hlt).symm.trans HT.out)
            have HN := Lib.hid (show nameB (bt s q) = (letterB (bt s q) || digitB (bt s q)) from rfl)
            cases hl : letterB (bt s q)
            · cases hdd : digitB (bt s q)
              · go_wp2_with (first | (go_at_call 65; (with_reducible refine (lv _ _).mono ?_); rintro e w9 ⟨rfl, rfl⟩) | (go_at_call 63; (with_reducible refine (dv _ _).mono ?_); rintro e w9 ⟨rfl, rfl⟩) | (go_at_call 64; (with_reducible refine HRES.out.mono ?_); rintro e w9 ⟨rfl, rfl⟩) | fail)
                go_ret
                exact ⟨rfl, rfl⟩
              · go_wp2_with (first | (go_at_call 65; (with_reducible refine (lv _ _).mono ?_); rintro e w9 ⟨rfl, rfl⟩) | (go_at_call 63; (with_reducible refine (dv _ _).mono ?_); rintro e w9 ⟨rfl, rfl⟩) | (go_at_call 64; (with_reducible refine HRES.out.mono ?_); rintro e w9 ⟨rfl, rfl⟩) | fail)
                go_round
                case rel => exact ⟨q + 1, by omega, by go_num, Lib.hid (by have := HS.out; rw [HN.out, hl, hdd] at this; simpa using this)⟩
                case measure => simp [intOf]; omega
            · go_wp2_with (first | (go_at_call 65; (with_reducible refine (lv _ _).mono ?_); rintro e w9 ⟨rfl, rfl⟩) | (go_at_call 63; (with_reducible refine (dv _ _).mono ?_); rintro e w9 ⟨rfl, rfl⟩) | (go_at_call 64; (with_reducible refine HRES.out.mono ?_); rintro e w9 ⟨rfl, rfl⟩) | fail)
              go_round
              case rel => exact ⟨q + 1, by omega, by go_num, Lib.hid (by have := HS.out; rw [HN.out, hl] at this; simpa using this)⟩
              case measure => simp [intOf]; omega
          · exfalso
            have h9 := HT.out
            rw [List.drop_of_length_le (by simp; omega)] at h9
            cases h9
      · go_enter Tryd.func45, Tryd.ntmps45
        go_wp2_with (first | (go_at_call 65; (with_reducible refine (lv _ _).mono ?_); rintro e w9 ⟨rfl, rfl⟩) | (go_at_call 63; (with_reducible refine (dv _ _).mono ?_); rintro e w9 ⟨rfl, rfl⟩) | (go_at_call 64; (with_reducible refine HRES.out.mono ?_); rintro e w9 ⟨rfl, rfl⟩) | fail)
        go_ret
        exact ⟨rfl, rfl⟩
end
section
set_option linter.unusedVariables false
set_option linter.unusedSimpArgs false
set_option linter.unnecessarySimpa false
open Go.RowKit
attribute [local go_sem] cell_alloc_add cell_set_add lt_more
theorem DecW (s : ByteArray) (k : Nat) (hk : k < s.size) (hs : s.size ≤ 140737488351232) (hi m cap : Nat) (w : World) (fr : Nat × Nat) (hhi : hi = min s.size (k + 4)) (hm : m = hi - k) (hcap : m ≤ cap) :
    Calls Tryd.prog 60 #[.slice (some ⟨w.heap.size, 0, none⟩) m cap, .int .i64 0] (w.alloc (.cells (bytesRow (s.extract k hi) cap) 5 fr)).drew
      fun e w' => e = .returned (.tuple #[.int .i32 (rn s k : Int), .int .i64 (wd s k : Int), .bool (gd s k)]) ∧ Below w.heap.size w w' := by
  have hsz : (s.extract k hi).size = m := by rw [ByteArray.size_extract]; omega
  have hrd := (rd_row w (s.extract k hi) cap 5 fr).drew
  have hd := Decode_any (s.extract k hi) (some ⟨w.heap.size, 0, none⟩) cap 0 (by omega) (by omega) _ hrd
  rw [hsz] at hd
  obtain ⟨e1, e2, e3⟩ := dec_window hk
  rw [← hhi] at e1 e2 e3
  refine hd.mono fun e w' ⟨he, hw⟩ => ⟨?_, ?_⟩
  · rw [he]; exact ret_iib (by rw [← e1]; exact decR_in (i := 0) (by omega)) (by rw [← e2]; exact decN_in (i := 0) (by omega)) (by rw [← e3]; exact decG_in (i := 0) (by omega))
  · subst hw; exact ((Below.refl _ _).alloc (Nat.le_refl _) _).drew
theorem good_at {s : ByteArray} {pre : List Nat} {k : Nat} (hp : AtPlace s pre k) (hk : k < s.size) (h : good s = true) : gd s k = true := by
  have h1 : k ∈ places s := by rw [hp.1, placesAt_step hk]; simp
  exact List.all_eq_true.1 h k h1
theorem good_not {s : ByteArray} {pre : List Nat} {k : Nat} (hp : AtPlace s pre k) (hk : k < s.size) (h : gd s k = false) : good s = false := by
  rcases Bool.eq_false_or_eq_true (good s) with h1 | h1
  · have := good_at hp hk h1; rw [h] at this; cases this
  · exact h1
theorem good_end {s : ByteArray} {pre : List Nat} {k : Nat} (hp : AtPlace s pre k) (hk : ¬ k < s.size) (h : pre.all (gd s) = true) : good s = true := by
  rw [hp.fin hk] at h; exact h
set_option maxRecDepth 100000 in
set_option maxHeartbeats 4000000 in
theorem good_any (s : ByteArray) (hs : s.size ≤ 140737488351232) (w : World) : Calls Tryd.prog 42 #[.string s] w fun e w' => e = .returned (.bool (good s)) ∧ Below w.heap.size w w' := by
  have kb := fun (w : World) (x : ByteArray) => run_bytes_of_string (P := Tryd.prog) w 9 82 5 x Tryd.underlying9 Tryd.underlying82 Tryd.underlying5
  obtain ⟨R, hR⟩ : ∃ R, R = good s := ⟨_, rfl⟩
  rw [← hR]
  have HR := Lib.hid hR
  clear hR
  go_enter Tryd.func42, Tryd.ntmps42
  go_wp2
  go_loopw [3] (fun i wr => ∃ (pre : List Nat) (k : Nat), i = .int .i64 (k : Int) ∧ AtPlace s pre k ∧ Hid (pre.all (gd s) = true) ∧ Below w.heap.size w wr) (fun i _ => s.size - (intOf i).toNat)
  case atStart => exact ⟨[], 0, rfl, AtPlace.start s, Lib.hid rfl, Below.refl _ _⟩
  case round =>
    obtain ⟨pre, k, rfl, hp, HA, hb⟩ := hrel
    have hk := hp.2
    by_cases hlt : k < s.size
    · have hw1 := wd_bd hlt
      cases hg : gd s k
      · have hRf : R = false := by rw [HR.out]; exact good_not hp hlt hg
        subst hRf
        go_wp2_with (first
          | (go_at_call 60; (with_reducible refine (DecW s k hlt hs _ _ _ wr _ (by omega) (by omega) (by first | exact grownCap_ge _ _ _ _ | omega)).mono ?_); rintro e w1 ⟨rfl, hb1⟩)
          | fail)
        go_ret
        exact ⟨rfl, hb.trans (hb1.mono hb.size)⟩
      · go_wp2_with (first
          | (go_at_call 60; (with_reducible refine (DecW s k hlt hs _ _ _ wr _ (by omega) (by omega) (by first | exact grownCap_ge _ _ _ _ | omega)).mono ?_); rintro e w1 ⟨rfl, hb1⟩)
          | fail)
        exact ⟨⟨pre ++ [k], k + wd s k, by go_num, hp.step hlt, Lib.hid (by rw [List.all_append, HA.out]; simp [hg]), hb.trans (hb1.mono hb.size)⟩, by simp [intOf]; omega⟩
    · have hRt : R = true := by rw [HR.out]; exact good_end hp hlt HA.out
      subst hRt
      go_wp2
      go_ret
      exact ⟨rfl, hb⟩
end
section
set_option linter.unusedVariables false
set_option linter.unusedSimpArgs false
set_option linter.unnecessarySimpa false
open Go.RowKit
attribute [local go_sem] cell_alloc_add cell_set_add lt_more get_btT
theorem letter_digit {c : Nat} (h : letterB c = true) : digitB c = false := by
  simp [letterB, digitB] at *
  omega
theorem isName_letter {s : ByteArray} (h : 0 < s.size) : isName s.data.toList = (letterB (bt s 0) && !reserved s.data.toList && namesL (s.data.toList.drop 1)) := by
  rw [isName_eq s h]
  have h0 := names_from h
  rw [show s.data.toList.drop 0 = s.data.toList from rfl] at h0
  rw [h0]
  unfold nameB
  cases hl : letterB (bt s 0)
  · cases digitB (bt s 0) <;> simp
  · rw [letter_digit hl]; simp
theorem nonempty_str {s : ByteArray} (h : 0 < s.size) : s.toList.isEmpty = false ∧ s.toList ≠ [] := by
  have := str_eq s ⟨#[]⟩
  cases hl : s.toList with
  | nil =>
    rw [hl] at this
    have h9 : s.data.toList = [] := by simpa using this
    have h8 : s.size = 0 := by show s.data.size = 0; rw [← Array.length_toList, h9]; rfl
    omega
  | cons a l => exact ⟨rfl, by simp⟩
theorem empty_str {s : ByteArray} (h : s.size = 0) : s = ⟨#[]⟩ := by
  apply ByteArray.ext
  apply Array.eq_empty_of_size_eq_zero
  exact h
set_option maxRecDepth 100000 in
set_option maxHeartbeats 4000000 in
theorem IsName_any (s : ByteArray) (hz : s.size ≤ 4000000000000) (w : World) : Calls Tryd.prog 83 #[.string s] w fun e w' => e = .returned (.bool (isName s.data.toList)) ∧ Below w.heap.size w w' := by
  by_cases h0 : s.size = 0
  · obtain rfl := empty_str h0
    go_enter Tryd.func83, Tryd.ntmps83
    go_wp2
    go_ret
    exact ⟨rfl, Below.refl _ _⟩
  · have hpos : 0 < s.size := by omega
    obtain ⟨hne, hne2⟩ := nonempty_str hpos
    have HRES := Lib.hid (rReserved_any s w)
    rw [isName_letter hpos]
    cases hl : letterB (bt s 0)
    · go_enter Tryd.func83, Tryd.ntmps83
      go_wp2_with (first | (go_at_call 99; (with_reducible refine (rlv _ _).mono ?_); rintro e w9 ⟨rfl, rfl⟩) | (go_at_call 101; (with_reducible refine (rdv _ _).mono ?_); rintro e w9 ⟨rfl, rfl⟩) | (go_at_call 100; (with_reducible refine HRES.out.mono ?_); rintro e w1 ⟨rfl, b1⟩) | fail)
      go_ret
      exact ⟨rfl, Below.refl _ _⟩
    · cases hr : reserved s.data.toList
      · obtain ⟨R, hR⟩ : ∃ R, R = namesL (s.data.toList.drop 1) := ⟨_, rfl⟩
        simp only [Bool.not_false, Bool.true_and, Bool.and_true]
        rw [← hR]
        have HA := Lib.hid hR.symm
        clear hR
        go_enter Tryd.func83, Tryd.ntmps83
        go_wp2_with (first | (go_at_call 99; (with_reducible refine (rlv _ _).mono ?_); rintro e w9 ⟨rfl, rfl⟩) | (go_at_call 101; (with_reducible refine (rdv _ _).mono ?_); rintro e w9 ⟨rfl, rfl⟩) | (go_at_call 100; (with_reducible refine HRES.out.mono ?_); rintro e w1 ⟨rfl, b1⟩) | fail)
        go_loop [3] (fun t => ∃ q : Nat, q ≤ s.size ∧ t = .int .i64 (q : Int) ∧ Hid (namesL (s.data.toList.drop q) = R)) (fun t => s.size - (intOf t).toNat)
        case atStart => exact ⟨1, by omega, rfl, HA⟩
        case round =>
          clear hl
          obtain ⟨q, hq, rfl, HT⟩ := hrel
          by_cases hlt : q < s.size
          · have HS := Lib.hid ((names_from hlt).symm.trans HT.out)
            have HN := Lib.hid (show nameB (bt s q) = (letterB (bt s q) || digitB (bt s q)) from rfl)
            cases hl : letterB (bt s q)
            · cases hdd : digitB (bt s q)
              · have hRf : R = false := by rw [← HS.out, HN.out, hl, hdd]; rfl
                subst hRf
                go_wp2_with (first | (go_at_call 99; (with_reducible refine (rlv _ _).mono ?_); rintro e w9 ⟨rfl, rfl⟩) | (go_at_call 101; (with_reducible refine (rdv _ _).mono ?_); rintro e w9 ⟨rfl, rfl⟩) | (go_at_call 100; (with_reducible refine HRES.out.mono ?_); rintro e w1 ⟨rfl, b1⟩) | fail)
                go_ret
                exact ⟨rfl, b1⟩
              · go_wp2_with (first | (go_at_call 99; (with_reducible refine (rlv _ _).mono ?_); rintro e w9 ⟨rfl, rfl⟩) | (go_at_call 101; (with_reducible refine (rdv _ _).mono ?_); rintro e w9 ⟨rfl, rfl⟩) | (go_at_call 100; (with_reducible refine HRES.out.mono ?_); rintro e w1 ⟨rfl, b1⟩) | fail)
                go_round
                case rel => exact ⟨q + 1, by omega, by go_num, Lib.hid (by have := HS.out; rw [HN.out, hl, hdd] at this; simpa using this)⟩
                case measure => simp [intOf]; omega
            · go_wp2_with (first | (go_at_call 99; (with_reducible refine (rlv _ _).mono ?_); rintro e w9 ⟨rfl, rfl⟩) | (go_at_call 101; (with_reducible refine (rdv _ _).mono ?_); rintro e w9 ⟨rfl, rfl⟩) | (go_at_call 100; (with_reducible refine HRES.out.mono ?_); rintro e w1 ⟨rfl, b1⟩) | fail)
              go_round
              case rel => exact ⟨q + 1, by omega, by go_num, Lib.hid (by have := HS.out; rw [HN.out, hl] at this; simpa using this)⟩
              case measure => simp [intOf]; omega
          · have h9 := HT.out
            rw [List.drop_of_length_le (by simp; omega)] at h9
            have hRt : R = true := h9.symm
            subst hRt
            clear h9
            go_wp2
            go_ret
            exact ⟨rfl, b1⟩
      · go_enter Tryd.func83, Tryd.ntmps83
        go_wp2_with (first | (go_at_call 99; (with_reducible refine (rlv _ _).mono ?_); rintro e w9 ⟨rfl, rfl⟩) | (go_at_call 101; (with_reducible refine (rdv _ _).mono ?_); rintro e w9 ⟨rfl, rfl⟩) | (go_at_call 100; (with_reducible refine HRES.out.mono ?_); rintro e w1 ⟨rfl, b1⟩) | fail)
        go_ret
        exact ⟨rfl, b1⟩
/-! ### texts between dots -/
theorem dots_snoc (acc : List UInt8) : ∀ (l : List UInt8) (c : UInt8) , c ≠ 46 → (∀ x ∈ l, x ≠ 46) → dots acc (l ++ [c]) = [acc ++ l ++ [c]]
  | [], c, hc, _ => by simp [dots, hc]
  | a :: l, c, hc, hl => by
    have ha : a ≠ 46 := hl a (by simp)
    simp only [List.cons_append, dots, if_neg ha]
    rw [dots_snoc (acc ++ [a]) l c hc (fun x hx => hl x (by simp [hx]))]
    simp
/-- What is still to be asked, with a part begun. -/
def dotsB (acc l : List UInt8) : Bool := (dots acc l).all isName
theorem dotsB_nil (acc : List UInt8) : dotsB acc [] = isName acc := by simp [dotsB, dots]
theorem dotsB_dot (acc l : List UInt8) : dotsB acc (46 :: l) = (isName acc && dotsB [] l) := by simp [dotsB, dots]
theorem dotsB_other (acc : List UInt8) {c : UInt8} (l : List UInt8) (h : c ≠ 46) : dotsB acc (c :: l) = dotsB (acc ++ [c]) l := by simp [dotsB, dots, h]
theorem drop_at {s : ByteArray} {j : Nat} (h : j < s.size) : s.data.toList.drop j = s.data.toList[j]'(by simpa using h) :: s.data.toList.drop (j + 1) := List.drop_eq_getElem_cons (by simpa using h)
theorem extract_one {s : ByteArray} {i : Nat} (h : i < s.size) : (s.extract i (i + 1)).data.toList = [s.data.toList[i]'(by simpa using h)] := by
  have : i < s.data.toList.length := by simpa using h
  rw [ByteArray.data_extract]
  simp [List.take_one, List.drop_eq_getElem_cons this]
set_option maxRecDepth 100000 in
set_option maxHeartbeats 4000000 in
theorem dotted_any (s : ByteArray) (hz : s.size ≤ 4000000000) (w : World) : Calls Tryd.prog 85 #[.string s] w fun e w' => e = .returned (.bool (dottedB s.data.toList)) ∧ Below w.heap.size w w' := by
  obtain ⟨R, hR⟩ : ∃ R, R = dottedB s.data.toList := ⟨_, rfl⟩
  rw [← hR]
  have HA := Lib.hid (show dotsB (⟨#[]⟩ : ByteArray).data.toList (s.data.toList.drop 0) = R from hR.symm)
  clear hR
  go_enter Tryd.func85, Tryd.ntmps85
  go_wp2
  go_loopw [3, 4] (fun pt t wr => ∃ (q : Nat) (a : ByteArray), q ≤ s.size ∧ t = .int .i64 (q : Int) ∧ pt = .string a ∧ a.size ≤ q ∧ Hid (dotsB a.data.toList (s.data.toList.drop q) = R) ∧ Below w.heap.size w wr) (fun _ t _ => s.size - (intOf t).toNat)
  case atStart => exact ⟨0, ⟨#[]⟩, Nat.zero_le _, rfl, rfl, Nat.le_refl _, HA, Below.refl _ _⟩
  case round =>
    obtain ⟨q, a, hq, rfl, rfl, ha, HT, hb⟩ := hrel
    have HI := Lib.hid (IsName_any a (by omega) wr)
    by_cases hlt : q < s.size
    · have hd := HT.out
      rw [drop_at hlt] at hd
      have HD := Lib.hid hd
      have HB := Lib.hid (data_at hlt)
      have HX := Lib.hid (extract_one hlt)
      clear hd
      generalize hc : s.data.toList[q]'(by simpa using hlt) = c at *
      clear hc
      have hbt := HB.out
      by_cases h46 : c = 46
      · subst h46
        have hb46 : bt s q = 46 := hbt
        have HD2 := Lib.hid ((dotsB_dot _ _).symm.trans HD.out)
        clear hbt
        cases hn : isName a.data.toList
        · have hRf : R = false := by rw [← HD2.out, hn]; rfl
          subst hRf
          go_wp2_with (first | (go_at_call 83; (with_reducible refine HI.out.mono ?_); rintro e w1 ⟨rfl, b1⟩) | fail)
          go_ret
          exact ⟨rfl, hb.trans (b1.mono hb.size)⟩
        · go_wp2_with (first | (go_at_call 83; (with_reducible refine HI.out.mono ?_); rintro e w1 ⟨rfl, b1⟩) | fail)
          exact ⟨⟨q + 1, ⟨#[]⟩, by omega, by go_num, rfl, Nat.zero_le _, Lib.hid (by have := HD2.out; rw [hn, Bool.true_and] at this; exact this), hb.trans (b1.mono hb.size)⟩, by simp [intOf]; omega⟩
      · have hb46 : ((bt s q : Int) == 46) = false := by
          rw [hbt]
          simp
          intro e
          apply h46
          apply UInt8.toNat_inj.1
          have : (c.toNat : Int) = 46 := e
          show c.toNat = 46
          omega
        have HD2 := Lib.hid ((dotsB_other _ _ h46).symm.trans HD.out)
        have hsz : (s.extract q (q + 1)).size = 1 := by rw [ByteArray.size_extract]; omega
        clear hbt
        go_wp2
        exact ⟨⟨q + 1, a ++ s.extract q (q + 1), by omega, by go_num, rfl, by rw [ByteArray.size_append, hsz]; omega, Lib.hid (by
          rw [show (a ++ s.extract q (q + 1)).data.toList = a.data.toList ++ [c] by rw [ByteArray.data_append, Array.toList_append, HX.out]]
          exact HD2.out), hb⟩, by simp [intOf]; omega⟩
    · have h9 := HT.out
      rw [List.drop_of_length_le (by simp; omega), dotsB_nil] at h9
      subst h9
      go_wp2_with (first | (go_at_call 83; (with_reducible refine HI.out.mono ?_); rintro e w1 ⟨rfl, b1⟩) | fail)
      go_ret
      exact ⟨rfl, hb.trans (b1.mono hb.size)⟩
/-! ### a text among others -/
def amongTo (l : List UInt8) (ws : List ByteArray) (k : Nat) : Prop := ¬ l ∈ (ws.take k).map fun b => b.data.toList
theorem among_next {l : List UInt8} {ws : List ByteArray} {k : Nat} (hk : k < ws.length) (h : amongTo l ws k) (hne : (ws.getD k ⟨#[]⟩).data.toList ≠ l) : amongTo l ws (k + 1) := by
  unfold amongTo at *
  rw [List.take_succ_eq_append_getElem hk, List.map_append, List.mem_append]
  rintro (h1 | h1)
  · exact h h1
  · have e : ws.getD k ⟨#[]⟩ = ws[k] := by simp [List.getD, hk]
    rw [e] at hne
    simp at h1
    exact hne h1.symm
def amongB (l : List UInt8) (ws : List ByteArray) : Bool := decide (l ∈ ws.map fun b => b.data.toList)
set_option maxRecDepth 100000 in
set_option maxHeartbeats 4000000 in
theorem rAmong_any (s : ByteArray) (ws : List ByteArray) (n : Nat) (hn : ws.length = n) (hn2 : n ≤ 1000) (g : Nat) (w : World) (hc : ∀ k, k < n → w.cell? ⟨g, k, none⟩ = some (.string (ws.getD k ⟨#[]⟩))) :
    Calls Tryd.prog 84 #[.string s, .slice (some ⟨g, 0, none⟩) n n] w fun e w' => e = .returned (.bool (amongB s.data.toList ws)) ∧ w = w' := by
  have HC := Lib.hid hc
  have HN := Lib.hid hn
  clear hc hn
  go_enter Tryd.func84, Tryd.ntmps84
  go_wp2
  go_loop [5] (fun t => ∃ k : Nat, k ≤ n ∧ t = .int .i64 (k : Int) ∧ Hid (amongTo s.data.toList ws k)) (fun t => n - (intOf t).toNat)
  case atStart => exact ⟨0, Nat.zero_le _, rfl, Lib.hid (by simp [amongTo])⟩
  case round =>
    obtain ⟨k, hk, rfl, HT⟩ := hrel
    by_cases hlt : k < n
    · have c0 := HC.out k hlt
      have HNX := Lib.hid (fun e => among_next (by rw [HN.out]; exact hlt) HT.out e)
      have HY := Lib.hid (fun e : (ws.getD k ⟨#[]⟩).data.toList = s.data.toList => (show amongB s.data.toList ws = true by
        unfold amongB
        rw [decide_eq_true_eq, ← e]
        have hk2 : k < ws.length := by rw [HN.out]; exact hlt
        exact List.mem_map_of_mem (f := fun b : ByteArray => b.data.toList) (by simp [hk2])))
      generalize ws.getD k ⟨#[]⟩ = x at *
      have hse := str_eq x s
      by_cases he : x.data.toList = s.data.toList
      · have hy := Lib.hid (HY.out he)
        have hse2 : (x.toList == s.toList) = true := by rw [hse]; simpa using he
        clear hse
        go_wp2
        go_ret
        exact ⟨ret_bool hy.out.symm, rfl⟩
      · have hse2 : (x.toList == s.toList) = false := by rw [hse]; simpa using he
        clear hse
        go_wp2
        go_round
        case rel => exact ⟨k + 1, by omega, by go_num, Lib.hid (HNX.out he)⟩
        case measure => simp [intOf]; omega
    · obtain rfl : k = n := by omega
      have hf0 : amongB s.data.toList ws = false := by
        have := HT.out
        unfold amongTo at this
        rw [← HN.out, List.take_length] at this
        exact decide_eq_false this
      have hf := Lib.hid hf0
      clear hf0
      go_wp2
      go_ret
      exact ⟨ret_bool hf.out.symm, rfl⟩
end
section
set_option linter.unusedVariables false
set_option linter.unusedSimpArgs false
set_option linter.unnecessarySimpa false
open Go.RowKit
attribute [local go_sem] cell_alloc_add cell_set_add lt_more
theorem splitK_ne (c : UInt8) (hc : c ≠ 46) : ∀ (k : Nat) (l : List UInt8), ∃ h t, Lib.splitK [46] 0 k l = h :: t ∧ Lib.splitK [46] 0 k (c :: l) = (c :: h) :: t
  | 0, l => ⟨l, [], rfl, rfl⟩
  | k + 1, l => by
    have hp : ([46] : List UInt8).isPrefixOf (c :: l) = false := by simp [List.isPrefixOf, Ne.symm hc]
    have hix : Lib.index (c :: l) [46] = if Lib.index l [46] == -1 then -1 else Lib.index l [46] + 1 := by rw [Lib.index, hp]; simp
    by_cases hm : Lib.index l [46] = -1
    · refine ⟨l, [], ?_, ?_⟩
      · unfold Lib.splitK; rw [if_pos (by simpa using hm)]
      · unfold Lib.splitK; rw [if_pos (by rw [hix]; simp [hm])]
    · have hge := Lib.index_ge l [46]
      obtain ⟨j, hj⟩ : ∃ j : Nat, Lib.index l [46] = j := ⟨(Lib.index l [46]).toNat, by omega⟩
      have hix' : Lib.index (c :: l) [46] = ((j + 1 : Nat) : Int) := by rw [hix, if_neg (fun e => hm (beq_iff_eq.1 e)), hj]; omega
      refine ⟨l.take j, Lib.splitK [46] 0 k (l.drop (j + 1)), ?_, ?_⟩
      · rw [Lib.splitK, if_neg (by simp [hj] <;> omega), hj]; simp
      · rw [Lib.splitK, if_neg (by simp [hix'] <;> omega), hix']; simp
theorem dots_split : ∀ (l acc : List UInt8), ∃ h t, Lib.splitK [46] 0 (Lib.count l [46]) l = h :: t ∧ dots acc l = (acc ++ h) :: t
  | [], acc => ⟨[], [], by rw [Lib.count_one]; rfl, by simp [dots]⟩
  | c :: l, acc => by
    by_cases hc : c = 46
    · subst hc
      obtain ⟨h, t, e1, e2⟩ := dots_split l []
      have hix : Lib.index (46 :: l) [46] = 0 := by rw [Lib.index]; simp [List.isPrefixOf]
      refine ⟨[], Lib.splitK [46] 0 (Lib.count l [46]) l, ?_, ?_⟩
      · rw [Lib.count_cons_eq, show 1 + Lib.count l [46] = Lib.count l [46] + 1 by omega, Lib.splitK, if_neg (by rw [hix]; decide), hix]; simp
      · simp [dots, e2, e1]
    · obtain ⟨h, t, e1, e2⟩ := dots_split l (acc ++ [c])
      obtain ⟨h', t', f1, f2⟩ := splitK_ne c hc (Lib.count l [46]) l
      rw [e1] at f1
      injection f1 with f1 f1'
      subst f1 f1'
      refine ⟨c :: h, t, ?_, ?_⟩
      · rw [Lib.count_cons_ne c 46 l hc]; exact f2
      · simp only [dots, if_neg hc, e2]; simp
theorem dots_len : ∀ (l acc : List UInt8), ∀ p ∈ dots acc l, p.length ≤ acc.length + l.length
  | [], acc, p, hp => by simp [dots] at hp; subst hp; simp
  | c :: l, acc, p, hp => by
    unfold dots at hp
    split at hp
    · rcases List.mem_cons.1 hp with rfl | hp
      · simp
      · have := dots_len l [] p hp; simp at this ⊢; omega
    · have := dots_len l (acc ++ [c]) p hp; simp at this ⊢; omega
/-- The parts of a text between dots. -/
def partsB (s : ByteArray) : List ByteArray := Lib.splitB ⟨#[46]⟩ 0 (Lib.countB s ⟨#[46]⟩) s
theorem parts_map (s : ByteArray) : (partsB s).map (fun b => b.data.toList) = dots [] s.data.toList := by
  have h1 : (partsB s).map (fun b => b.data.toList) = Lib.splitK [46] 0 (Lib.countB s ⟨#[46]⟩) s.data.toList := Lib.splitB_data ⟨#[46]⟩ 0 _ s
  obtain ⟨h, t, e1, e2⟩ := dots_split s.data.toList []
  rw [h1, e2, List.nil_append, ← e1]
  first | rfl | done
theorem parts_len (s : ByteArray) : (partsB s).length = Lib.countB s ⟨#[46]⟩ + 1 := Lib.splitB_all ⟨#[46]⟩ (by decide) 0 _ s rfl
theorem part_size {s p : ByteArray} (h : p ∈ partsB s) : p.size ≤ s.size := by
  have h1 : p.data.toList ∈ dots [] s.data.toList := by rw [← parts_map]; exact List.mem_map_of_mem (f := fun b : ByteArray => b.data.toList) h
  have h2 := dots_len _ _ _ h1
  have e1 : p.data.toList.length = p.size := by rw [Array.length_toList]; rfl
  have e2 : s.data.toList.length = s.size := by rw [Array.length_toList]; rfl
  simp at h2
  have e3 : p.data.size = p.size := rfl
  have e4 : s.data.size = s.size := rfl
  omega
theorem dotted_parts (s : ByteArray) : dottedB s.data.toList = (partsB s).all fun b => isName b.data.toList := by
  unfold dottedB
  rw [← parts_map, List.all_map]
  rfl
theorem mem_contains (l : List UInt8) : Lib.contains l [32] = decide ((32 : UInt8) ∈ l) := by
  rw [Bool.eq_iff_iff, contains_iff, decide_eq_true_eq]
  constructor
  · rintro ⟨p, q, h⟩
    rw [← h]; simp
  · intro h
    obtain ⟨p, q, e⟩ := List.append_of_mem h
    exact ⟨p, q, by rw [e]; simp⟩
theorem mem_false (l : List UInt8) (h : Lib.contains l [32] = false) : ∀ x ∈ l, x ≠ 32 := fun x hx e => by
  subst e
  rw [mem_contains, decide_eq_false_iff_not] at h
  exact h hx
/-- Words, none of them empty, none with a blank. -/
def wordsOk (ws : List (List UInt8)) : Bool := ws.all fun w => !w.isEmpty && w.all fun x => x != 32
theorem inS_space {l : List UInt8} {ws : List (List UInt8)} (hw : wordsOk ws = true) (h : Lib.contains l [32] = true) : inS l ws = false := by
  rw [mem_contains, decide_eq_true_eq] at h
  unfold inS
  rw [decide_eq_false_iff_not]
  intro hl
  have h1 := List.all_eq_true.1 hw l hl
  rw [Bool.and_eq_true] at h1
  have h2 := List.all_eq_true.1 h1.2 32 h
  simp at h2
theorem inS_empty {ws : List (List UInt8)} (hw : wordsOk ws = true) : inS [] ws = false := by
  unfold inS
  rw [decide_eq_false_iff_not]
  intro hl
  have h1 := List.all_eq_true.1 hw [] hl
  simp at h1
theorem words_all {ws : List (List UInt8)} (hw : wordsOk ws = true) : (ws.all fun w => w.all fun x => x != 32) = true :=
  List.all_eq_true.2 fun w h => by have h1 := List.all_eq_true.1 hw w h; rw [Bool.and_eq_true] at h1; exact h1.2
theorem cat_data (s : ByteArray) : (⟨#[32]⟩ ++ s ++ ⟨#[32]⟩ : ByteArray).data.toList = 32 :: (s.data.toList ++ [32]) := by simp
set_option maxRecDepth 100000 in
set_option maxHeartbeats 4000000 in
theorem among_any (s W : ByteArray) (ws : List (List UInt8)) (hz : s.size ≤ 4000000) (hW : (⟨#[32]⟩ ++ W ++ ⟨#[32]⟩ : ByteArray).data.toList = blanked ws) (hWz : W.size ≤ 1000) (hw : wordsOk ws = true) (w : World) (hm : Mx w) :
    Calls Tryd.prog 43 #[.string s, .string W] w fun e w' => e = .returned (.bool (inS s.data.toList ws)) ∧ w = w' := by
  obtain ⟨m, hm⟩ := hm
  by_cases h0 : s.size = 0
  · obtain rfl := empty_str h0
    have hE := Lib.hid (inS_empty hw)
    go_enter Tryd.func43, Tryd.ntmps43
    go_wp2
    go_ret
    exact ⟨ret_bool hE.out.symm, rfl⟩
  · obtain ⟨hne, hne2⟩ := nonempty_str (s := s) (by omega)
    have hne3 : (!s.toList.isEmpty) = true := by rw [hne]; rfl
    have H1 := Lib.hid ((Tryd.strings_Contains s ⟨#[32]⟩ m w (by omega) hm).mono fun _ _ ⟨h1, h2⟩ => (⟨h1, h2.symm⟩ : _ ∧ w = _))
    have z1 : (⟨#[32]⟩ ++ W ++ ⟨#[32]⟩ : ByteArray).size < 4294967281 := by rw [ByteArray.size_append, ByteArray.size_append]; show 1 + W.size + 1 < _; omega
    have H2 := Lib.hid ((Tryd.strings_Contains (⟨#[32]⟩ ++ W ++ ⟨#[32]⟩) (⟨#[32]⟩ ++ s ++ ⟨#[32]⟩) m w z1 hm).mono fun _ _ ⟨h1, h2⟩ => (⟨h1, h2.symm⟩ : _ ∧ w = _))
    have hcc := Lib.hid (fun h : Lib.contains s.data.toList [32] = false => (show Lib.contains (⟨#[32]⟩ ++ W ++ ⟨#[32]⟩ : ByteArray).data.toList (⟨#[32]⟩ ++ s ++ ⟨#[32]⟩ : ByteArray).data.toList = inS s.data.toList ws by rw [hW, cat_data, among_eq _ (mem_false _ h) ws (words_all hw)]; rfl))
    have hss := Lib.hid (fun h => inS_space (l := s.data.toList) hw h)
    clear hm hW
    cases hc : Lib.contains s.data.toList [32]
    · have hr := hcc.out hc
      have H3 := H2.out
      rw [hr] at H3
      have H4 := Lib.hid H3
      have hc' : Lib.contains s.data.toList (⟨#[32]⟩ : ByteArray).data.toList = false := hc
      have H5 := H1.out
      rw [hc'] at H5
      have H6 := Lib.hid H5
      clear H1 H2 H3 H5 hcc hss hr hc hc'
      generalize inS s.data.toList ws = R at *
      go_enter Tryd.func43, Tryd.ntmps43
      go_wp2_with (first | (go_at_call 61; (with_reducible refine H6.out.mono ?_); rintro e w9 ⟨rfl, rfl⟩) | (go_at_call 61; (with_reducible refine H4.out.mono ?_); rintro e w9 ⟨rfl, rfl⟩) | fail)
      go_ret
      exact ⟨rfl, rfl⟩
    · have hr := Lib.hid (hss.out hc)
      have hc' : Lib.contains s.data.toList (⟨#[32]⟩ : ByteArray).data.toList = true := hc
      have H5 := H1.out
      rw [hc'] at H5
      have H6 := Lib.hid H5
      clear H1 H2 H5 hcc hss hc hc'
      go_enter Tryd.func43, Tryd.ntmps43
      go_wp2_with (first | (go_at_call 61; (with_reducible refine H6.out.mono ?_); rintro e w9 ⟨rfl, rfl⟩) | fail)
      go_ret
      exact ⟨ret_bool hr.out.symm, rfl⟩
end
section
set_option linter.unusedVariables false
set_option linter.unusedSimpArgs false
set_option linter.unnecessarySimpa false
open Go.RowKit
attribute [local go_sem] cell_alloc_add cell_set_add lt_more
def constB (s : ByteArray) : Bool := inS s.data.toList consts
theorem parts_next {ps : List ByteArray} {q : Nat} {f : ByteArray → Bool} (h : q < ps.length) (ht : (ps.take q).all f = true) (hn : f (ps.getD q ⟨#[]⟩) = true) : (ps.take (q + 1)).all f = true := by
  rw [List.take_succ_eq_append_getElem h, List.all_append, ht, Bool.true_and]
  have e : ps.getD q ⟨#[]⟩ = ps[q] := by simp [List.getD, h]
  rw [e] at hn
  simp [hn]
theorem parts_bad {ps : List ByteArray} {q : Nat} {f : ByteArray → Bool} (h : q < ps.length) (hn : f (ps.getD q ⟨#[]⟩) = false) : ps.all f = false := by
  have e : ps.getD q ⟨#[]⟩ = ps[q] := by simp [List.getD, h]
  rw [e] at hn
  rcases Bool.eq_false_or_eq_true (ps.all f) with h1 | h1
  · have := List.all_eq_true.1 h1 _ (List.getElem_mem h); rw [hn] at this; cases this
  · exact h1
theorem const_eq (s : ByteArray) : constB s = ((s.toList == [110, 117, 108, 108]) || (s.toList == [117, 110, 100, 101, 102, 105, 110, 101, 100]) || (s.toList == [116, 114, 117, 101]) || (s.toList == [102, 97, 108, 115, 101])) := by
  rw [ByteArray.toList_eq]
  unfold constB inS consts
  rw [Bool.eq_iff_iff]
  simp [or_assoc]
set_option maxRecDepth 100000 in
set_option maxHeartbeats 8000000 in
theorem path_any (s : ByteArray) (hz : s.size ≤ 4000000) (w : World) (hm : Mx w) (hw00 : 0 < w.heap.size) :
    Calls Tryd.prog 44 #[.string s] w fun e w' => e = .returned (.bool (dottedB s.data.toList || constB s)) ∧ Below w.heap.size w w' := by
  have HC := Lib.hid (const_eq s)
  have hmx := Lib.hid hm
  obtain ⟨m, hm⟩ := hm
  have hS : Calls Tryd.prog 62 #[.string s, .string ⟨#[46]⟩] w fun e w' => e = .returned (.slice (some ⟨w.heap.size, 0, none⟩) (partsB s).length (partsB s).length) ∧ w' = w.alloc (.cells ((partsB s).map Value.string).toArray 9) := by
    have h := Tryd.strings_Split s ⟨#[46]⟩ m w (by omega) hm (by decide)
    rw [show Lib.countB s ⟨#[46]⟩ + 1 = (partsB s).length from (parts_len s).symm] at h
    exact h
  have hpz : (partsB s).length ≤ 8000000 := by
    have := parts_len s
    have h2 := Lib.countB_le ⟨#[46]⟩ (by decide) s.size s (Nat.le_refl _)
    omega
  have HS := Lib.hid hS
  clear hS
  have HP := Lib.hid (dotted_parts s)
  have HZ := Lib.hid (fun p (hp : p ∈ partsB s) => part_size hp)
  obtain ⟨R, hR⟩ : ∃ R, R = dottedB s.data.toList := ⟨_, rfl⟩
  rw [← hR] at HP ⊢
  clear hR hm
  cases hc : constB s
  · have hC := HC.out
    rw [hc] at hC
    have hC2 := hC.symm
    simp only [Bool.or_eq_false_iff] at hC2
    obtain ⟨⟨⟨e1, e2⟩, e3⟩, e4⟩ := hC2
    rw [Bool.or_false]
    clear hC HC hc
    generalize partsB s = ps at *
    generalize hn : ps.length = n at *
    have HN := Lib.hid hn
    clear hn
    go_enter Tryd.func44, Tryd.ntmps44
    go_wp2_with (first
      | (go_at_call 62; (with_reducible refine HS.out.mono ?_); rintro e w1 ⟨rfl, hw0⟩; have hW1 := Lib.hid hw0; clear hw0)
      | fail)
    have hcell : ∀ q, q < n → w1.cell? ⟨w.heap.size, q, none⟩ = some (.string (ps.getD q ⟨#[]⟩)) := fun q hq => by
      rw [hW1.out, World.cell?_alloc_mark]
      rw [← HN.out] at hq
      simp [hq]
    have bw : Below w.heap.size w w1 := by rw [hW1.out]; (repeat (first | (with_reducible exact Below.refl _ _) | (with_reducible assumption) | (with_reducible refine Below.setCell ?_ (by first | omega | (simp <;> omega)) _) | (with_reducible refine Below.alloc ?_ (by first | omega | (simp <;> omega)) _) | (with_reducible refine Below.drew ?_) | (with_reducible refine below_drewN ?_ _) | (with_reducible refine Below.trans ?_ (Below.mono (by with_reducible assumption) (by first | omega | (simp <;> omega))))))
    have hm1 : Mx w1 := hmx.out.below bw hw00
    have HCell := Lib.hid hcell
    clear hW1 hcell e1 e2 e3 e4 HS hmx
    go_loop [14] (fun t => ∃ q : Nat, q ≤ n ∧ t = .int .i64 (q : Int) ∧ Hid ((ps.take q).all (fun b => isName b.data.toList) = true)) (fun t => n - (intOf t).toNat)
    case atStart => exact ⟨0, Nat.zero_le _, rfl, Lib.hid rfl⟩
    case round =>
      obtain ⟨q, hq, rfl, HT⟩ := hrel
      by_cases hlt : q < n
      · have hq2 : q < ps.length := by rw [HN.out]; exact hlt
        have c0 := HCell.out q hlt
        have eK : ps.getD q ⟨#[]⟩ = ps[q] := by simp [List.getD, hq2]
        have hsz := HZ.out (ps.getD q ⟨#[]⟩) (by rw [eK]; exact List.getElem_mem _)
        have HY := Lib.hid (fun e => parts_next (f := fun b => isName b.data.toList) hq2 HT.out e)
        have HB := Lib.hid (fun e => parts_bad (f := fun b => isName b.data.toList) hq2 e)
        clear eK
        generalize ps.getD q ⟨#[]⟩ = x at *
        have HX := Lib.hid (Name_any x (by omega) w1 hm1)
        cases hx : isName x.data.toList
        · have hRf : R = false := by rw [HP.out]; exact HB.out hx
          subst hRf
          go_wp2_with (first
            | (go_at_call 45; (with_reducible refine HX.out.mono ?_); rintro e w9 ⟨rfl, rfl⟩)
            | fail)
          go_ret
          exact ⟨rfl, bw⟩
        · go_wp2_with (first
            | (go_at_call 45; (with_reducible refine HX.out.mono ?_); rintro e w9 ⟨rfl, rfl⟩)
            | fail)
          go_round
          case rel => exact ⟨q + 1, by omega, by go_num, Lib.hid (HY.out hx)⟩
          case measure => simp [intOf]; omega
      · obtain rfl : q = n := by omega
        have hRt : R = true := by
          have := HT.out
          rw [← HN.out, List.take_length] at this
          rw [HP.out]; exact this
        subst hRt
        go_wp2
        go_ret
        exact ⟨rfl, bw⟩
  · have hC := HC.out
    rw [hc] at hC
    rw [Bool.or_true]
    clear HC hc HS
    cases e1 : (s.toList == [110, 117, 108, 108])
    · cases e2 : (s.toList == [117, 110, 100, 101, 102, 105, 110, 101, 100])
      · cases e3 : (s.toList == [116, 114, 117, 101])
        · cases e4 : (s.toList == [102, 97, 108, 115, 101])
          · rw [e1, e2, e3, e4] at hC; cases hC
          · clear hC
            go_enter Tryd.func44, Tryd.ntmps44
            go_wp2
            go_ret
            exact ⟨rfl, Below.refl _ _⟩
        · clear hC
          go_enter Tryd.func44, Tryd.ntmps44
          go_wp2
          go_ret
          exact ⟨rfl, Below.refl _ _⟩
      · clear hC
        go_enter Tryd.func44, Tryd.ntmps44
        go_wp2
        go_ret
        exact ⟨rfl, Below.refl _ _⟩
    · clear hC
      go_enter Tryd.func44, Tryd.ntmps44
      go_wp2
      go_ret
      exact ⟨rfl, Below.refl _ _⟩
end
end Go.Proofs.YtjaijlkonkgnmaaDoor
