/- The walk of chapter 1's reference Quote. -/
import Derived.Test.YtcphkdooemengaaDoorW10
namespace Go.Proofs.YtcphkdooemengaaDoor
set_option linter.unusedVariables false
set_option linter.unusedSimpArgs false
set_option linter.unnecessarySimpa false
open Go.RowKit
attribute [local go_sem] cell_alloc_add cell_set_add lt_more
theorem rowsC_at (s : ByteArray) : ∀ (l : List Nat) (k p j : Nat), l[k]? = some p → j < 4 → (rowsC s l)[k * 4 + j]? = (rowC s p)[j]? := by
  intro l
  induction l with
  | nil => intro k p j h _; simp at h
  | cons a l ih =>
    intro k p j h hj
    have e : rowsC s (a :: l) = rowC s a ++ rowsC s l := by simp [rowsC]
    have hl : (rowC s a).length = 4 := rfl
    rw [e]
    cases k with
    | zero => simp at h; subst h; rw [List.getElem?_append_left (by omega)]; simp
    | succ k => simp at h; rw [List.getElem?_append_right (by omega), hl, show (k + 1) * 4 + j - 4 = k * 4 + j by omega]; exact ih k p j h hj
/-- What the reference has written, of the runes at these places. -/
def qout (s : ByteArray) (l : List Nat) : ByteArray := ⟨(34 :: qbody s l).toArray⟩
theorem qout_add (s : ByteArray) (l : List Nat) (p : Nat) {x : ByteArray} (h : x.data.toList = qrune (rn s p)) : qout s l ++ x = qout s (l ++ [p]) := by
  unfold qout
  rw [qbody_snoc, ← h]
  apply ByteArray.ext
  simp
theorem rn_ok (s : ByteArray) (p : Nat) : rn s p < 55296 ∨ 57343 < rn s p := by have h := rn_bd s p; omega
theorem enc_list' (r : Nat) (h1 : r ≤ 1114111) (h2 : r < 55296 ∨ 57343 < r) : (Utf8.encode (r : Int)).data.toList = Lib.encodeRune (r : Int) := by rw [encode_eq h1 h2]
theorem enc_sz' (r : Nat) (h1 : r ≤ 1114111) (h2 : r < 55296 ∨ 57343 < r) : (Utf8.encode (r : Int)).size ≤ 4 := by
  have h3 : (Lib.encodeRune (r : Int)).length ≤ 4 := by rw [← Lib.runeCells_length]; exact (Lib.runeCells_le _).2
  rw [encode_eq h1 h2]; show (Lib.encodeRune (r : Int)).toArray.size ≤ 4; simpa using h3
theorem enc_list (s : ByteArray) (p : Nat) : (Utf8.encode (rn s p : Int)).data.toList = Lib.encodeRune (rn s p : Int) := enc_list' (rn s p) (rn_bd s p).1 (rn_ok s p)
theorem enc_sz (s : ByteArray) (p : Nat) : (Utf8.encode (rn s p : Int)).size ≤ 4 := enc_sz' (rn s p) (rn_bd s p).1 (rn_ok s p)
theorem qout_sz (s : ByteArray) (l : List Nat) : (qout s l).size ≤ 6 * l.length + 1 := by
  have := qbody_len s l; unfold qout; simp [ByteArray.size]; omega
theorem esc_list (r : Nat) (h : r = 92 ∨ r = 34) : qrune r = 92 :: (Utf8.encode (r : Int)).data.toList := by
  rw [enc_list' r (by omega) (by omega), qrune_esc h]
theorem cons_list (E : ByteArray) : ((⟨#[92]⟩ : ByteArray) ++ E).data.toList = 92 :: E.data.toList := by simp
theorem qout_esc (s : ByteArray) (l : List Nat) (p : Nat) (h : rn s p = 92 ∨ rn s p = 34) : qout s l ++ ⟨#[92]⟩ ++ Utf8.encode (rn s p : Int) = qout s (l ++ [p]) :=
  (ByteArray.append_assoc).trans (qout_add s l p ((cons_list _).trans (esc_list (rn s p) h).symm))
theorem plain_list (r : Nat) (h0 : r ≤ 1114111) (hs : r < 55296 ∨ 57343 < r) (h : 32 ≤ r) (h1 : r ≠ 92) (h2 : r ≠ 34) (h3 : r ≠ 127) : qrune r = (Utf8.encode (r : Int)).data.toList := by
  rw [enc_list' r h0 hs, qrune_plain h h1 h2 h3]
theorem qout_hex (s : ByteArray) (l : List Nat) (p : Nat) (h : rn s p < 32 ∨ rn s p = 127) (h1 : rn s p ≠ 10) (h2 : rn s p ≠ 13) (h3 : rn s p ≠ 9) : qout s l ++ ⟨#[92, 117, 123]⟩ ++ hexB (rn s p) ++ ⟨#[125]⟩ = qout s (l ++ [p]) := by
  rw [ByteArray.append_assoc, ByteArray.append_assoc]; exact qout_add s l p (by rw [qrune_hex h h1 h2 h3]; simp)
theorem qout_plain (s : ByteArray) (l : List Nat) (p : Nat) (h : 32 ≤ rn s p) (h1 : rn s p ≠ 92) (h2 : rn s p ≠ 34) (h3 : rn s p ≠ 127) : qout s l ++ Utf8.encode (rn s p : Int) = qout s (l ++ [p]) :=
  qout_add s l p (plain_list (rn s p) (rn_bd s p).1 (rn_ok s p) h h1 h2 h3).symm
theorem qout_end (s : ByteArray) : qout s (places s) ++ ⟨#[34]⟩ = quoteB s := by
  unfold qout quoteB; rw [ba_append]; simp
theorem take_next {l : List Nat} {k p : Nat} (h : l[k]? = some p) : l.take (k + 1) = l.take k ++ [p] := by rw [List.take_add_one, h]; rfl

set_option maxRecDepth 100000 in
set_option maxHeartbeats 4000000 in
theorem rQuote_any (s : ByteArray) (hs : s.size ≤ 1099511627776) (w : World) :
    Calls Tryd.prog 29 #[.string s] w fun e w' => e = .returned (.string (quoteB s)) ∧ Below w.heap.size w w' := by
  have kb := fun (w : World) (x : ByteArray) => run_bytes_of_string (P := Tryd.prog) w 9 22 5 x Tryd.underlying9 Tryd.underlying22 Tryd.underlying5
  have hpl := places_len s
  go_enter Tryd.func29, Tryd.ntmps29
  go_wp2_with (go_at_call 26; (with_reducible refine (rRunes_any s (some ⟨w.heap.size, 0, none⟩) _ hs (grownCap_ge _ _ _ _) _ (by simp) (rd_row w s _ _ _).drew).mono ?_); rintro e w1 ⟨⟨v, rfl, hown⟩, hb1⟩)
  have hb : Below w.heap.size w w1 := ((Below.refl _ w).alloc (Nat.le_refl _) _).drew.trans (hb1.mono (by simp))
  obtain ⟨A, c, rfl, hcell⟩ : ∃ A c, v = .slice A (places s).length c ∧ ∀ k p, (places s)[k]? = some p → ∃ g, A = some ⟨g, 0, none⟩ ∧ w1.cell? ⟨g, k * 4 + 1, none⟩ = some (.int .i32 (rn s p : Int)) := by
    rcases hown.2 with ⟨rfl, h0⟩ | ⟨g, cap, cur, rfl, _⟩
    · exact ⟨none, 0, by rw [h0], fun k p hk => by have := (List.getElem?_eq_some_iff.1 hk).1; omega⟩
    · refine ⟨_, _, rfl, fun k p hk => ⟨g, rfl, ?_⟩⟩
      have := hown.cells (g := g) rfl (k * 4 + 1) (.int .i32 (rn s p : Int)) (by rw [rowsC_at s _ k p 1 hk (by omega)]; rfl)
      rwa [add_row, Nat.zero_add] at this
  have HC := Lib.hid hcell
  clear hcell hown
  generalize hn : (places s).length = n at *
  have HN := Lib.hid hn
  clear hn
  go_wp2
  go_loop [3, 5] (fun o i => ∃ k : Nat, k ≤ n ∧ i = .int .i64 k ∧ o = .string (qout s ((places s).take k))) (fun _ i => n - (intOf i).toNat)
  case atStart => exact ⟨0, Nat.zero_le _, rfl, rfl⟩
  case round =>
    obtain ⟨k, hk, rfl, rfl⟩ := hrel
    by_cases hlt : k < n
    · obtain ⟨p, hp⟩ : ∃ p, (places s)[k]? = some p := ⟨_, List.getElem?_eq_getElem (by rw [HN.out]; exact hlt)⟩
      obtain ⟨g, rfl, hc⟩ := HC.out k p hp
      have HT := Lib.hid (take_next hp)
      have hrb := rn_bd s p
      clear hp
      have hq := qout_sz s ((places s).take k)
      have hll : ((places s).take k).length ≤ k := List.length_take_le _ _
      have he := enc_sz s p
      have hx := hexB_size (rn s p)
      generalize (places s).take k = l at *
      by_cases c1 : rn s p = 92 ∨ rn s p = 34
      · have HE := Lib.hid c1
        have c2 : 32 ≤ rn s p := by omega
        rcases c1 with c1 | c1
        · have e92 : ((rn s p : Int) == 92) = true := by simp; omega
          clear c1
          go_wp2
          go_round
          case rel => exact ⟨k + 1, by omega, by go_num, by rw [HT.out]; exact congrArg Value.string (qout_esc s l p HE.out)⟩
          case measure => simp [intOf]; omega
        · have e92 : ((rn s p : Int) == 92) = false := by simp; omega
          have e34 : ((rn s p : Int) == 34) = true := by simp; omega
          clear c1
          go_wp2
          go_round
          case rel => exact ⟨k + 1, by omega, by go_num, by rw [HT.out]; exact congrArg Value.string (qout_esc s l p HE.out)⟩
          case measure => simp [intOf]; omega
      · by_cases c10 : rn s p = 10
        · have HE := Lib.hid c10
          have e92 : ((rn s p : Int) == 92) = false := by simp; omega
          have e34 : ((rn s p : Int) == 34) = false := by simp; omega
          have e10 : ((rn s p : Int) == 10) = true := by simp; omega
          clear c10 c1
          go_wp2
          go_round
          case rel => exact ⟨k + 1, by omega, by go_num, by rw [HT.out]; exact congrArg Value.string (qout_add s l p (by rw [HE.out, qrune_nl]))⟩
          case measure => simp [intOf]; omega
        · by_cases c13 : rn s p = 13
          · have HE := Lib.hid c13
            have e92 : ((rn s p : Int) == 92) = false := by simp; omega
            have e34 : ((rn s p : Int) == 34) = false := by simp; omega
            have e10 : ((rn s p : Int) == 10) = false := by simp; omega
            have e13 : ((rn s p : Int) == 13) = true := by simp; omega
            clear c13 c1
            go_wp2
            go_round
            case rel => exact ⟨k + 1, by omega, by go_num, by rw [HT.out]; exact congrArg Value.string (qout_add s l p (by rw [HE.out, qrune_cr]))⟩
            case measure => simp [intOf]; omega
          · by_cases c9 : rn s p = 9
            · have HE := Lib.hid c9
              have e92 : ((rn s p : Int) == 92) = false := by simp; omega
              have e34 : ((rn s p : Int) == 34) = false := by simp; omega
              have e10 : ((rn s p : Int) == 10) = false := by simp; omega
              have e13 : ((rn s p : Int) == 13) = false := by simp; omega
              have e9 : ((rn s p : Int) == 9) = true := by simp; omega
              clear c9 c1
              go_wp2
              go_round
              case rel => exact ⟨k + 1, by omega, by go_num, by rw [HT.out]; exact congrArg Value.string (qout_add s l p (by rw [HE.out, qrune_tab]))⟩
              case measure => simp [intOf]; omega
            · by_cases ch : rn s p < 32 ∨ rn s p = 127
              · have HE := Lib.hid (And.intro ch (And.intro c10 (And.intro c13 c9)))
                have h128 : rn s p < 128 := by omega
                have e92 : ((rn s p : Int) == 92) = false := by simp; omega
                have e34 : ((rn s p : Int) == 34) = false := by simp; omega
                have e10 : ((rn s p : Int) == 10) = false := by simp; omega
                have e13 : ((rn s p : Int) == 13) = false := by simp; omega
                have e9 : ((rn s p : Int) == 9) = false := by simp; omega
                rcases ch with ch | ch
                · have e32 : (rn s p : Int) < 32 := by omega
                  clear ch c10 c13 c9 c1
                  go_wp2_with (go_at_call 46; (with_reducible refine (rhex_any (rn s p) h128 _).mono ?_); rintro e w2 ⟨rfl, rfl⟩)
                  go_round
                  case rel => exact ⟨k + 1, by omega, by go_num, by rw [HT.out]; exact congrArg Value.string (qout_hex s l p HE.out.1 HE.out.2.1 HE.out.2.2.1 HE.out.2.2.2)⟩
                  case measure => simp [intOf]; omega
                · have e127 : ((rn s p : Int) == 127) = true := by simp; omega
                  have e32 : ¬ (rn s p : Int) < 32 := by omega
                  clear ch c10 c13 c9 c1
                  go_wp2_with (go_at_call 46; (with_reducible refine (rhex_any (rn s p) h128 _).mono ?_); rintro e w2 ⟨rfl, rfl⟩)
                  go_round
                  case rel => exact ⟨k + 1, by omega, by go_num, by rw [HT.out]; exact congrArg Value.string (qout_hex s l p HE.out.1 HE.out.2.1 HE.out.2.2.1 HE.out.2.2.2)⟩
                  case measure => simp [intOf]; omega
              · have HE := Lib.hid (show 32 ≤ rn s p ∧ rn s p ≠ 92 ∧ rn s p ≠ 34 ∧ rn s p ≠ 127 by omega)
                have e92 : ((rn s p : Int) == 92) = false := by simp; omega
                have e34 : ((rn s p : Int) == 34) = false := by simp; omega
                have e10 : ((rn s p : Int) == 10) = false := by simp; omega
                have e13 : ((rn s p : Int) == 13) = false := by simp; omega
                have e9 : ((rn s p : Int) == 9) = false := by simp; omega
                have e127 : ((rn s p : Int) == 127) = false := by simp; omega
                have e32 : ¬ (rn s p : Int) < 32 := by omega
                clear ch c10 c13 c9 c1
                go_wp2
                go_round
                case rel => exact ⟨k + 1, by omega, by go_num, by rw [HT.out]; exact congrArg Value.string (qout_plain s l p HE.out.1 HE.out.2.1 HE.out.2.2.1 HE.out.2.2.2)⟩
                case measure => simp [intOf]; omega
    · obtain rfl : k = n := by omega
      have hf := Lib.hid (show (places s).take k = places s by rw [List.take_of_length_le (by rw [HN.out]; exact Nat.le_refl _)])
      have hq := qout_sz s ((places s).take k)
      have hll : ((places s).take k).length ≤ k := List.length_take_le _ _
      go_wp2
      go_ret
      exact ⟨ret_str (by rw [hf.out, qout_end]), hb⟩
end Go.Proofs.YtcphkdooemengaaDoor
