/- The walks of chapter 2's scanner: hexed. -/
import Derived.Test.YtdlppdoankeilaaDoorScan3
import Derived.Test.YtdlppdoankeilaaDoorScanP
import Derived.Test.YtdlppdoankeilaaDoorBld
import Derived.Lib.AppendStr
namespace Go.Proofs.YtdlppdoankeilaaDoor
set_option linter.unusedVariables false
set_option linter.unusedSimpArgs false
set_option linter.unnecessarySimpa false
open Go.RowKit
attribute [local go_sem] cell_alloc_add cell_set_add lt_more
theorem hasB_one (s : ByteArray) (k : Nat) (c : UInt8) : hasB s k ⟨#[c]⟩ = (decide (k < s.size) && bt s k == c.toNat) := by
  unfold hasB
  rw [show (⟨#[c]⟩ : ByteArray).size = 1 from rfl]
  by_cases h : k + 1 ≤ s.size
  · rw [decide_eq_true h, decide_eq_true (show k < s.size by omega), Bool.true_and, Bool.true_and, Bool.eq_iff_iff, decide_eq_true_eq, beq_iff_eq]
    have hb : ∀ t : ByteArray, t.size = 1 → (t = ⟨#[c]⟩ ↔ bt t 0 = c.toNat) := fun t ht => by
      obtain ⟨⟨l⟩⟩ := t
      match l, ht with
      | [x], _ =>
        constructor
        · intro e; injection e with e; injection e with e; injection e with e; subst e; rfl
        · intro e
          have : x = c := UInt8.toNat_inj.1 e
          rw [this]
    rw [hb _ (by rw [ByteArray.size_extract]; omega), bt_extract (by omega) h, Nat.add_zero]
  · rw [decide_eq_false h, decide_eq_false (show ¬ k < s.size by omega), Bool.false_and, Bool.false_and]
/-- What the scanner's rune1 and hexed answer: the text's row goes on; or none. -/
def RPost (base : Nat) (acc : ByteArray) (o : Option (ByteArray × Nat)) (e : Ending) (w' : World) : Prop := match o with
  | some (t, j) => ∃ v', e = .returned (.tuple #[.int .i64 (j : Int), v', .bool true]) ∧ w'.ownsRow base 5 1 v' (acc ++ t).size (Lib.strCells (acc ++ t))
  | none => ∃ (j : Int) (v' : Value), e = .returned (.tuple #[.int .i64 j, v', .bool false])
theorem strCells_append (a b : ByteArray) : Lib.strCells (a ++ b) = Lib.strCells a ++ Lib.strCells b := by simp [Lib.strCells]
def hexR (s : ByteArray) (i : Nat) : Option (ByteArray × Nat) := if hexOk s i = true then some (Utf8.encode (hexVal s (i + 3) (i + 9) 0), hexEnd s (i + 3) (i + 9) + 1) else none
theorem hexR_no {s : ByteArray} {i : Nat} (h : hexOk s i = false) : hexR s i = none := by unfold hexR; rw [h]; rfl
set_option maxRecDepth 100000 in
set_option maxHeartbeats 8000000 in
theorem hexed_any (s : ByteArray) (A : Option Addr) (c : Nat) (hs : s.size ≤ 4000000) (hcap : s.size ≤ c) (w : World) {base : Nat} (hbase : base ≤ w.heap.size) (h : Rd w base A s.size (byteC s)) (g a : Nat) (hgb : g < base) (hv : Value) (hg : Scn w g A s.size c a hv)
    (i : Nat) (hi : i + 1 < s.size) (acc : ByteArray) (hacc : acc.size ≤ 4000000) (v : Value) (ho : w.ownsRow base 5 1 v acc.size (Lib.strCells acc)) :
    Calls Tryd.prog 54 #[.pointer (some ⟨g, 0, none⟩), .int .i64 (i : Int), v] w fun e w' => RPost base acc (hexR s i) e w' ∧ Below base w w' := by
  have HN := Lib.hid h
  obtain ⟨ad, rfl, hadB, ci⟩ := h i (by omega)
  clear ci
  have z0 := hg.cell 0
  have fz0 := hg.free 0
  simp at z0
  have H1 := has_any s (some ad) c hs hcap w h g a hv hg (i + 2) (by omega) ⟨#[123]⟩ (by decide) (by decide)
  rw [hasB_one] at H1
  have hok : hexOk s i = (decide (i + 2 < s.size) && bt s (i + 2) == 123 && decide (hexEnd s (i + 3) (i + 9) ≠ i + 3) && decide (hexEnd s (i + 3) (i + 9) < s.size) && bt s (hexEnd s (i + 3) (i + 9)) == 125 &&
    decide (hexVal s (i + 3) (i + 9) 0 ≤ 1114111) && !(decide (55296 ≤ hexVal s (i + 3) (i + 9) 0) && decide (hexVal s (i + 3) (i + 9) 0 ≤ 57343))) := rfl
  simp only [Int.natCast_add, Int.cast_ofNat_Int] at H1
  cases h2 : (decide (i + 2 < s.size) && bt s (i + 2) == UInt8.toNat 123)
  · rw [h2] at H1
    have HH := Lib.hid H1
    rw [show (123 : Nat) = UInt8.toNat 123 from rfl, h2] at hok
    simp only [Bool.false_and] at hok
    have HO := Lib.hid (hexR_no hok)
    clear h2 H1 hok
    go_enter Tryd.func54, Tryd.ntmps54
    go_wp2_with (go_at_call 40; (with_reducible refine (HH.out).mono ?_); rintro e wq ⟨rfl, hwq⟩; obtain rfl := hwq.symm)
    exact bodyPost_ret (v := .tuple #[.int .i64 i, v, .bool false]) (by simp [results, Tryd.results54, go_sem, *]) rfl ⟨by rw [HO.out]; exact ⟨_, _, rfl⟩, Below.refl _ _⟩
  · rw [h2] at H1
    have HH := Lib.hid H1
    have h2b : i + 2 < s.size := by simp at h2; omega
    rw [show (123 : Nat) = UInt8.toNat 123 from rfl, h2, Bool.true_and] at hok
    clear h2 H1
    go_enter Tryd.func54, Tryd.ntmps54
    go_upto_block 0 with (go_at_call 40; (with_reducible refine (HH.out).mono ?_); rintro e wq ⟨rfl, hwq⟩; obtain rfl := hwq.symm)
    go_cut [9, 10] (fun x y wx => x = .int .i64 (hexEnd s (i + 3) (i + 9) : Nat) ∧ (∃ n : Nat, y = .int .i64 n ∧ hexVal s (i + 3) (i + 9) 0 = n) ∧ wx = w)
    case first =>
      go_wp2_with fail
      go_loop [9, 10] (fun x y => ∃ (j n : Nat), i + 3 ≤ j ∧ j ≤ i + 9 ∧ j ≤ s.size ∧ x = .int .i64 j ∧ y = .int .i64 n ∧ n < 16 ^ (j - (i + 3)) ∧ hexEnd s (i + 3) (i + 9) = hexEnd s j (i + 9) ∧ hexVal s (i + 3) (i + 9) 0 = hexVal s j (i + 9) n) (fun x _ => s.size - (intOf x).toNat)
      case atStart => exact ⟨i + 3, 0, by omega, by omega, by omega, by go_num, rfl, by simp, rfl, rfl⟩
      case round =>
        obtain ⟨j, n, hij, hj9, hjs, rfl, rfl, hn, he, hvv⟩ := hrel
        have HE := Lib.hid he
        have HV := Lib.hid hvv
        clear he hvv
        by_cases hlt : j < s.size
        · by_cases hl9 : j < i + 9
          · obtain ⟨ad2, e2, _, c1⟩ := HN.out j hlt
            obtain rfl : ad = ad2 := by injection e2
            clear e2
            unfold byteC at c1
            have hb := bt_lt s j
            have hx := hex_digit hb
            have hib := idx_bd _ hb
            have hor := hex_or hb
            have hn5 : n < 1048576 := Nat.lt_of_lt_of_le hn (Nat.pow_le_pow_right (by decide) (show j - (i + 3) ≤ 5 by omega))
            obtain ⟨D, hD⟩ : ∃ D, Lib.indexByte [48, 49, 50, 51, 52, 53, 54, 55, 56, 57, 97, 98, 99, 100, 101, 102] (UInt8.ofNat (bt s j) ||| 32) = D := ⟨_, rfl⟩
            unfold hexL at hx hib
            rw [hD] at hx hib
            obtain ⟨hlo, hhi⟩ := hib
            by_cases hbad : D < 0 ∨ bt s j < 48
            · rw [if_pos hbad] at hx
              have HX := Lib.hid (hexEnd_stop (s := s) (i := j) (lim := i + 9) (by omega))
              have HY := Lib.hid (hexVal_stop (s := s) (i := j) (lim := i + 9) (v := n) (by omega))
              clear hx
              rcases hbad with hb1 | hb1
              · go_wp2_with (go_at_call 39; (with_reducible refine (Tryd.strings_IndexByte _ _ _).mono ?_); rintro e wq ⟨rfl, hwq⟩; obtain rfl := hwq.symm)
                go_meet
                exact ⟨by rw [HE.out, HX.out], ⟨_, rfl, by rw [HV.out, HY.out]⟩, rfl⟩
              · by_cases hb2 : D < 0
                · go_wp2_with (go_at_call 39; (with_reducible refine (Tryd.strings_IndexByte _ _ _).mono ?_); rintro e wq ⟨rfl, hwq⟩; obtain rfl := hwq.symm)
                  go_meet
                  exact ⟨by rw [HE.out, HX.out], ⟨_, rfl, by rw [HV.out, HY.out]⟩, rfl⟩
                · go_wp2_with (go_at_call 39; (with_reducible refine (Tryd.strings_IndexByte _ _ _).mono ?_); rintro e wq ⟨rfl, hwq⟩; obtain rfl := hwq.symm)
                  go_meet
                  exact ⟨by rw [HE.out, HX.out], ⟨_, rfl, by rw [HV.out, HY.out]⟩, rfl⟩
            · rw [if_neg hbad] at hx
              have HX := Lib.hid (hexEnd_go (lim := i + 9) hlt hl9 (by omega))
              have HY := Lib.hid (hexVal_go (v := n) (lim := i + 9) hlt hl9 (by omega))
              rw [hx] at HY
              have hj16 := hex_join (d := D) hn5 (by omega) hhi
              have hD0 : ¬ D < 0 := by omega
              have hb48 : ¬ bt s j < 48 := by omega
              have hpw : 16 ^ (j + 1 - (i + 3)) = 16 ^ (j - (i + 3)) * 16 := by rw [show j + 1 - (i + 3) = (j - (i + 3)) + 1 by omega, Nat.pow_succ]
              obtain ⟨d, rfl⟩ := Int.eq_ofNat_of_zero_le (show 0 ≤ D by omega)
              clear hx hbad
              go_wp2_with (go_at_call 39; (with_reducible refine (Tryd.strings_IndexByte _ _ _).mono ?_); rintro e wq ⟨rfl, hwq⟩; obtain rfl := hwq.symm)
              exact ⟨⟨j + 1, n * 16 + d, by omega, by omega, by omega, by go_num, by go_num, by rw [hpw]; omega, by rw [HE.out, HX.out], by rw [HV.out, HY.out]; push_cast; rfl⟩, by simp [intOf]; omega⟩
          · have HX := Lib.hid (hexEnd_stop (s := s) (i := j) (lim := i + 9) (by omega))
            have HY := Lib.hid (hexVal_stop (s := s) (i := j) (lim := i + 9) (v := n) (by omega))
            go_wp2
            go_meet
            exact ⟨by rw [HE.out, HX.out], ⟨_, rfl, by rw [HV.out, HY.out]⟩, rfl⟩
        · have HX := Lib.hid (hexEnd_stop (s := s) (i := j) (lim := i + 9) (by omega))
          have HY := Lib.hid (hexVal_stop (s := s) (i := j) (lim := i + 9) (v := n) (by omega))
          go_wp2
          go_meet
          exact ⟨by rw [HE.out, HX.out], ⟨_, rfl, by rw [HV.out, HY.out]⟩, rfl⟩
    case rest =>
      obtain ⟨rfl, ⟨n, rfl, hVn⟩, rfl⟩ := hcut
      obtain ⟨i0, hif, hz0, hz1, hz2⟩ := info_parts infoByte
      have hEb := hexEnd_bd s (i + 9) _ (i + 3) (Nat.le_refl _)
      have hR := Lib.hid (show hexR s i = if hexOk s i = true then some (Utf8.encode (hexVal s (i + 3) (i + 9) 0), hexEnd s (i + 3) (i + 9) + 1) else none from rfl)
      rw [hVn] at hok hR
      clear hVn
      generalize hexEnd s (i + 3) (i + 9) = E at *
      have H3 := has_any s (some ad) c hs hcap wc h g a hv hg E (by omega) ⟨#[125]⟩ (by decide) (by decide)
      rw [hasB_one] at H3
      by_cases c1 : E = i + 3
      · have e1 : ((E : Int) == (i : Int) + 3) = true := by simp; omega
        rw [show decide (E ≠ i + 3) = false by simp [c1]] at hok
        simp only [Bool.false_and] at hok
        have HO := Lib.hid (hexR_no hok)
        clear hR hok H3
        go_wp2
        exact bodyPost_ret (v := .tuple #[.int .i64 i, v, .bool false]) (by simp [results, Tryd.results54, go_sem, *]) rfl ⟨by rw [HO.out]; exact ⟨_, _, rfl⟩, Below.refl _ _⟩
      · have e1 : ((E : Int) == (i : Int) + 3) = false := by simp; omega
        rw [show decide (E ≠ i + 3) = true by simp [c1], Bool.true_and, show (125 : Nat) = UInt8.toNat 125 from rfl] at hok
        cases h4 : (decide (E < s.size) && bt s E == UInt8.toNat 125)
        · rw [h4] at H3 hok
          have H3 := Lib.hid H3
          simp only [Bool.false_and] at hok
          have HO := Lib.hid (hexR_no hok)
          clear hR hok h4
          go_wp2_with (go_at_call 40; (with_reducible refine (H3.out).mono ?_); rintro e wq ⟨rfl, hwq⟩; obtain rfl := hwq.symm)
          exact bodyPost_ret (v := .tuple #[.int .i64 i, v, .bool false]) (by simp [results, Tryd.results54, go_sem, *]) rfl ⟨by rw [HO.out]; exact ⟨_, _, rfl⟩, Below.refl _ _⟩
        · rw [h4] at H3 hok
          have H3 := Lib.hid H3
          rw [Bool.true_and] at hok
          have hE4 : E < s.size := by simp at h4; omega
          clear h4
          by_cases c2 : (n : Int) ≤ 1114111
          · rw [show decide ((n : Int) ≤ 1114111) = true from decide_eq_true c2, Bool.true_and] at hok
            by_cases c3 : 55296 ≤ (n : Int) ∧ (n : Int) ≤ 57343
            · rw [show decide (55296 ≤ (n : Int)) = true from decide_eq_true c3.1, show decide ((n : Int) ≤ 57343) = true from decide_eq_true c3.2] at hok
              simp only [Bool.and_self, Bool.not_true] at hok
              have HO := Lib.hid (hexR_no hok)
              clear hR hok
              obtain ⟨c3, c4⟩ := c3
              go_wp2_with (go_at_call 40; (with_reducible refine (H3.out).mono ?_); rintro e wq ⟨rfl, hwq⟩; obtain rfl := hwq.symm)
              exact bodyPost_ret (v := .tuple #[.int .i64 i, v, .bool false]) (by simp [results, Tryd.results54, go_sem, *]) rfl ⟨by rw [HO.out]; exact ⟨_, _, rfl⟩, Below.refl _ _⟩
            · rw [show (decide (55296 ≤ (n : Int)) && decide ((n : Int) ≤ 57343)) = false by rw [← Bool.decide_and]; exact decide_eq_false c3, Bool.not_false] at hok
              have HO := Lib.hid (hR.out.trans (by rw [hok]; rfl) : hexR s i = some (Utf8.encode (n : Int), E + 1))
              have HOW := Lib.hid ho
              clear hR hok ho
              by_cases c4 : 55296 ≤ (n : Int)
              · have c5 : ¬ (n : Int) ≤ 57343 := by omega
                go_wp2_with (first | (go_at_call 40; (with_reducible refine (H3.out).mono ?_); rintro e wq ⟨rfl, hwq⟩; obtain rfl := hwq.symm) | (at_builtin; refine Lib.wpList_append_own_string _ rfl _ _ 26 9 rfl base 5 i0 Tryd.underlying26 Tryd.underlying9 hif hz0 hz1 hz2 _ _ _ rfl HOW.out (Utf8.encode (n : Int)) rfl (by have := encode_size_le (n : Int); unfold maxLen; omega) (by have := encode_size_le (n : Int); omega) hbase ?_; intro v2 w2 hown2 hg2 _))
                exact bodyPost_ret (v := .tuple #[.int .i64 ((E + 1 : Nat) : Int), v2, .bool true]) (by simp [results, Tryd.results54, go_sem, *]) rfl ⟨by rw [HO.out]; exact ⟨v2, rfl, by rw [ByteArray.size_append, strCells_append]; exact hown2⟩, (Below.refl base wc).grown hg2 hbase (own_ge HOW.out)⟩
              · have c6 : (55296 ≤ (n : Int)) = False := by simp; omega
                have c7 : ((n : Int) ≥ 55296) = False := by simp; omega
                have c8 : decide (55296 ≤ (n : Int)) = false := by simp; omega
                clear c3 c4
                go_wp2_with (first | (go_at_call 40; (with_reducible refine (H3.out).mono ?_); rintro e wq ⟨rfl, hwq⟩; obtain rfl := hwq.symm) | (at_builtin; refine Lib.wpList_append_own_string _ rfl _ _ 26 9 rfl base 5 i0 Tryd.underlying26 Tryd.underlying9 hif hz0 hz1 hz2 _ _ _ rfl HOW.out (Utf8.encode (n : Int)) rfl (by have := encode_size_le (n : Int); unfold maxLen; omega) (by have := encode_size_le (n : Int); omega) hbase ?_; intro v2 w2 hown2 hg2 _))
                exact bodyPost_ret (v := .tuple #[.int .i64 ((E + 1 : Nat) : Int), v2, .bool true]) (by simp [results, Tryd.results54, go_sem, *]) rfl ⟨by rw [HO.out]; exact ⟨v2, rfl, by rw [ByteArray.size_append, strCells_append]; exact hown2⟩, (Below.refl base wc).grown hg2 hbase (own_ge HOW.out)⟩
          · rw [show decide ((n : Int) ≤ 1114111) = false from decide_eq_false c2, Bool.false_and] at hok
            have HO := Lib.hid (hexR_no hok)
            clear hR hok
            go_wp2_with (go_at_call 40; (with_reducible refine (H3.out).mono ?_); rintro e wq ⟨rfl, hwq⟩; obtain rfl := hwq.symm)
            exact bodyPost_ret (v := .tuple #[.int .i64 i, v, .bool false]) (by simp [results, Tryd.results54, go_sem, *]) rfl ⟨by rw [HO.out]; exact ⟨_, _, rfl⟩, Below.refl _ _⟩
end Go.Proofs.YtdlppdoankeilaaDoor
