/- The walks of chapter 2's scanner: rune1. -/
import Derived.Test.YtdlppdoankeilaaDoorScan4
import Derived.Test.YtdlppdoankeilaaDoorPgDec
namespace Go.Proofs.YtdlppdoankeilaaDoor
set_option linter.unusedVariables false
set_option linter.unusedSimpArgs false
set_option linter.unnecessarySimpa false
open Go.RowKit
attribute [local go_sem] cell_alloc_add cell_set_add lt_more
theorem one_lies {w : World} {g : Nat} {t : TypeId} {u : Value} (h : Row w g t #[u]) : ∀ j x, ([u] : List Value)[j]? = some x → w.cell? ((⟨g, 0, none⟩ : Addr).add j) = some x := fun j x hj => by
  rw [add_row, h.cell, Nat.zero_add, ← hj]; simp
theorem one1_cells {c : Nat} (h : c < 256) : Lib.strCells (one1 c) = [.int .u8 (c : Int)] := by
  simp [Lib.strCells, one1]; omega
set_option maxRecDepth 100000 in
set_option maxHeartbeats 8000000 in
theorem rune1_any (s : ByteArray) (A : Option Addr) (c : Nat) (hs : s.size ≤ 4000000) (hcap : s.size ≤ c) (w : World) {base : Nat} (hbase : base ≤ w.heap.size) (h : Rd w base A s.size (byteC s)) (g a : Nat) (hgb : g < base) (hv : Value) (hg : Scn w g A s.size c a hv)
    (i : Nat) (hi : i < s.size) (acc : ByteArray) (hacc : acc.size ≤ 4000000) (v : Value) (ho : w.ownsRow base 5 1 v acc.size (Lib.strCells acc)) :
    Calls Tryd.prog 44 #[.pointer (some ⟨g, 0, none⟩), .int .i64 (i : Int), v] w fun e w' => RPost base acc (one s i) e w' ∧ Below base w w' := by
  have HN := Lib.hid h
  have HOW := Lib.hid ho
  have HX := Lib.hid (fun hi2 => hexed_any s A c hs hcap w hbase h g a hgb hv hg i hi2 acc hacc v ho)
  have HD := Decode_any s A c i (by omega) hcap w h
  rw [decR_in hi, decN_in hi] at HD
  have HD := Lib.hid HD
  obtain ⟨ad, rfl, hadB, ci⟩ := h i hi
  unfold byteC at ci
  have z0 := hg.cell 0
  have fz0 := hg.free 0
  simp at z0
  obtain ⟨i0, hif, hz0, hz1, hz2⟩ := info_parts infoByte
  have hwd := wd_bd hi
  by_cases h92 : bt s i = 92
  · have HE := Lib.hid (one_esc h92)
    rw [h92] at ci
    by_cases hi1 : i + 1 < s.size
    · obtain ⟨ad2, e2, _, c1⟩ := h (i + 1) hi1
      obtain rfl : ad = ad2 := by injection e2
      unfold byteC at c1
      replace c1 := cell_succ c1
      have ge : ((i : Int) + 1 ≥ (s.size : Int)) = False := by simp; omega
      have hlt := bt_lt s (i + 1)
      clear e2 h ho h92 HD
      by_cases k110 : bt s (i + 1) = 110
      · have HO := Lib.hid (HE.out.trans (show esc s i = some (one1 10, i + 2) by unfold esc; rw [if_pos hi1, if_pos k110]))
        rw [k110] at c1
        go_enter Tryd.func44, Tryd.ntmps44
        go_wp2_with (at_builtin; refine wpList_append_own _ rfl _ _ 26 rfl base 5 i0 _ 1 1 Tryd.underlying26 hif hz0 hz1 hz2 rfl (by decide) _ _ _ rfl (HOW.out.alloc _) ⟨w.heap.size, 0, none⟩ 1 1 [.int .u8 (10 : Int)] rfl rfl (one_lies (row_new rfl)) (by intro u hu; simp at hu; subst hu; rfl) (by unfold maxLen; omega) (by omega) (by simp; omega) ?_; intro v2 w2 hown2 hg2 _)
        exact bodyPost_ret (v := .tuple #[.int .i64 ((i + 2 : Nat) : Int), v2, .bool true]) (by simp [results, Tryd.results44, go_sem, *]) rfl ⟨by rw [HO.out]; exact ⟨v2, rfl, by rw [ByteArray.size_append, strCells_append, one1_cells (by first | decide | omega)]; exact hown2⟩, ((Below.refl base w).alloc hbase _).grown hg2 (by simp; omega) (own_ge HOW.out)⟩
      by_cases k114 : bt s (i + 1) = 114
      · have HO := Lib.hid (HE.out.trans (show esc s i = some (one1 13, i + 2) by unfold esc; rw [if_pos hi1, if_neg k110, if_pos k114]))
        rw [k114] at c1
        go_enter Tryd.func44, Tryd.ntmps44
        go_wp2_with (at_builtin; refine wpList_append_own _ rfl _ _ 26 rfl base 5 i0 _ 1 1 Tryd.underlying26 hif hz0 hz1 hz2 rfl (by decide) _ _ _ rfl (HOW.out.alloc _) ⟨w.heap.size, 0, none⟩ 1 1 [.int .u8 (13 : Int)] rfl rfl (one_lies (row_new rfl)) (by intro u hu; simp at hu; subst hu; rfl) (by unfold maxLen; omega) (by omega) (by simp; omega) ?_; intro v2 w2 hown2 hg2 _)
        exact bodyPost_ret (v := .tuple #[.int .i64 ((i + 2 : Nat) : Int), v2, .bool true]) (by simp [results, Tryd.results44, go_sem, *]) rfl ⟨by rw [HO.out]; exact ⟨v2, rfl, by rw [ByteArray.size_append, strCells_append, one1_cells (by first | decide | omega)]; exact hown2⟩, ((Below.refl base w).alloc hbase _).grown hg2 (by simp; omega) (own_ge HOW.out)⟩
      by_cases k116 : bt s (i + 1) = 116
      · have HO := Lib.hid (HE.out.trans (show esc s i = some (one1 9, i + 2) by unfold esc; rw [if_pos hi1, if_neg k110, if_neg k114, if_pos k116]))
        rw [k116] at c1
        go_enter Tryd.func44, Tryd.ntmps44
        go_wp2_with (at_builtin; refine wpList_append_own _ rfl _ _ 26 rfl base 5 i0 _ 1 1 Tryd.underlying26 hif hz0 hz1 hz2 rfl (by decide) _ _ _ rfl (HOW.out.alloc _) ⟨w.heap.size, 0, none⟩ 1 1 [.int .u8 (9 : Int)] rfl rfl (one_lies (row_new rfl)) (by intro u hu; simp at hu; subst hu; rfl) (by unfold maxLen; omega) (by omega) (by simp; omega) ?_; intro v2 w2 hown2 hg2 _)
        exact bodyPost_ret (v := .tuple #[.int .i64 ((i + 2 : Nat) : Int), v2, .bool true]) (by simp [results, Tryd.results44, go_sem, *]) rfl ⟨by rw [HO.out]; exact ⟨v2, rfl, by rw [ByteArray.size_append, strCells_append, one1_cells (by first | decide | omega)]; exact hown2⟩, ((Below.refl base w).alloc hbase _).grown hg2 (by simp; omega) (own_ge HOW.out)⟩
      by_cases k48 : bt s (i + 1) = 48
      · have HO := Lib.hid (HE.out.trans (show esc s i = some (one1 0, i + 2) by unfold esc; rw [if_pos hi1, if_neg k110, if_neg k114, if_neg k116, if_pos k48]))
        rw [k48] at c1
        go_enter Tryd.func44, Tryd.ntmps44
        go_wp2_with (at_builtin; refine wpList_append_own _ rfl _ _ 26 rfl base 5 i0 _ 1 1 Tryd.underlying26 hif hz0 hz1 hz2 rfl (by decide) _ _ _ rfl (HOW.out.alloc _) ⟨w.heap.size, 0, none⟩ 1 1 [.int .u8 (0 : Int)] rfl rfl (one_lies (row_new rfl)) (by intro u hu; simp at hu; subst hu; rfl) (by unfold maxLen; omega) (by omega) (by simp; omega) ?_; intro v2 w2 hown2 hg2 _)
        exact bodyPost_ret (v := .tuple #[.int .i64 ((i + 2 : Nat) : Int), v2, .bool true]) (by simp [results, Tryd.results44, go_sem, *]) rfl ⟨by rw [HO.out]; exact ⟨v2, rfl, by rw [ByteArray.size_append, strCells_append, one1_cells (by first | decide | omega)]; exact hown2⟩, ((Below.refl base w).alloc hbase _).grown hg2 (by simp; omega) (own_ge HOW.out)⟩
      by_cases kq : bt s (i + 1) = 92 ∨ bt s (i + 1) = 34 ∨ bt s (i + 1) = 39 ∨ bt s (i + 1) = 36 ∨ bt s (i + 1) = 96
      · have HS := show esc s i = some (one1 (bt s (i + 1)), i + 2) by unfold esc; rw [if_pos hi1, if_neg k110, if_neg k114, if_neg k116, if_neg k48, if_pos kq]
        clear k110 k114 k116 k48
        rcases kq with kq | kq | kq | kq | kq
        · rw [kq] at HS c1
          have HO := Lib.hid (HE.out.trans HS)
          clear HS
          go_enter Tryd.func44, Tryd.ntmps44
          go_wp2_with (at_builtin; refine wpList_append_own _ rfl _ _ 26 rfl base 5 i0 _ 1 1 Tryd.underlying26 hif hz0 hz1 hz2 rfl (by decide) _ _ _ rfl (HOW.out.alloc _) ⟨w.heap.size, 0, none⟩ 1 1 [.int .u8 (92 : Int)] rfl rfl (one_lies (row_new rfl)) (by intro u hu; simp at hu; subst hu; rfl) (by unfold maxLen; omega) (by omega) (by simp; omega) ?_; intro v2 w2 hown2 hg2 _)
          exact bodyPost_ret (v := .tuple #[.int .i64 ((i + 2 : Nat) : Int), v2, .bool true]) (by simp [results, Tryd.results44, go_sem, *]) rfl ⟨by rw [HO.out]; exact ⟨v2, rfl, by rw [ByteArray.size_append, strCells_append, one1_cells (by first | decide | omega)]; exact hown2⟩, ((Below.refl base w).alloc hbase _).grown hg2 (by simp; omega) (own_ge HOW.out)⟩
        · rw [kq] at HS c1
          have HO := Lib.hid (HE.out.trans HS)
          clear HS
          go_enter Tryd.func44, Tryd.ntmps44
          go_wp2_with (at_builtin; refine wpList_append_own _ rfl _ _ 26 rfl base 5 i0 _ 1 1 Tryd.underlying26 hif hz0 hz1 hz2 rfl (by decide) _ _ _ rfl (HOW.out.alloc _) ⟨w.heap.size, 0, none⟩ 1 1 [.int .u8 (34 : Int)] rfl rfl (one_lies (row_new rfl)) (by intro u hu; simp at hu; subst hu; rfl) (by unfold maxLen; omega) (by omega) (by simp; omega) ?_; intro v2 w2 hown2 hg2 _)
          exact bodyPost_ret (v := .tuple #[.int .i64 ((i + 2 : Nat) : Int), v2, .bool true]) (by simp [results, Tryd.results44, go_sem, *]) rfl ⟨by rw [HO.out]; exact ⟨v2, rfl, by rw [ByteArray.size_append, strCells_append, one1_cells (by first | decide | omega)]; exact hown2⟩, ((Below.refl base w).alloc hbase _).grown hg2 (by simp; omega) (own_ge HOW.out)⟩
        · rw [kq] at HS c1
          have HO := Lib.hid (HE.out.trans HS)
          clear HS
          go_enter Tryd.func44, Tryd.ntmps44
          go_wp2_with (at_builtin; refine wpList_append_own _ rfl _ _ 26 rfl base 5 i0 _ 1 1 Tryd.underlying26 hif hz0 hz1 hz2 rfl (by decide) _ _ _ rfl (HOW.out.alloc _) ⟨w.heap.size, 0, none⟩ 1 1 [.int .u8 (39 : Int)] rfl rfl (one_lies (row_new rfl)) (by intro u hu; simp at hu; subst hu; rfl) (by unfold maxLen; omega) (by omega) (by simp; omega) ?_; intro v2 w2 hown2 hg2 _)
          exact bodyPost_ret (v := .tuple #[.int .i64 ((i + 2 : Nat) : Int), v2, .bool true]) (by simp [results, Tryd.results44, go_sem, *]) rfl ⟨by rw [HO.out]; exact ⟨v2, rfl, by rw [ByteArray.size_append, strCells_append, one1_cells (by first | decide | omega)]; exact hown2⟩, ((Below.refl base w).alloc hbase _).grown hg2 (by simp; omega) (own_ge HOW.out)⟩
        · rw [kq] at HS c1
          have HO := Lib.hid (HE.out.trans HS)
          clear HS
          go_enter Tryd.func44, Tryd.ntmps44
          go_wp2_with (at_builtin; refine wpList_append_own _ rfl _ _ 26 rfl base 5 i0 _ 1 1 Tryd.underlying26 hif hz0 hz1 hz2 rfl (by decide) _ _ _ rfl (HOW.out.alloc _) ⟨w.heap.size, 0, none⟩ 1 1 [.int .u8 (36 : Int)] rfl rfl (one_lies (row_new rfl)) (by intro u hu; simp at hu; subst hu; rfl) (by unfold maxLen; omega) (by omega) (by simp; omega) ?_; intro v2 w2 hown2 hg2 _)
          exact bodyPost_ret (v := .tuple #[.int .i64 ((i + 2 : Nat) : Int), v2, .bool true]) (by simp [results, Tryd.results44, go_sem, *]) rfl ⟨by rw [HO.out]; exact ⟨v2, rfl, by rw [ByteArray.size_append, strCells_append, one1_cells (by first | decide | omega)]; exact hown2⟩, ((Below.refl base w).alloc hbase _).grown hg2 (by simp; omega) (own_ge HOW.out)⟩
        · rw [kq] at HS c1
          have HO := Lib.hid (HE.out.trans HS)
          clear HS
          go_enter Tryd.func44, Tryd.ntmps44
          go_wp2_with (at_builtin; refine wpList_append_own _ rfl _ _ 26 rfl base 5 i0 _ 1 1 Tryd.underlying26 hif hz0 hz1 hz2 rfl (by decide) _ _ _ rfl (HOW.out.alloc _) ⟨w.heap.size, 0, none⟩ 1 1 [.int .u8 (96 : Int)] rfl rfl (one_lies (row_new rfl)) (by intro u hu; simp at hu; subst hu; rfl) (by unfold maxLen; omega) (by omega) (by simp; omega) ?_; intro v2 w2 hown2 hg2 _)
          exact bodyPost_ret (v := .tuple #[.int .i64 ((i + 2 : Nat) : Int), v2, .bool true]) (by simp [results, Tryd.results44, go_sem, *]) rfl ⟨by rw [HO.out]; exact ⟨v2, rfl, by rw [ByteArray.size_append, strCells_append, one1_cells (by first | decide | omega)]; exact hown2⟩, ((Below.refl base w).alloc hbase _).grown hg2 (by simp; omega) (own_ge HOW.out)⟩
      have n110 : ((bt s (i + 1) : Int) == 110) = false := by simp; omega
      have n114 : ((bt s (i + 1) : Int) == 114) = false := by simp; omega
      have n116 : ((bt s (i + 1) : Int) == 116) = false := by simp; omega
      have n48 : ((bt s (i + 1) : Int) == 48) = false := by simp; omega
      have n92 : ((bt s (i + 1) : Int) == 92) = false := by simp; omega
      have n34 : ((bt s (i + 1) : Int) == 34) = false := by simp; omega
      have n39 : ((bt s (i + 1) : Int) == 39) = false := by simp; omega
      have n36 : ((bt s (i + 1) : Int) == 36) = false := by simp; omega
      have n96 : ((bt s (i + 1) : Int) == 96) = false := by simp; omega
      by_cases k117 : bt s (i + 1) = 117
      · have HO := Lib.hid (HE.out.trans (show esc s i = hexR s i by unfold esc hexR; rw [if_pos hi1, if_neg k110, if_neg k114, if_neg k116, if_neg k48, if_neg kq, if_pos k117]))
        clear kq k110 k114 k116 k48 n110 n114 n116 n48 n92 n34 n39 n36 n96
        rw [k117] at c1
        have HXX := Lib.hid (HX.out hi1)
        rw [← HO.out] at HXX
        cases hq : one s i with
        | none =>
          rw [hq] at HXX
          have HQ := Lib.hid hq
          clear hq HX
          go_enter Tryd.func44, Tryd.ntmps44
          go_wp2_with (go_at_call 54; (with_reducible refine (HXX.out).mono ?_); rintro e w1 ⟨⟨j, v2, rfl⟩, b1⟩)
          exact bodyPost_ret (v := .tuple #[.int .i64 j, v2, .bool false]) (by simp [results, Tryd.results44, go_sem, *]) rfl ⟨⟨_, _, rfl⟩, b1⟩
        | some p =>
          obtain ⟨t, j⟩ := p
          rw [hq] at HXX
          have HQ := Lib.hid hq
          clear hq HX
          go_enter Tryd.func44, Tryd.ntmps44
          go_wp2_with (go_at_call 54; (with_reducible refine (HXX.out).mono ?_); rintro e w1 ⟨⟨v2, rfl, ho2⟩, b1⟩)
          exact bodyPost_ret (v := .tuple #[.int .i64 (j : Int), v2, .bool true]) (by simp [results, Tryd.results44, go_sem, *]) rfl ⟨⟨_, rfl, ho2⟩, b1⟩
      · have HO := Lib.hid (HE.out.trans (show esc s i = none by unfold esc; rw [if_pos hi1, if_neg k110, if_neg k114, if_neg k116, if_neg k48, if_neg kq, if_neg k117]))
        have n117 : ((bt s (i + 1) : Int) == 117) = false := by simp; omega
        clear kq k110 k114 k116 k48 k117
        generalize bt s (i + 1) = x at *
        go_enter Tryd.func44, Tryd.ntmps44
        go_wp2
        exact bodyPost_ret (v := .tuple #[.int .i64 i, v, .bool false]) (by simp [results, Tryd.results44, go_sem, *]) rfl ⟨by rw [HO.out]; exact ⟨_, _, rfl⟩, Below.refl _ _⟩
    · have HO := Lib.hid (HE.out.trans (if_neg hi1 : esc s i = none))
      have ge : ((i : Int) + 1 ≥ (s.size : Int)) = True := by simp; omega
      clear h ho h92 HD
      go_enter Tryd.func44, Tryd.ntmps44
      go_wp2
      exact bodyPost_ret (v := .tuple #[.int .i64 i, v, .bool false]) (by simp [results, Tryd.results44, go_sem, *]) rfl ⟨by rw [HO.out]; exact ⟨_, _, rfl⟩, Below.refl _ _⟩
  · have HO := Lib.hid (one_rune h92)
    have en : ((bt s i : Int) == 92) = false := by simp; omega
    have enn : ((bt s i : Int) != 92) = true := by simp; omega
    clear h ho h92
    generalize rn s i = r at *
    generalize wd s i = n at *
    go_enter Tryd.func44, Tryd.ntmps44
    go_wp2_with (first | (go_at_call 20; (with_reducible refine (HD.out).mono ?_); rintro e wq ⟨rfl, hwq⟩; obtain rfl := hwq.symm) | (at_builtin; refine Lib.wpList_append_own_string _ rfl _ _ 26 9 rfl base 5 i0 Tryd.underlying26 Tryd.underlying9 hif hz0 hz1 hz2 _ _ _ rfl HOW.out (Utf8.encode (r : Int)) rfl (by have := encode_size_le (r : Int); unfold maxLen; omega) (by have := encode_size_le (r : Int); omega) hbase ?_; intro v2 w2 hown2 hg2 _))
    exact bodyPost_ret (v := .tuple #[.int .i64 ((i + n : Nat) : Int), v2, .bool true]) (by simp [results, Tryd.results44, go_sem, *]) rfl ⟨by rw [HO.out]; exact ⟨v2, rfl, by rw [ByteArray.size_append, strCells_append]; exact hown2⟩, (Below.refl base w).grown hg2 hbase (own_ge HOW.out)⟩
end Go.Proofs.YtdlppdoankeilaaDoor
