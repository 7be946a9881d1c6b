/- The walk of LexBlanks. -/
import Derived.Test.YtdlppdoankeilaaLaw3
namespace Go.Proofs.Ytdlppdoankeilaa
set_option linter.unusedVariables false
set_option linter.unusedSimpArgs false
set_option linter.unnecessarySimpa false
open Go.RowKit
attribute [local go_sem] cell_alloc_add cell_set_add lt_more
theorem Mx.pos {w : World} (hm : Mx w) : 0 < w.heap.size := by obtain ⟨y, hy⟩ := hm; exact Nat.lt_of_le_of_lt (Nat.zero_le _) (World.block_lt_of_cell? w ⟨0, 0, none⟩ hy)
/-- The law's gaps, without the blanks around them. -/
def gapS : Nat → ByteArray
  | 0 => ⟨#[32]⟩
  | 1 => ⟨#[10]⟩
  | 2 => ⟨#[9, 13, 32]⟩
  | 3 => ⟨#[47, 42, 32, 195, 169, 32, 42, 47]⟩
  | 4 => ⟨#[47, 42, 120, 42, 47, 32]⟩
  | _ => ⟨#[47, 47, 120, 10]⟩
theorem gapS_B : ∀ i, i < 6 → (⟨#[32]⟩ ++ gapS i) ++ ⟨#[32]⟩ = gapB i := by
  intro i hi
  rcases (show i = 0 ∨ i = 1 ∨ i = 2 ∨ i = 3 ∨ i = 4 ∨ i = 5 by omega) with rfl | rfl | rfl | rfl | rfl | rfl
  all_goals rfl
theorem gapB_size (i : Nat) : 3 ≤ (gapB i).size ∧ (gapB i).size ≤ 10 := by
  match i with
  | 0 => decide
  | 1 => decide
  | 2 => decide
  | 3 => decide
  | 4 => decide
  | i + 5 => exact show 3 ≤ (⟨#[32, 47, 47, 120, 10, 32]⟩ : ByteArray).size ∧ (⟨#[32, 47, 47, 120, 10, 32]⟩ : ByteArray).size ≤ 10 by decide
/-- A text with a gap laid in. -/
def layB (s g : ByteArray) (n : Nat) : ByteArray := (s.extract 0 n ++ g) ++ s.extract n s.size
theorem layB_size {s g : ByteArray} {n : Nat} (h : n ≤ s.size) : (layB s g n).size = n + g.size + (s.size - n) := by
  unfold layB
  rw [size_app, size_app, ext_size (Nat.zero_le _) h, ext_size h (Nat.le_refl _)]; rfl
theorem layB_at {s g : ByteArray} {n j : Nat} (h : n ≤ s.size) (hj : j < n + g.size + (s.size - n)) : bt (layB s g n) j = if j < n then bt s j else if j < n + g.size then bt g (j - n) else bt s (j - g.size) := by
  have h1 := ext_size (s := s) (Nat.zero_le n) h
  have h2 := ext_size (s := s) h (Nat.le_refl _)
  have h3 : (s.extract 0 n ++ g).size = n + g.size := by rw [size_app, h1]; rfl
  unfold layB
  rw [bt_app _ _ _ (by rw [h3, h2]; exact hj), h3]
  by_cases c1 : j < n + g.size
  · rw [if_pos c1, bt_app _ _ _ (by rw [h1]; omega), h1]
    by_cases c2 : j < n
    · rw [if_pos (by omega), if_pos c2, bt_extract (by omega) h, Nat.zero_add]
    · rw [if_neg (by omega), if_neg c2, if_pos c1]; rfl
  · rw [if_neg c1, if_neg (by omega), if_neg c1, bt_extract (by omega) (Nat.le_refl _)]
    congr 1; omega
theorem lay_toks {s : ByteArray} {i n : Nat} {pre rest : List Tok} {t : Tok} (hn : n ≤ s.size) (h : toks s 0 [] = (pre ++ t :: rest, none)) (ht : t.lo = n) : toks (layB s (gapB i) n) 0 [] = (pre ++ (t :: rest).map (shiftT (gapB i).size), none) := by
  have hz := layB_size (g := gapB i) hn
  refine blanks_law (gap_fine i) ⟨by omega, by omega, fun k hk => ?_⟩ ⟨by omega, by omega, fun k hk => ?_⟩ ⟨by omega, fun k h1 h2 => ?_⟩ h ht
  · rw [Nat.zero_add, layB_at hn (by omega), if_pos hk]
  · rw [Nat.zero_add, layB_at hn (by omega), if_neg (by omega), if_pos (by omega), Nat.add_sub_cancel_left]
  · rw [layB_at hn (by omega), if_neg (by omega), if_neg (by omega), Nat.add_sub_cancel]
theorem str_at (g : ByteArray) (j : Nat) (hj : j < g.size) : (Lib.strCells g)[j]? = some (byteC g j) := by
  have := bcs_at hj
  unfold bcs at this
  exact this
theorem lay_xs {s g : ByteArray} {n : Nat} (h : n ≤ s.size) (j : Nat) (hj : j < n + g.size + (s.size - n)) : (firsts (byteC (s.extract 0 n)) n ++ Lib.strCells g ++ firsts (byteC (s.extract n s.size)) (s.size - n))[j]? = some (byteC (layB s g n) j) := by
  have h1 := ext_size (s := s) (Nat.zero_le n) h
  have h2 := ext_size (s := s) h (Nat.le_refl _)
  have l1 : (firsts (byteC (s.extract 0 n)) n).length = n := firsts_len _ _
  have l2 : (Lib.strCells g).length = g.size := by simp [Lib.strCells_eq, Lib.byteCells_length]
  rw [show byteC (layB s g n) j = .int .u8 (bt (layB s g n) j : Int) from rfl, layB_at h hj]
  by_cases c2 : j < n
  · rw [if_pos c2, List.getElem?_append_left (by simp [l1, l2]; omega), List.getElem?_append_left (by omega), firsts_at c2]
    unfold byteC
    rw [bt_extract (by omega) h, Nat.zero_add]
  · by_cases c1 : j < n + g.size
    · rw [if_neg c2, if_pos c1, List.getElem?_append_left (by simp [l1, l2]; omega), List.getElem?_append_right (by omega), l1, str_at g _ (by omega)]; rfl
    · rw [if_neg c2, if_neg c1, List.getElem?_append_right (by simp [l1, l2]; omega)]
      simp only [List.length_append, l1, l2]
      rw [firsts_at (by omega)]
      unfold byteC
      rw [bt_extract (by omega) (Nat.le_refl _), show n + (j - (n + g.size)) = j - g.size by omega]
theorem gapS_at : ∀ i, i < 6 → (#[.string ⟨#[32]⟩, .string ⟨#[10]⟩, .string ⟨#[9, 13, 32]⟩, .string ⟨#[47, 42, 32, 195, 169, 32, 42, 47]⟩, .string ⟨#[47, 42, 120, 42, 47, 32]⟩, .string ⟨#[47, 47, 120, 10]⟩] : Array Value)[i]? = some (.string (gapS i)) := by
  intro i hi
  rcases (show i = 0 ∨ i = 1 ∨ i = 2 ∨ i = 3 ∨ i = 4 ∨ i = 5 by omega) with rfl | rfl | rfl | rfl | rfl | rfl
  all_goals rfl
/-- A remainder, brought up to 0 or more. -/
theorem mod_at (a : Int) {n : Nat} (hn : 0 < n) (hn2 : n ≤ 4000) : ∃ k : Nat, k < n ∧ ((a.tmod (n : Int) < 0 ∧ wrap64 (a.tmod (n : Int) + (n : Int)) = (k : Int)) ∨ (¬ a.tmod (n : Int) < 0 ∧ a.tmod (n : Int) = (k : Int))) := by
  have h1 : a.tmod (n : Int) < n := Int.tmod_lt_of_pos a (by omega)
  have h2 : -(n : Int) < a.tmod (n : Int) := by
    have h3 : (-a).tmod (n : Int) < n := Int.tmod_lt_of_pos (-a) (by omega)
    rw [Int.neg_tmod] at h3
    omega
  by_cases c : a.tmod (n : Int) < 0
  · refine ⟨(a.tmod (n : Int) + n).toNat, by omega, .inl ⟨c, ?_⟩⟩
    unfold wrap64
    omega
  · exact ⟨(a.tmod (n : Int)).toNat, by omega, .inr ⟨c, by omega⟩⟩
set_option maxRecDepth 100000 in
set_option maxHeartbeats 8000000 in
theorem LexBlanks_any (s : ByteArray) (A : Option Addr) (c : Nat) (hs : s.size ≤ 140737488351232) (hcap : s.size ≤ c) (nn ww : Int) (hn1 : -9223372036854775808 ≤ nn ∧ nn ≤ 9223372036854775807) (hw1 : -9223372036854775808 ≤ ww ∧ ww ≤ 9223372036854775807) (w : World) (hm : Mx w) (h : Rd w w.heap.size A s.size (byteC s)) :
    Calls Try.prog 6 #[.slice A s.size c, .int .i64 nn, .int .i64 ww] w fun e w' => e = .returned (.bool true) ∧ Below w.heap.size w w' := by
  have h0 := hm.pos
  by_cases h15 : s.size ≤ 1480
  · have h15' : ((s.size : Int) > 1480) = False := by simp; omega
    have HTok := Lib.hid (Tokens_any s A c (by omega) w hm h)
    have HK := Lib.hid (fun W (hb : Below w.heap.size w W) => known_any W (hm.below hb h0))
    by_cases hf0 : (tokR s).2.2 = 0
    · have hti := tokR_inv (s := s) (by omega) hf0
      have hlen := toks_len s _ 0 [] (Nat.le_refl _) (Nat.zero_le _)
      obtain ⟨L, hL⟩ : ∃ L, L = tokL s := ⟨_, rfl⟩
      rw [hf0, hti.2, ← hL] at HTok
      rw [hti.1, ← hL] at hlen
      have hT := hti.1
      rw [← hL] at hT
      clear hti hf0 hL
      simp only [cast0] at HTok
      simp only at hlen
      by_cases hL0 : L = []
      · subst hL0
        go_enter Try.func6, Try.ntmps6
        go_wp2_with (first
          | (go_at_call 11; (with_reducible refine HTok.out.mono ?_); rintro e w1 ⟨⟨v1, rfl, ho1⟩, b1⟩; have z1 := Below.size b1; obtain ⟨Al, cl, rfl, hcl, ht1, hob1⟩ := own_trd ho1)
          | (go_at_call 15; (with_reducible refine (HK.out _ (by (repeat (first | (with_reducible exact Below.refl _ _) | (with_reducible assumption) | (with_reducible refine Below.setCell ?_ (by first | omega | (simp <;> omega)) _) | (with_reducible refine Below.alloc ?_ (by first | omega | (simp <;> omega)) _) | (with_reducible refine Below.drew ?_) | (with_reducible refine below_drewN ?_ _) | (with_reducible refine Below.trans ?_ (Below.mono (by with_reducible assumption) (by first | omega | (simp <;> omega)))))))).mono ?_); rintro e wk ⟨rfl, bk⟩; have zk := Below.size bk))
        all_goals (refine bodyPost_ret (v := .bool true) (by simp [results, Try.results6, go_sem]) rfl ⟨rfl, (by (repeat (first | (with_reducible exact Below.refl _ _) | (with_reducible assumption) | (with_reducible refine Below.setCell ?_ (by first | omega | (simp <;> omega)) _) | (with_reducible refine Below.alloc ?_ (by first | omega | (simp <;> omega)) _) | (with_reducible refine Below.drew ?_) | (with_reducible refine below_drewN ?_ _) | (with_reducible refine Below.trans ?_ (Below.mono (by with_reducible assumption) (by first | omega | (simp <;> omega)))))))⟩)
      · have hLp : 0 < L.length := List.length_pos_iff.2 hL0
        have hLn : ((L.length : Int) == 0) = false := by simp; omega
        have HTT := Lib.hid hT
        clear hT hL0
        obtain ⟨k, hkL, hk⟩ := mod_at nn (n := L.length) hLp (by omega)
        obtain ⟨ii, hi6, hii⟩ := mod_at ww (n := 6) (by decide) (by decide)
        simp only [Int.cast_ofNat_Int] at hii
        have hsp : L = L.take k ++ L[k] :: L.drop (k + 1) := by rw [← List.drop_eq_getElem_cons hkL, List.take_append_drop]
        have hlo := toks_lo s L 0 [] (Nat.zero_le _) (by rw [HTT.out]) L[k] (List.getElem_mem hkL)
        obtain ⟨t, ht⟩ : ∃ t, t = L[k] := ⟨_, rfl⟩
        rw [← ht] at hsp hlo
        have HLK := Lib.hid (show L[k]? = some t by rw [ht]; exact tok_at hkL)
        clear ht
        obtain ⟨tk, tx, tl, th⟩ := t
        simp only at hlo
        have htl : tl ≤ s.size := by omega
        have hU := lay_toks (i := ii) htl (by rw [← hsp]; exact HTT.out) rfl
        obtain ⟨N, hN⟩ : ∃ N, N = L.take k ++ (⟨tk, tx, tl, th⟩ :: L.drop (k + 1)).map (shiftT (gapB ii).size) := ⟨_, rfl⟩
        rw [← hN] at hU
        have hNl : N.length = L.length := by rw [hN]; simp; omega
        have hNk : ∀ j, j < L.length → ∃ u x, L[j]? = some u ∧ N[j]? = some x ∧ x.kind = u.kind ∧ x.text = u.text := fun j hj => by
          by_cases hjk : j < k
          · exact ⟨L[j], L[j], tok_at hj, by rw [hN, List.getElem?_append_left (by simp; omega), List.getElem?_take, if_pos hjk]; exact tok_at hj, rfl, rfl⟩
          · refine ⟨L[j], shiftT (gapB ii).size L[j], tok_at hj, ?_, rfl, rfl⟩
            have e : L[j]? = (L.take k ++ ⟨tk, tx, tl, th⟩ :: L.drop (k + 1))[j]? := by rw [← hsp]
            rw [List.getElem?_append_right (by simp; omega)] at e
            rw [hN, List.getElem?_append_right (by simp; omega), List.getElem?_map, ← e, tok_at hj]
            rfl
        have hgs := gapB_size ii
        have HG := Lib.hid (gapS_B ii hi6)
        have hsz1 : (gapS ii).size ≤ 8 := by
          have e := congrArg ByteArray.size (gapS_B ii hi6)
          rw [size_app, size_app] at e
          have h1 : (⟨#[32]⟩ : ByteArray).size = 1 := rfl
          omega
        have hsz2 : (⟨#[32]⟩ ++ gapS ii : ByteArray).size ≤ 9 := by
          rw [size_app]
          have h1 : (⟨#[32]⟩ : ByteArray).size = 1 := rfl
          omega
        have hgv : (#[.string ⟨#[32]⟩, .string ⟨#[10]⟩, .string ⟨#[9, 13, 32]⟩, .string ⟨#[47, 42, 32, 195, 169, 32, 42, 47]⟩, .string ⟨#[47, 42, 120, 42, 47, 32]⟩, .string ⟨#[47, 47, 120, 10]⟩] : Array Value)[ii]? = some (.string (gapS ii)) := gapS_at ii hi6
        have HGV := Lib.hid hgv
        have hbs := layB_size (g := gapB ii) htl
        have HU := Lib.hid (fun W A' c' (hbl : Below w.heap.size w W) (hr : Rd W W.heap.size A' (tl + (gapB ii).size + (s.size - tl)) (byteC (layB s (gapB ii) tl))) => Tokens_n (layB s (gapB ii) tl) (tl + (gapB ii).size + (s.size - tl)) hbs.symm A' c' (by omega) W (hm.below hbl h0) hr hU)
        have HNK := Lib.hid hNk
        have hs1 := fun W => run_cut_to (P := Try.prog) A (n := s.size) (c := c) (hi := tl) W Try.underlying22 (fun _ => by kernel_rfl) (by omega)
        have hs2 := fun W => run_cut_from (P := Try.prog) A (n := s.size) (c := c) (f := tl) W Try.underlying22 (fun _ => by kernel_rfl) htl
        have hr1 := Rd.mid h (Nat.zero_le tl) htl hcap
        have hr2 := Rd.mid h htl (Nat.le_refl _) hcap
        rw [Nat.sub_zero] at hr1
        obtain ⟨A1, hA1⟩ : ∃ A1, A1 = if c = 0 then A else A.map (·.add 0) := ⟨_, rfl⟩
        obtain ⟨A2, hA2⟩ : ∃ A2, A2 = if c = tl then A else A.map (·.add tl) := ⟨_, rfl⟩
        rw [← hA1] at hs1 hr1
        rw [← hA2] at hs2 hr2
        clear hA1 hA2 hU hN hgv hbs hNk hsp HTT hn1 hw1
        obtain ⟨i0, hif, hz0, hz1, hz2⟩ := info_parts infoByte
        rcases hk with ⟨k1, k2⟩ | ⟨k1, k2⟩
        · have k1' : (nn.tmod (L.length : Int) < 0) = True := by simp [k1]
          rcases hii with ⟨j1, j2⟩ | ⟨j1, j2⟩
          · have j1' : (ww.tmod 6 < 0) = True := by simp [j1]
            clear k1 j1
            go_enter Try.func6, Try.ntmps6
            go_wp2_with (first | (go_at_call 11; (with_reducible refine HTok.out.mono ?_); rintro e w1 ⟨⟨v1, rfl, ho1⟩, b1⟩; have z1 := Below.size b1; obtain ⟨Al, cl, rfl, hcl, ht1, hob1⟩ := own_trd ho1; obtain ⟨g, rfl, hg, hq⟩ := ht1 k _ HLK.out; have p1 : w1.cell? ⟨g, k * 4 + 2, none⟩ = some (.int .i64 (tl : Int)) := hq.lo) | (at_builtin; refine wpList_append_rd _ rfl (.tmp 56) (.tmp 63) _ rfl (w1.heap.size + 1) 5 i0 _ 1 Try.underlying22 hif hz0 hz1 hz2 rfl _ 0 [] rfl (World.ownsRow_nil _ _ _ _) _ A1 tl c (byteC (s.extract 0 tl)) rfl (((hr1.below b1).more z1).alloc (Nat.le_refl _) _) (byteC_one _) (by simp only [maxLen]; omega) (by omega) (by first | omega | (simp; done) | (simp; omega)) ?_; intro v3 w3 hown3 hg3 hat3; have hb3 : Below w1.heap.size w1 w3 := ((Below.refl _ w1).alloc (Nat.le_refl _) _).grown hg3 (by simp) ob_none; have hz3 := hb3.size; have rg3 := row_grown (row_new rfl) hg3 (fun e => by cases e); have ng3 := rg3.lt; have gc3 := rg3.cell ii; rw [HGV.out] at gc3; have tq3 := hq.block (hb3.block g hg); have p3 : w3.cell? ⟨g, k * 4 + 2, none⟩ = some (.int .i64 (tl : Int)) := tq3.lo) | (at_builtin; refine Lib.wpList_append_own_string _ rfl _ _ 22 9 rfl (w1.heap.size + 1) 5 i0 Try.underlying22 Try.underlying9 hif hz0 hz1 hz2 _ _ _ rfl hown3 (⟨#[32]⟩ ++ gapS ii ++ ⟨#[32]⟩) rfl (by rw [HG.out]; unfold maxLen; omega) (by rw [HG.out]; omega) (by omega) ?_; intro v4 w4 hown4 hg4 _; rw [HG.out] at hown4; have hb4 : Below w1.heap.size w1 w4 := hb3.grown hg4 hz3 (fun k e => by have := own_ge hown3 k e; omega); have hz4 := hb4.size; have hs4 := hg4.size; have tq4 := hq.block (hb4.block g hg); have p4 : w4.cell? ⟨g, k * 4 + 2, none⟩ = some (.int .i64 (tl : Int)) := tq4.lo) | (at_builtin; refine wpList_append_rd _ rfl (.tmp 73) (.tmp 80) _ rfl (w1.heap.size + 1) 5 i0 _ 1 Try.underlying22 hif hz0 hz1 hz2 rfl v4 _ _ rfl hown4 _ A2 (s.size - tl) (c - tl) (byteC (s.extract tl s.size)) rfl ((hr2.below b1).below (hb4.mono z1)) (byteC_one _) (by simp only [maxLen]; omega) (by omega) (by first | omega | (simp; done) | (simp; omega)) ?_; intro v5 w5 hown5 hg5 hat5; have hb5 : Below w1.heap.size w1 w5 := hb4.grown hg5 hz4 (fun k e => by have := own_ge hown4 k e; omega); have hz5 := hb5.size; obtain ⟨A5, c5, hv5, hc5, hrd5⟩ := rd_own hown5; simp only [Nat.zero_add, List.nil_append] at hv5 hc5 hrd5; subst hv5; have hr5 := hrd5 (byteC (layB s (gapB ii) tl)) (fun j hj => lay_xs htl j hj); have tq5 := hq.block (hb5.block g hg); have p5 : w5.cell? ⟨g, k * 4, none⟩ = some (.int .i64 tk) := tq5.k) | (go_at_call 11; (with_reducible refine (HU.out w5 A5 c5 (b1.trans (hb5.mono z1)) hr5).mono ?_); rintro e w6 ⟨⟨v6, rfl, ho6⟩, b6⟩; have z6 := Below.size b6; obtain ⟨An, cn, rfl, hcn, ht6, hob6⟩ := own_trd ho6) | (go_at_call 15; (with_reducible refine (HK.out _ (by (repeat (first | (with_reducible exact Below.refl _ _) | (with_reducible assumption) | (with_reducible refine Below.setCell ?_ (by first | omega | (simp <;> omega)) _) | (with_reducible refine Below.alloc ?_ (by first | omega | (simp <;> omega)) _) | (with_reducible refine Below.drew ?_) | (with_reducible refine below_drewN ?_ _) | (with_reducible refine Below.trans ?_ (Below.mono (by with_reducible assumption) (by first | omega | (simp <;> omega)))))))).mono ?_); rintro e wk ⟨rfl, bk⟩; have zk := Below.size bk))
            all_goals first
              | (refine bodyPost_ret (v := .bool true) (by simp [results, Try.results6, go_sem]) rfl ⟨rfl, (b1.trans (hb5.mono z1)).trans (bk.mono (by omega))⟩)
              | skip
            have b6w : Below w1.heap.size w1 w6 := hb5.trans (b6.mono hz5)
            have z16 := b6w.size
            clear ho1 hob1 hown3 hg3 hat3 hb3 rg3 gc3 tq3 p3 hown4 hg4 hb4 tq4 p4 hown5 hg5 hat5 hrd5 hr5 tq5 p5 p1 ho6 hob6 HTok HU hs1 hs2 hr1 hr2 HG HGV
            go_loopw [17] (fun vi wr => ∃ m : Nat, m ≤ L.length ∧ vi = .int .i64 (m : Int) ∧ Below w6.heap.size w6 wr) (fun i _ => L.length - (intOf i).toNat)
            case atStart => exact ⟨0, Nat.zero_le _, rfl, Below.refl _ _⟩
            case round =>
              obtain ⟨m, hm1, rfl, hb⟩ := hrel
              have hz := hb.size
              by_cases hlt : m < L.length
              · obtain ⟨⟨uk, ux, ul, uh⟩, ⟨xk, xx, xl, xh⟩, e1, e2, e3, e4⟩ := HNK.out m hlt
                simp only at e3 e4
                subst e3 e4
                obtain ⟨g2, hg2e, hg2, ⟨q0, q1, q2, q3⟩⟩ := ((ht1.below b6w).below (hb.mono z16)) m _ e1
                injection hg2e with hg2e
                injection hg2e with hg2e
                subst hg2e
                obtain ⟨g3, rfl, hg3, ⟨x0, x1, x2, x3⟩⟩ := (ht6.below hb) m _ e2
                simp only at q0 q1 q2 q3 x0 x1 x2 x3
                clear e1 e2
                have i2 : (m : Int) < (N.length : Int) := by omega
                go_wp2
                go_quiet (fail)
                go_wp2
                exact ⟨⟨m + 1, by omega, by go_num, (by (repeat (first | (with_reducible exact Below.refl _ _) | (with_reducible assumption) | (with_reducible refine Below.setCell ?_ (by first | omega | (simp <;> omega)) _) | (with_reducible refine Below.alloc ?_ (by first | omega | (simp <;> omega)) _) | (with_reducible refine Below.drew ?_) | (with_reducible refine below_drewN ?_ _) | (with_reducible refine Below.trans ?_ (Below.mono (by with_reducible assumption) (by first | omega | (simp <;> omega)))))))⟩, by simp [intOf]; omega⟩
              · have hbw : Below w.heap.size w wr := b1.trans ((b6w.mono z1).trans (hb.mono (by omega)))
                go_wp2_with (go_at_call 15; (with_reducible refine (HK.out _ (by (repeat (first | (with_reducible exact Below.refl _ _) | (with_reducible assumption) | (with_reducible refine Below.setCell ?_ (by first | omega | (simp <;> omega)) _) | (with_reducible refine Below.alloc ?_ (by first | omega | (simp <;> omega)) _) | (with_reducible refine Below.drew ?_) | (with_reducible refine below_drewN ?_ _) | (with_reducible refine Below.trans ?_ (Below.mono (by with_reducible assumption) (by first | omega | (simp <;> omega)))))))).mono ?_); rintro e wk ⟨rfl, bk⟩; have zk := Below.size bk)
                all_goals (refine bodyPost_ret (v := .bool true) (by simp [results, Try.results6, go_sem]) rfl ⟨rfl, (by (repeat (first | (with_reducible exact Below.refl _ _) | (with_reducible assumption) | (with_reducible refine Below.setCell ?_ (by first | omega | (simp <;> omega)) _) | (with_reducible refine Below.alloc ?_ (by first | omega | (simp <;> omega)) _) | (with_reducible refine Below.drew ?_) | (with_reducible refine below_drewN ?_ _) | (with_reducible refine Below.trans ?_ (Below.mono (by with_reducible assumption) (by first | omega | (simp <;> omega)))))))⟩)
          · clear k1 j1
            go_enter Try.func6, Try.ntmps6
            go_wp2_with (first | (go_at_call 11; (with_reducible refine HTok.out.mono ?_); rintro e w1 ⟨⟨v1, rfl, ho1⟩, b1⟩; have z1 := Below.size b1; obtain ⟨Al, cl, rfl, hcl, ht1, hob1⟩ := own_trd ho1; obtain ⟨g, rfl, hg, hq⟩ := ht1 k _ HLK.out; have p1 : w1.cell? ⟨g, k * 4 + 2, none⟩ = some (.int .i64 (tl : Int)) := hq.lo) | (at_builtin; refine wpList_append_rd _ rfl (.tmp 56) (.tmp 63) _ rfl (w1.heap.size + 1) 5 i0 _ 1 Try.underlying22 hif hz0 hz1 hz2 rfl _ 0 [] rfl (World.ownsRow_nil _ _ _ _) _ A1 tl c (byteC (s.extract 0 tl)) rfl (((hr1.below b1).more z1).alloc (Nat.le_refl _) _) (byteC_one _) (by simp only [maxLen]; omega) (by omega) (by first | omega | (simp; done) | (simp; omega)) ?_; intro v3 w3 hown3 hg3 hat3; have hb3 : Below w1.heap.size w1 w3 := ((Below.refl _ w1).alloc (Nat.le_refl _) _).grown hg3 (by simp) ob_none; have hz3 := hb3.size; have rg3 := row_grown (row_new rfl) hg3 (fun e => by cases e); have ng3 := rg3.lt; have gc3 := rg3.cell ii; rw [HGV.out] at gc3; have tq3 := hq.block (hb3.block g hg); have p3 : w3.cell? ⟨g, k * 4 + 2, none⟩ = some (.int .i64 (tl : Int)) := tq3.lo) | (at_builtin; refine Lib.wpList_append_own_string _ rfl _ _ 22 9 rfl (w1.heap.size + 1) 5 i0 Try.underlying22 Try.underlying9 hif hz0 hz1 hz2 _ _ _ rfl hown3 (⟨#[32]⟩ ++ gapS ii ++ ⟨#[32]⟩) rfl (by rw [HG.out]; unfold maxLen; omega) (by rw [HG.out]; omega) (by omega) ?_; intro v4 w4 hown4 hg4 _; rw [HG.out] at hown4; have hb4 : Below w1.heap.size w1 w4 := hb3.grown hg4 hz3 (fun k e => by have := own_ge hown3 k e; omega); have hz4 := hb4.size; have hs4 := hg4.size; have tq4 := hq.block (hb4.block g hg); have p4 : w4.cell? ⟨g, k * 4 + 2, none⟩ = some (.int .i64 (tl : Int)) := tq4.lo) | (at_builtin; refine wpList_append_rd _ rfl (.tmp 73) (.tmp 80) _ rfl (w1.heap.size + 1) 5 i0 _ 1 Try.underlying22 hif hz0 hz1 hz2 rfl v4 _ _ rfl hown4 _ A2 (s.size - tl) (c - tl) (byteC (s.extract tl s.size)) rfl ((hr2.below b1).below (hb4.mono z1)) (byteC_one _) (by simp only [maxLen]; omega) (by omega) (by first | omega | (simp; done) | (simp; omega)) ?_; intro v5 w5 hown5 hg5 hat5; have hb5 : Below w1.heap.size w1 w5 := hb4.grown hg5 hz4 (fun k e => by have := own_ge hown4 k e; omega); have hz5 := hb5.size; obtain ⟨A5, c5, hv5, hc5, hrd5⟩ := rd_own hown5; simp only [Nat.zero_add, List.nil_append] at hv5 hc5 hrd5; subst hv5; have hr5 := hrd5 (byteC (layB s (gapB ii) tl)) (fun j hj => lay_xs htl j hj); have tq5 := hq.block (hb5.block g hg); have p5 : w5.cell? ⟨g, k * 4, none⟩ = some (.int .i64 tk) := tq5.k) | (go_at_call 11; (with_reducible refine (HU.out w5 A5 c5 (b1.trans (hb5.mono z1)) hr5).mono ?_); rintro e w6 ⟨⟨v6, rfl, ho6⟩, b6⟩; have z6 := Below.size b6; obtain ⟨An, cn, rfl, hcn, ht6, hob6⟩ := own_trd ho6) | (go_at_call 15; (with_reducible refine (HK.out _ (by (repeat (first | (with_reducible exact Below.refl _ _) | (with_reducible assumption) | (with_reducible refine Below.setCell ?_ (by first | omega | (simp <;> omega)) _) | (with_reducible refine Below.alloc ?_ (by first | omega | (simp <;> omega)) _) | (with_reducible refine Below.drew ?_) | (with_reducible refine below_drewN ?_ _) | (with_reducible refine Below.trans ?_ (Below.mono (by with_reducible assumption) (by first | omega | (simp <;> omega)))))))).mono ?_); rintro e wk ⟨rfl, bk⟩; have zk := Below.size bk))
            all_goals first
              | (refine bodyPost_ret (v := .bool true) (by simp [results, Try.results6, go_sem]) rfl ⟨rfl, (b1.trans (hb5.mono z1)).trans (bk.mono (by omega))⟩)
              | skip
            have b6w : Below w1.heap.size w1 w6 := hb5.trans (b6.mono hz5)
            have z16 := b6w.size
            clear ho1 hob1 hown3 hg3 hat3 hb3 rg3 gc3 tq3 p3 hown4 hg4 hb4 tq4 p4 hown5 hg5 hat5 hrd5 hr5 tq5 p5 p1 ho6 hob6 HTok HU hs1 hs2 hr1 hr2 HG HGV
            go_loopw [17] (fun vi wr => ∃ m : Nat, m ≤ L.length ∧ vi = .int .i64 (m : Int) ∧ Below w6.heap.size w6 wr) (fun i _ => L.length - (intOf i).toNat)
            case atStart => exact ⟨0, Nat.zero_le _, rfl, Below.refl _ _⟩
            case round =>
              obtain ⟨m, hm1, rfl, hb⟩ := hrel
              have hz := hb.size
              by_cases hlt : m < L.length
              · obtain ⟨⟨uk, ux, ul, uh⟩, ⟨xk, xx, xl, xh⟩, e1, e2, e3, e4⟩ := HNK.out m hlt
                simp only at e3 e4
                subst e3 e4
                obtain ⟨g2, hg2e, hg2, ⟨q0, q1, q2, q3⟩⟩ := ((ht1.below b6w).below (hb.mono z16)) m _ e1
                injection hg2e with hg2e
                injection hg2e with hg2e
                subst hg2e
                obtain ⟨g3, rfl, hg3, ⟨x0, x1, x2, x3⟩⟩ := (ht6.below hb) m _ e2
                simp only at q0 q1 q2 q3 x0 x1 x2 x3
                clear e1 e2
                have i2 : (m : Int) < (N.length : Int) := by omega
                go_wp2
                go_quiet (fail)
                go_wp2
                exact ⟨⟨m + 1, by omega, by go_num, (by (repeat (first | (with_reducible exact Below.refl _ _) | (with_reducible assumption) | (with_reducible refine Below.setCell ?_ (by first | omega | (simp <;> omega)) _) | (with_reducible refine Below.alloc ?_ (by first | omega | (simp <;> omega)) _) | (with_reducible refine Below.drew ?_) | (with_reducible refine below_drewN ?_ _) | (with_reducible refine Below.trans ?_ (Below.mono (by with_reducible assumption) (by first | omega | (simp <;> omega)))))))⟩, by simp [intOf]; omega⟩
              · have hbw : Below w.heap.size w wr := b1.trans ((b6w.mono z1).trans (hb.mono (by omega)))
                go_wp2_with (go_at_call 15; (with_reducible refine (HK.out _ (by (repeat (first | (with_reducible exact Below.refl _ _) | (with_reducible assumption) | (with_reducible refine Below.setCell ?_ (by first | omega | (simp <;> omega)) _) | (with_reducible refine Below.alloc ?_ (by first | omega | (simp <;> omega)) _) | (with_reducible refine Below.drew ?_) | (with_reducible refine below_drewN ?_ _) | (with_reducible refine Below.trans ?_ (Below.mono (by with_reducible assumption) (by first | omega | (simp <;> omega)))))))).mono ?_); rintro e wk ⟨rfl, bk⟩; have zk := Below.size bk)
                all_goals (refine bodyPost_ret (v := .bool true) (by simp [results, Try.results6, go_sem]) rfl ⟨rfl, (by (repeat (first | (with_reducible exact Below.refl _ _) | (with_reducible assumption) | (with_reducible refine Below.setCell ?_ (by first | omega | (simp <;> omega)) _) | (with_reducible refine Below.alloc ?_ (by first | omega | (simp <;> omega)) _) | (with_reducible refine Below.drew ?_) | (with_reducible refine below_drewN ?_ _) | (with_reducible refine Below.trans ?_ (Below.mono (by with_reducible assumption) (by first | omega | (simp <;> omega)))))))⟩)
        · rcases hii with ⟨j1, j2⟩ | ⟨j1, j2⟩
          · have j1' : (ww.tmod 6 < 0) = True := by simp [j1]
            clear k1 j1
            go_enter Try.func6, Try.ntmps6
            go_wp2_with (first | (go_at_call 11; (with_reducible refine HTok.out.mono ?_); rintro e w1 ⟨⟨v1, rfl, ho1⟩, b1⟩; have z1 := Below.size b1; obtain ⟨Al, cl, rfl, hcl, ht1, hob1⟩ := own_trd ho1; obtain ⟨g, rfl, hg, hq⟩ := ht1 k _ HLK.out; have p1 : w1.cell? ⟨g, k * 4 + 2, none⟩ = some (.int .i64 (tl : Int)) := hq.lo) | (at_builtin; refine wpList_append_rd _ rfl (.tmp 56) (.tmp 63) _ rfl (w1.heap.size + 1) 5 i0 _ 1 Try.underlying22 hif hz0 hz1 hz2 rfl _ 0 [] rfl (World.ownsRow_nil _ _ _ _) _ A1 tl c (byteC (s.extract 0 tl)) rfl (((hr1.below b1).more z1).alloc (Nat.le_refl _) _) (byteC_one _) (by simp only [maxLen]; omega) (by omega) (by first | omega | (simp; done) | (simp; omega)) ?_; intro v3 w3 hown3 hg3 hat3; have hb3 : Below w1.heap.size w1 w3 := ((Below.refl _ w1).alloc (Nat.le_refl _) _).grown hg3 (by simp) ob_none; have hz3 := hb3.size; have rg3 := row_grown (row_new rfl) hg3 (fun e => by cases e); have ng3 := rg3.lt; have gc3 := rg3.cell ii; rw [HGV.out] at gc3; have tq3 := hq.block (hb3.block g hg); have p3 : w3.cell? ⟨g, k * 4 + 2, none⟩ = some (.int .i64 (tl : Int)) := tq3.lo) | (at_builtin; refine Lib.wpList_append_own_string _ rfl _ _ 22 9 rfl (w1.heap.size + 1) 5 i0 Try.underlying22 Try.underlying9 hif hz0 hz1 hz2 _ _ _ rfl hown3 (⟨#[32]⟩ ++ gapS ii ++ ⟨#[32]⟩) rfl (by rw [HG.out]; unfold maxLen; omega) (by rw [HG.out]; omega) (by omega) ?_; intro v4 w4 hown4 hg4 _; rw [HG.out] at hown4; have hb4 : Below w1.heap.size w1 w4 := hb3.grown hg4 hz3 (fun k e => by have := own_ge hown3 k e; omega); have hz4 := hb4.size; have hs4 := hg4.size; have tq4 := hq.block (hb4.block g hg); have p4 : w4.cell? ⟨g, k * 4 + 2, none⟩ = some (.int .i64 (tl : Int)) := tq4.lo) | (at_builtin; refine wpList_append_rd _ rfl (.tmp 73) (.tmp 80) _ rfl (w1.heap.size + 1) 5 i0 _ 1 Try.underlying22 hif hz0 hz1 hz2 rfl v4 _ _ rfl hown4 _ A2 (s.size - tl) (c - tl) (byteC (s.extract tl s.size)) rfl ((hr2.below b1).below (hb4.mono z1)) (byteC_one _) (by simp only [maxLen]; omega) (by omega) (by first | omega | (simp; done) | (simp; omega)) ?_; intro v5 w5 hown5 hg5 hat5; have hb5 : Below w1.heap.size w1 w5 := hb4.grown hg5 hz4 (fun k e => by have := own_ge hown4 k e; omega); have hz5 := hb5.size; obtain ⟨A5, c5, hv5, hc5, hrd5⟩ := rd_own hown5; simp only [Nat.zero_add, List.nil_append] at hv5 hc5 hrd5; subst hv5; have hr5 := hrd5 (byteC (layB s (gapB ii) tl)) (fun j hj => lay_xs htl j hj); have tq5 := hq.block (hb5.block g hg); have p5 : w5.cell? ⟨g, k * 4, none⟩ = some (.int .i64 tk) := tq5.k) | (go_at_call 11; (with_reducible refine (HU.out w5 A5 c5 (b1.trans (hb5.mono z1)) hr5).mono ?_); rintro e w6 ⟨⟨v6, rfl, ho6⟩, b6⟩; have z6 := Below.size b6; obtain ⟨An, cn, rfl, hcn, ht6, hob6⟩ := own_trd ho6) | (go_at_call 15; (with_reducible refine (HK.out _ (by (repeat (first | (with_reducible exact Below.refl _ _) | (with_reducible assumption) | (with_reducible refine Below.setCell ?_ (by first | omega | (simp <;> omega)) _) | (with_reducible refine Below.alloc ?_ (by first | omega | (simp <;> omega)) _) | (with_reducible refine Below.drew ?_) | (with_reducible refine below_drewN ?_ _) | (with_reducible refine Below.trans ?_ (Below.mono (by with_reducible assumption) (by first | omega | (simp <;> omega)))))))).mono ?_); rintro e wk ⟨rfl, bk⟩; have zk := Below.size bk))
            all_goals first
              | (refine bodyPost_ret (v := .bool true) (by simp [results, Try.results6, go_sem]) rfl ⟨rfl, (b1.trans (hb5.mono z1)).trans (bk.mono (by omega))⟩)
              | skip
            have b6w : Below w1.heap.size w1 w6 := hb5.trans (b6.mono hz5)
            have z16 := b6w.size
            clear ho1 hob1 hown3 hg3 hat3 hb3 rg3 gc3 tq3 p3 hown4 hg4 hb4 tq4 p4 hown5 hg5 hat5 hrd5 hr5 tq5 p5 p1 ho6 hob6 HTok HU hs1 hs2 hr1 hr2 HG HGV
            go_loopw [17] (fun vi wr => ∃ m : Nat, m ≤ L.length ∧ vi = .int .i64 (m : Int) ∧ Below w6.heap.size w6 wr) (fun i _ => L.length - (intOf i).toNat)
            case atStart => exact ⟨0, Nat.zero_le _, rfl, Below.refl _ _⟩
            case round =>
              obtain ⟨m, hm1, rfl, hb⟩ := hrel
              have hz := hb.size
              by_cases hlt : m < L.length
              · obtain ⟨⟨uk, ux, ul, uh⟩, ⟨xk, xx, xl, xh⟩, e1, e2, e3, e4⟩ := HNK.out m hlt
                simp only at e3 e4
                subst e3 e4
                obtain ⟨g2, hg2e, hg2, ⟨q0, q1, q2, q3⟩⟩ := ((ht1.below b6w).below (hb.mono z16)) m _ e1
                injection hg2e with hg2e
                injection hg2e with hg2e
                subst hg2e
                obtain ⟨g3, rfl, hg3, ⟨x0, x1, x2, x3⟩⟩ := (ht6.below hb) m _ e2
                simp only at q0 q1 q2 q3 x0 x1 x2 x3
                clear e1 e2
                have i2 : (m : Int) < (N.length : Int) := by omega
                go_wp2
                go_quiet (fail)
                go_wp2
                exact ⟨⟨m + 1, by omega, by go_num, (by (repeat (first | (with_reducible exact Below.refl _ _) | (with_reducible assumption) | (with_reducible refine Below.setCell ?_ (by first | omega | (simp <;> omega)) _) | (with_reducible refine Below.alloc ?_ (by first | omega | (simp <;> omega)) _) | (with_reducible refine Below.drew ?_) | (with_reducible refine below_drewN ?_ _) | (with_reducible refine Below.trans ?_ (Below.mono (by with_reducible assumption) (by first | omega | (simp <;> omega)))))))⟩, by simp [intOf]; omega⟩
              · have hbw : Below w.heap.size w wr := b1.trans ((b6w.mono z1).trans (hb.mono (by omega)))
                go_wp2_with (go_at_call 15; (with_reducible refine (HK.out _ (by (repeat (first | (with_reducible exact Below.refl _ _) | (with_reducible assumption) | (with_reducible refine Below.setCell ?_ (by first | omega | (simp <;> omega)) _) | (with_reducible refine Below.alloc ?_ (by first | omega | (simp <;> omega)) _) | (with_reducible refine Below.drew ?_) | (with_reducible refine below_drewN ?_ _) | (with_reducible refine Below.trans ?_ (Below.mono (by with_reducible assumption) (by first | omega | (simp <;> omega)))))))).mono ?_); rintro e wk ⟨rfl, bk⟩; have zk := Below.size bk)
                all_goals (refine bodyPost_ret (v := .bool true) (by simp [results, Try.results6, go_sem]) rfl ⟨rfl, (by (repeat (first | (with_reducible exact Below.refl _ _) | (with_reducible assumption) | (with_reducible refine Below.setCell ?_ (by first | omega | (simp <;> omega)) _) | (with_reducible refine Below.alloc ?_ (by first | omega | (simp <;> omega)) _) | (with_reducible refine Below.drew ?_) | (with_reducible refine below_drewN ?_ _) | (with_reducible refine Below.trans ?_ (Below.mono (by with_reducible assumption) (by first | omega | (simp <;> omega)))))))⟩)
          · clear k1 j1
            go_enter Try.func6, Try.ntmps6
            go_wp2_with (first | (go_at_call 11; (with_reducible refine HTok.out.mono ?_); rintro e w1 ⟨⟨v1, rfl, ho1⟩, b1⟩; have z1 := Below.size b1; obtain ⟨Al, cl, rfl, hcl, ht1, hob1⟩ := own_trd ho1; obtain ⟨g, rfl, hg, hq⟩ := ht1 k _ HLK.out; have p1 : w1.cell? ⟨g, k * 4 + 2, none⟩ = some (.int .i64 (tl : Int)) := hq.lo) | (at_builtin; refine wpList_append_rd _ rfl (.tmp 56) (.tmp 63) _ rfl (w1.heap.size + 1) 5 i0 _ 1 Try.underlying22 hif hz0 hz1 hz2 rfl _ 0 [] rfl (World.ownsRow_nil _ _ _ _) _ A1 tl c (byteC (s.extract 0 tl)) rfl (((hr1.below b1).more z1).alloc (Nat.le_refl _) _) (byteC_one _) (by simp only [maxLen]; omega) (by omega) (by first | omega | (simp; done) | (simp; omega)) ?_; intro v3 w3 hown3 hg3 hat3; have hb3 : Below w1.heap.size w1 w3 := ((Below.refl _ w1).alloc (Nat.le_refl _) _).grown hg3 (by simp) ob_none; have hz3 := hb3.size; have rg3 := row_grown (row_new rfl) hg3 (fun e => by cases e); have ng3 := rg3.lt; have gc3 := rg3.cell ii; rw [HGV.out] at gc3; have tq3 := hq.block (hb3.block g hg); have p3 : w3.cell? ⟨g, k * 4 + 2, none⟩ = some (.int .i64 (tl : Int)) := tq3.lo) | (at_builtin; refine Lib.wpList_append_own_string _ rfl _ _ 22 9 rfl (w1.heap.size + 1) 5 i0 Try.underlying22 Try.underlying9 hif hz0 hz1 hz2 _ _ _ rfl hown3 (⟨#[32]⟩ ++ gapS ii ++ ⟨#[32]⟩) rfl (by rw [HG.out]; unfold maxLen; omega) (by rw [HG.out]; omega) (by omega) ?_; intro v4 w4 hown4 hg4 _; rw [HG.out] at hown4; have hb4 : Below w1.heap.size w1 w4 := hb3.grown hg4 hz3 (fun k e => by have := own_ge hown3 k e; omega); have hz4 := hb4.size; have hs4 := hg4.size; have tq4 := hq.block (hb4.block g hg); have p4 : w4.cell? ⟨g, k * 4 + 2, none⟩ = some (.int .i64 (tl : Int)) := tq4.lo) | (at_builtin; refine wpList_append_rd _ rfl (.tmp 73) (.tmp 80) _ rfl (w1.heap.size + 1) 5 i0 _ 1 Try.underlying22 hif hz0 hz1 hz2 rfl v4 _ _ rfl hown4 _ A2 (s.size - tl) (c - tl) (byteC (s.extract tl s.size)) rfl ((hr2.below b1).below (hb4.mono z1)) (byteC_one _) (by simp only [maxLen]; omega) (by omega) (by first | omega | (simp; done) | (simp; omega)) ?_; intro v5 w5 hown5 hg5 hat5; have hb5 : Below w1.heap.size w1 w5 := hb4.grown hg5 hz4 (fun k e => by have := own_ge hown4 k e; omega); have hz5 := hb5.size; obtain ⟨A5, c5, hv5, hc5, hrd5⟩ := rd_own hown5; simp only [Nat.zero_add, List.nil_append] at hv5 hc5 hrd5; subst hv5; have hr5 := hrd5 (byteC (layB s (gapB ii) tl)) (fun j hj => lay_xs htl j hj); have tq5 := hq.block (hb5.block g hg); have p5 : w5.cell? ⟨g, k * 4, none⟩ = some (.int .i64 tk) := tq5.k) | (go_at_call 11; (with_reducible refine (HU.out w5 A5 c5 (b1.trans (hb5.mono z1)) hr5).mono ?_); rintro e w6 ⟨⟨v6, rfl, ho6⟩, b6⟩; have z6 := Below.size b6; obtain ⟨An, cn, rfl, hcn, ht6, hob6⟩ := own_trd ho6) | (go_at_call 15; (with_reducible refine (HK.out _ (by (repeat (first | (with_reducible exact Below.refl _ _) | (with_reducible assumption) | (with_reducible refine Below.setCell ?_ (by first | omega | (simp <;> omega)) _) | (with_reducible refine Below.alloc ?_ (by first | omega | (simp <;> omega)) _) | (with_reducible refine Below.drew ?_) | (with_reducible refine below_drewN ?_ _) | (with_reducible refine Below.trans ?_ (Below.mono (by with_reducible assumption) (by first | omega | (simp <;> omega)))))))).mono ?_); rintro e wk ⟨rfl, bk⟩; have zk := Below.size bk))
            all_goals first
              | (refine bodyPost_ret (v := .bool true) (by simp [results, Try.results6, go_sem]) rfl ⟨rfl, (b1.trans (hb5.mono z1)).trans (bk.mono (by omega))⟩)
              | skip
            have b6w : Below w1.heap.size w1 w6 := hb5.trans (b6.mono hz5)
            have z16 := b6w.size
            clear ho1 hob1 hown3 hg3 hat3 hb3 rg3 gc3 tq3 p3 hown4 hg4 hb4 tq4 p4 hown5 hg5 hat5 hrd5 hr5 tq5 p5 p1 ho6 hob6 HTok HU hs1 hs2 hr1 hr2 HG HGV
            go_loopw [17] (fun vi wr => ∃ m : Nat, m ≤ L.length ∧ vi = .int .i64 (m : Int) ∧ Below w6.heap.size w6 wr) (fun i _ => L.length - (intOf i).toNat)
            case atStart => exact ⟨0, Nat.zero_le _, rfl, Below.refl _ _⟩
            case round =>
              obtain ⟨m, hm1, rfl, hb⟩ := hrel
              have hz := hb.size
              by_cases hlt : m < L.length
              · obtain ⟨⟨uk, ux, ul, uh⟩, ⟨xk, xx, xl, xh⟩, e1, e2, e3, e4⟩ := HNK.out m hlt
                simp only at e3 e4
                subst e3 e4
                obtain ⟨g2, hg2e, hg2, ⟨q0, q1, q2, q3⟩⟩ := ((ht1.below b6w).below (hb.mono z16)) m _ e1
                injection hg2e with hg2e
                injection hg2e with hg2e
                subst hg2e
                obtain ⟨g3, rfl, hg3, ⟨x0, x1, x2, x3⟩⟩ := (ht6.below hb) m _ e2
                simp only at q0 q1 q2 q3 x0 x1 x2 x3
                clear e1 e2
                have i2 : (m : Int) < (N.length : Int) := by omega
                go_wp2
                go_quiet (fail)
                go_wp2
                exact ⟨⟨m + 1, by omega, by go_num, (by (repeat (first | (with_reducible exact Below.refl _ _) | (with_reducible assumption) | (with_reducible refine Below.setCell ?_ (by first | omega | (simp <;> omega)) _) | (with_reducible refine Below.alloc ?_ (by first | omega | (simp <;> omega)) _) | (with_reducible refine Below.drew ?_) | (with_reducible refine below_drewN ?_ _) | (with_reducible refine Below.trans ?_ (Below.mono (by with_reducible assumption) (by first | omega | (simp <;> omega)))))))⟩, by simp [intOf]; omega⟩
              · have hbw : Below w.heap.size w wr := b1.trans ((b6w.mono z1).trans (hb.mono (by omega)))
                go_wp2_with (go_at_call 15; (with_reducible refine (HK.out _ (by (repeat (first | (with_reducible exact Below.refl _ _) | (with_reducible assumption) | (with_reducible refine Below.setCell ?_ (by first | omega | (simp <;> omega)) _) | (with_reducible refine Below.alloc ?_ (by first | omega | (simp <;> omega)) _) | (with_reducible refine Below.drew ?_) | (with_reducible refine below_drewN ?_ _) | (with_reducible refine Below.trans ?_ (Below.mono (by with_reducible assumption) (by first | omega | (simp <;> omega)))))))).mono ?_); rintro e wk ⟨rfl, bk⟩; have zk := Below.size bk)
                all_goals (refine bodyPost_ret (v := .bool true) (by simp [results, Try.results6, go_sem]) rfl ⟨rfl, (by (repeat (first | (with_reducible exact Below.refl _ _) | (with_reducible assumption) | (with_reducible refine Below.setCell ?_ (by first | omega | (simp <;> omega)) _) | (with_reducible refine Below.alloc ?_ (by first | omega | (simp <;> omega)) _) | (with_reducible refine Below.drew ?_) | (with_reducible refine below_drewN ?_ _) | (with_reducible refine Below.trans ?_ (Below.mono (by with_reducible assumption) (by first | omega | (simp <;> omega)))))))⟩)
    · have hL : tokL s = [] := if_neg hf0
      obtain ⟨pl, hpl⟩ : ∃ pl, pl = (tokR s).2.1 := ⟨_, rfl⟩
      obtain ⟨fl, hfl⟩ : ∃ fl, fl = (tokR s).2.2 := ⟨_, rfl⟩
      rw [hL, ← hpl, ← hfl] at HTok
      rw [← hfl] at hf0
      clear hL hpl hfl
      have hn1 : ((fl : Int) != 0) = true := by simp; omega
      go_enter Try.func6, Try.ntmps6
      go_wp2_with (first
        | (go_at_call 11; (with_reducible refine HTok.out.mono ?_); rintro e w1 ⟨⟨v1, rfl, ho1⟩, b1⟩; have z1 := Below.size b1; obtain ⟨Al, cl, rfl, hcl, ht1, hob1⟩ := own_trd ho1)
        | (go_at_call 15; (with_reducible refine (HK.out _ (by (repeat (first | (with_reducible exact Below.refl _ _) | (with_reducible assumption) | (with_reducible refine Below.setCell ?_ (by first | omega | (simp <;> omega)) _) | (with_reducible refine Below.alloc ?_ (by first | omega | (simp <;> omega)) _) | (with_reducible refine Below.drew ?_) | (with_reducible refine below_drewN ?_ _) | (with_reducible refine Below.trans ?_ (Below.mono (by with_reducible assumption) (by first | omega | (simp <;> omega)))))))).mono ?_); rintro e wk ⟨rfl, bk⟩; have zk := Below.size bk))
      all_goals (refine bodyPost_ret (v := .bool true) (by simp [results, Try.results6, go_sem]) rfl ⟨rfl, (by (repeat (first | (with_reducible exact Below.refl _ _) | (with_reducible assumption) | (with_reducible refine Below.setCell ?_ (by first | omega | (simp <;> omega)) _) | (with_reducible refine Below.alloc ?_ (by first | omega | (simp <;> omega)) _) | (with_reducible refine Below.drew ?_) | (with_reducible refine below_drewN ?_ _) | (with_reducible refine Below.trans ?_ (Below.mono (by with_reducible assumption) (by first | omega | (simp <;> omega)))))))⟩)
  · have h15' : ((s.size : Int) > 1480) = True := by simp; omega
    go_enter Try.func6, Try.ntmps6
    go_wp2
    exact bodyPost_ret (v := .bool true) (by simp [results, Try.results6, go_sem]) rfl ⟨rfl, Below.refl _ _⟩
end Go.Proofs.Ytdlppdoankeilaa
