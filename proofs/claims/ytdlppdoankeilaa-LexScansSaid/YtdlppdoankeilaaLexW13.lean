/- The walks of chapter 2's reference: next at any byte; tokens, Tokens. -/
import Derived.Test.YtdlppdoankeilaaLexW12
namespace Go.Proofs.Ytdlppdoankeilaa
set_option linter.unusedVariables false
set_option linter.unusedSimpArgs false
set_option linter.unnecessarySimpa false
open Go.RowKit
attribute [local go_sem] cell_alloc_add cell_set_add lt_more
theorem next_any (s : ByteArray) (A : Option Addr) (c : Nat) (hs : s.size ≤ 4000000) (hcap : s.size ≤ c) (w : World) (h : Rd w w.heap.size A s.size (byteC s)) (i : Nat) (hi : i < s.size) (holes : List Bool) (A2 : Option Addr) (n2 c2 : Nat) (hn2 : n2 = holes.length) (hc2 : n2 ≤ c2) (h2 : HR w w.heap.size A2 n2 holes) (hnn : n2 ≤ 4000000) :
    Calls Try.prog 33 #[.slice A s.size c, .int .i64 (i : Int), .slice A2 n2 c2] w fun e w' => NPost s i holes e w' ∧ Below w.heap.size w w' := by
  cases hl : letterB (bt s i) with
  | true => exact next_word s A c hs hcap w h i hi holes A2 n2 c2 hn2 hc2 h2 hl
  | false =>
    cases hd : digitB (bt s i) with
    | true => exact next_num s A c hs hcap w h i hi holes A2 n2 c2 hn2 hc2 h2 hl hd
    | false =>
      by_cases h1 : bt s i = 34 ∨ bt s i = 39
      · exact next_str s A c hs hcap w h i hi holes A2 n2 c2 hn2 hc2 h2 hl hd h1
      · by_cases h9 : bt s i = 96
        · exact next_tick s A c hs hcap w h i hi holes A2 n2 c2 hn2 hc2 h2 hnn h9
        · by_cases h3 : bt s i = 125 ∧ holes.getLast? = some true
          · obtain ⟨h3, h4⟩ := h3
            obtain ⟨m, rfl⟩ : ∃ m, n2 = m + 1 := by
              cases holes with
              | nil => simp at h4
              | cons x l => exact ⟨l.length, by rw [hn2]; rfl⟩
            exact next_hole s A c hs hcap w h i hi holes A2 m c2 hn2 hc2 h2 hnn h3 h4
          · exact next_sign s A c hs hcap w h i hi holes A2 n2 c2 hn2 hc2 h2 hnn hl hd h1 h9 h3
/-- The cells of a token, of tokens. -/
def tokC (t : Tok) : List Value := [.int .i64 t.kind, .string t.text, .int .i64 (t.lo : Int), .int .i64 (t.hi : Int)]
def toksC (l : List Tok) : List Value := l.flatMap tokC
theorem toksC_snoc (l : List Tok) (t : Tok) : toksC (l ++ [t]) = toksC l ++ tokC t := by simp [toksC]
theorem infoTok : (Try.prog.info? 33).map (fun i => (i.zero, i.size, i.bytes)) = some (some (.agg #[.int .i64 0, .string ⟨#[]⟩, .int .i64 0, .int .i64 0]), 4, 40) := by kernel_rfl
theorem tokC_lies (t : Tok) {w : World} {g : Nat} {ty : TypeId} (h : Row w g ty (tokA t)) : ∀ j u, (tokC t)[j]? = some u → w.cell? ((⟨g, 0, none⟩ : Addr).add j) = some u := fun j u hj => by
  rw [add_row, h.cell, Nat.zero_add, ← hj]
  simp [tokC, tokA]
theorem tokC_one (t : Tok) : ∀ u ∈ tokC t, u.oneCell' = true := by intro u hu; simp [tokC] at hu; rcases hu with rfl | rfl | rfl | rfl <;> rfl
/-- A slice that owns a row is a slice. -/
theorem own_shape {w : World} {base size n : Nat} {e : TypeId} {v : Value} {xs : List Value} (h : w.ownsRow base e size v n xs) : ∃ A c, v = .slice A n c ∧ n ≤ c := by
  rcases h.2 with ⟨rfl, rfl⟩ | ⟨g, cap, cur, rfl, _, _, hc, _⟩
  · exact ⟨_, _, rfl, Nat.le_refl _⟩
  · exact ⟨_, _, rfl, hc⟩
/-- The open brackets stand, whatever a row of another type does. -/
theorem HR.grown {w w' : World} {B n base m size : Nat} {e : TypeId} {A : Option Addr} {hs : List Bool} {v : Value} {xs : List Value} (h : HR w B A n hs) (hB : B ≤ w.heap.size) (hown : w.ownsRow base e size v m xs) (he : e ≠ 4) (hg : w.grownBy w' v.ownBlock) : HR w' w'.heap.size A n hs := by
  have key : ∀ j, j < n → ∃ ad, A = some ad ∧ ad.block < w.heap.size ∧ w'.heap[ad.block]? = w.heap[ad.block]? := fun j hj => by
    obtain ⟨ad, e1, hl, _⟩ := h.1 j hj
    obtain ⟨cs, fr, hc⟩ := h.2 (by omega) ad e1
    refine ⟨ad, e1, by omega, hg.block _ (by omega) fun e2 => ?_⟩
    rcases hown.2 with ⟨rfl, _⟩ | ⟨g, cap, cur, rfl, _, hh, _⟩
    · simp [Value.ownBlock] at e2
    · simp [Value.ownBlock] at e2
      first | rw [e2, hc] at hh | rw [← e2, hc] at hh
      injection hh with hh
      injection hh with _ hh
      exact he hh.symm
  refine ⟨fun j hj => ?_, fun hn ad e1 => ?_⟩
  · obtain ⟨ad, e1, hl, hbk⟩ := key j hj
    obtain ⟨ad2, e2, _, hc⟩ := h.1 j hj
    obtain rfl : ad = ad2 := by rw [e1] at e2; injection e2
    have hsz := hg.size
    refine ⟨ad, e1, by omega, ?_⟩
    rw [← hc]
    unfold World.cell?
    rw [block_add, hbk]
  · obtain ⟨ad2, e2, hl, hbk⟩ := key 0 hn
    obtain rfl : ad = ad2 := by rw [e1] at e2; injection e2
    obtain ⟨cs, fr, hc⟩ := h.2 hn ad e1
    exact ⟨cs, fr, hbk.trans hc⟩
/-- What the limit leaves of the tokens: the tokens, the byte of the error, the error (0: none, 3: no token, 4: too many). -/
def capT (most : Nat) (p : List Tok × Option Nat) : List Tok × Nat × Nat :=
  match p.1[most]? with
  | some t => if t.kind = 10 then (p.1, 0, 0) else (p.1.take most, t.lo, 4)
  | none => match p.2 with
    | some j => (p.1, j, 3)
    | none => (p.1, 0, 0)
theorem capT_bad {most : Nat} {p : List Tok × Option Nat} {pre : List Tok} {j : Nat} (h1 : p.1 = pre ++ []) (h2 : p.2 = some j) (hl : pre.length ≤ most) : capT most p = (pre, j, 3) := by
  unfold capT
  rw [h1, List.append_nil, List.getElem?_eq_none hl, h2]
theorem capT_end {most : Nat} {p : List Tok × Option Nat} {pre : List Tok} {t : Tok} (h1 : p.1 = pre ++ [t]) (h2 : p.2 = none) (hl : pre.length ≤ most) (ht : t.kind = 10) : capT most p = (pre ++ [t], 0, 0) := by
  unfold capT
  rw [h1, h2]
  by_cases h : pre.length = most
  · rw [List.getElem?_append_right (by omega), show most - pre.length = 0 by omega]; simp [ht]
  · rw [List.getElem?_eq_none (by simp; omega)]
theorem capT_over {most : Nat} {p : List Tok × Option Nat} {pre rest : List Tok} {t : Tok} (h1 : p.1 = pre ++ t :: rest) (hl : pre.length = most) (ht : t.kind ≠ 10) : capT most p = (pre, t.lo, 4) := by
  unfold capT
  rw [h1, List.getElem?_append_right (by omega), show most - pre.length = 0 by omega]
  simp [ht, ← hl]
theorem tokAt_kind {s : ByteArray} {i : Nat} {holes hs : List Bool} {t : Tok} (h : tokAt s i holes = some (t, hs)) : t.kind ≠ 10 ∧ hs.length ≤ holes.length + 1 := by
  unfold tokAt at h
  repeat' split at h
  all_goals first
    | (injection h with h; injection h with h1 h2; subst h1; subst h2; refine ⟨?_, ?_⟩ <;> (try dsimp only) <;> (repeat' split) <;> first | decide | (simp; done) | (simp; omega) | omega)
    | (rw [Option.map_eq_some_iff] at h; obtain ⟨p, _, h⟩ := h; injection h with h1 h2; subst h1; subst h2; refine ⟨?_, ?_⟩ <;> (try dsimp only) <;> (repeat' split) <;> first | decide | (simp; done) | (simp; omega) | omega)
    | (cases h)
/-- What tokens answers. -/
def TPost (w : World) (p : List Tok × Nat × Nat) (e : Ending) (w' : World) : Prop := ∃ v, e = .returned (.tuple #[v, .int .i64 (p.2.1 : Int), .int .i64 (p.2.2 : Int)]) ∧ w'.ownsRow w.heap.size 33 4 v p.1.length (toksC p.1)
theorem TPost.of {w w' : World} {p : List Tok × Nat × Nat} {l : List Tok} {x y : Nat} {v : Value} (h : p = (l, x, y)) (ho : w'.ownsRow w.heap.size 33 4 v l.length (toksC l)) : TPost w p (.returned (.tuple #[v, .int .i64 (x : Int), .int .i64 (y : Int)])) w' := by subst h; exact ⟨v, rfl, ho⟩
set_option maxRecDepth 100000 in
set_option maxHeartbeats 8000000 in
theorem rtokens_any (s : ByteArray) (A : Option Addr) (c : Nat) (hs : s.size ≤ 65536) (hcap : s.size ≤ c) (w : World) {B : Nat} (hB : B ≤ w.heap.size) (h : Rd w B A s.size (byteC s)) (most : Nat) (hmost : most ≤ 65536) :
    Calls Try.prog 24 #[.slice A s.size c, .int .i64 (most : Int)] w fun e w' => TPost w (capT most (toks s 0 [])) e w' ∧ Below w.heap.size w w' := by
  obtain ⟨i0, hi0, iz0, iz1, iz2⟩ := info_parts infoTok
  go_enter Try.func24, Try.ntmps24
  go_wp2
  go_loopw [7, 8, 9] (fun vl vh va wr => ∃ (pre : List Tok) (i : Nat) (holes : List Bool) (A2 : Option Addr) (n2 c2 : Nat), va = .int .i64 i ∧ i ≤ s.size ∧ vh = .slice A2 n2 c2 ∧ n2 = holes.length ∧ n2 ≤ c2 ∧ HR wr wr.heap.size A2 n2 holes ∧ n2 ≤ i ∧
    (toks s 0 []).1 = pre ++ (toks s i holes).1 ∧ (toks s 0 []).2 = (toks s i holes).2 ∧ pre.length ≤ most ∧ pre.length ≤ i ∧ wr.ownsRow w.heap.size 33 4 vl pre.length (toksC pre) ∧ Below w.heap.size w wr) (fun _ _ a _ => s.size - (intOf a).toNat)
  case atStart => exact ⟨[], 0, [], none, 0, 0, rfl, by omega, rfl, rfl, Nat.le_refl _, HR.none_, Nat.le_refl _, rfl, rfl, by simp, by simp, World.ownsRow_nil _ _ _ _, Below.refl _ _⟩
  case round =>
    obtain ⟨pre, i, holes, A2, n2, c2, rfl, hi, rfl, hn2, hc2, h2, hni, ht1, ht2, hpm, hpi, hown, hb⟩ := hrel
    have hz := hb.size
    have hr0 := (h.below (hb.mono hB))
    obtain ⟨Al, cl, rfl, hcl⟩ := own_shape hown
    have HA := Lib.hid (ahead_any s A c (by omega) hcap wr hr0 i hi)
    have hbd := skip_bd s _ i (Nat.le_refl _) hi
    have HO := Lib.hid hown
    have HH := Lib.hid h2
    have HP1 := Lib.hid ht1
    have HP2 := Lib.hid ht2
    have HN := Lib.hid hn2
    clear hown h2 ht1 ht2 hn2
    cases hsk : skip s i with
    | mk j ok =>
      rw [hsk] at HA hbd
      simp only at hbd
      cases ok
      · have HC := Lib.hid (capT_bad (most := most) (j := j) (pre := pre) (by rw [HP1.out, toks_rem hsk]) (by rw [HP2.out, toks_rem hsk]) hpm)
        clear hsk
        go_wp2_with (go_at_call 32; (with_reducible refine (HA.out).mono ?_); rintro e wq ⟨rfl, hwq⟩; obtain rfl := hwq.symm)
        exact bodyPost_ret (v := .tuple #[.slice Al pre.length cl, .int .i64 (j : Int), .int .i64 3]) (by simp [results, Try.results24, go_sem, *]) rfl ⟨TPost.of HC.out HO.out, hb⟩
      · by_cases hj : j < s.size
        · have HX := Lib.hid (next_any s A c (by omega) hcap wr (hr0.more (by omega)) j hj holes A2 n2 c2 HN.out hc2 HH.out (by omega))
          have hlt1 : ((j : Int) ≥ (s.size : Int)) = False := by simp; omega
          cases ht : tokAt s j holes with
          | none =>
            have HC := Lib.hid (capT_bad (most := most) (j := j) (pre := pre) (by rw [HP1.out, toks_bad hsk hj ht]) (by rw [HP2.out, toks_bad hsk hj ht]) hpm)
            have HT := Lib.hid ht
            clear hsk ht
            go_wp2_with (first | (go_at_call 32; (with_reducible refine (HA.out).mono ?_); rintro e wq ⟨rfl, hwq⟩; obtain rfl := hwq.symm) | (go_at_call 33; (with_reducible refine (HX.out).mono ?_); rintro e w1 ⟨⟨t, A3, n3, c3, ok3, rfl, hnc3, hm3⟩, b1⟩; have hz1 := Below.size b1; rw [HT.out] at hm3; unfold tokA; obtain rfl := hm3))
            exact bodyPost_ret (v := .tuple #[.slice Al pre.length cl, .int .i64 (j : Int), .int .i64 3]) (by simp [results, Try.results24, go_sem, *]) rfl ⟨TPost.of HC.out (own_below HO.out (by (repeat (first | (with_reducible exact Below.refl _ _) | (with_reducible assumption) | (with_reducible refine Below.setCell ?_ (by first | omega | (simp <;> omega)) _) | (with_reducible refine Below.alloc ?_ (by first | omega | (simp <;> omega)) _) | (with_reducible refine Below.drew ?_) | (with_reducible refine below_drewN ?_ _) | (with_reducible refine Below.trans ?_ (Below.mono (by with_reducible assumption) (by first | omega | (simp <;> omega)))))))), by (repeat (first | (with_reducible exact Below.refl _ _) | (with_reducible assumption) | (with_reducible refine Below.setCell ?_ (by first | omega | (simp <;> omega)) _) | (with_reducible refine Below.alloc ?_ (by first | omega | (simp <;> omega)) _) | (with_reducible refine Below.drew ?_) | (with_reducible refine below_drewN ?_ _) | (with_reducible refine Below.trans ?_ (Below.mono (by with_reducible assumption) (by first | omega | (simp <;> omega))))))⟩
          | some p =>
            obtain ⟨⟨tk, tx, tl, th⟩, hs2⟩ := p
            have hkd := tokAt_kind ht
            obtain ⟨htl, htb1, htb2⟩ := tokAt_bd hj ht
            simp only at htl htb1 htb2 hkd
            obtain rfl := htl
            have HS := Lib.hid (toks_step hi hsk hj ht)
            have HT := Lib.hid ht
            clear hsk ht
            by_cases hpe : pre.length = most
            · have HC := Lib.hid (capT_over (most := most) (p := toks s 0 []) (pre := pre) (t := ⟨tk, tx, tl, th⟩) (by rw [HP1.out, HS.out]) hpe hkd.1)
              have hpe2 : ((pre.length : Int) == (most : Int)) = true := by simp; omega
              go_wp2_with (first | (go_at_call 32; (with_reducible refine (HA.out).mono ?_); rintro e wq ⟨rfl, hwq⟩; obtain rfl := hwq.symm) | (go_at_call 33; (with_reducible refine (HX.out).mono ?_); rintro e w1 ⟨⟨t, A3, n3, c3, ok3, rfl, hnc3, hm3⟩, b1⟩; have hz1 := Below.size b1; rw [HT.out] at hm3; unfold tokA; obtain ⟨rfl, rfl, rfl, h3⟩ := hm3))
              exact bodyPost_ret (v := .tuple #[.slice Al pre.length cl, .int .i64 (tl : Int), .int .i64 4]) (by simp [results, Try.results24, go_sem, *]) rfl ⟨TPost.of HC.out (own_below HO.out (by (repeat (first | (with_reducible exact Below.refl _ _) | (with_reducible assumption) | (with_reducible refine Below.setCell ?_ (by first | omega | (simp <;> omega)) _) | (with_reducible refine Below.alloc ?_ (by first | omega | (simp <;> omega)) _) | (with_reducible refine Below.drew ?_) | (with_reducible refine below_drewN ?_ _) | (with_reducible refine Below.trans ?_ (Below.mono (by with_reducible assumption) (by first | omega | (simp <;> omega)))))))), by (repeat (first | (with_reducible exact Below.refl _ _) | (with_reducible assumption) | (with_reducible refine Below.setCell ?_ (by first | omega | (simp <;> omega)) _) | (with_reducible refine Below.alloc ?_ (by first | omega | (simp <;> omega)) _) | (with_reducible refine Below.drew ?_) | (with_reducible refine below_drewN ?_ _) | (with_reducible refine Below.trans ?_ (Below.mono (by with_reducible assumption) (by first | omega | (simp <;> omega))))))⟩
            · have hpe2 : ((pre.length : Int) == (most : Int)) = false := by simp; omega
              go_wp2_with (first | (go_at_call 32; (with_reducible refine (HA.out).mono ?_); rintro e wq ⟨rfl, hwq⟩; obtain rfl := hwq.symm) | (go_at_call 33; (with_reducible refine (HX.out).mono ?_); rintro e w1 ⟨⟨t, A3, n3, c3, ok3, rfl, hnc3, hm3⟩, b1⟩; have hz1 := Below.size b1; rw [HT.out] at hm3; unfold tokA; obtain ⟨rfl, rfl, rfl, h3⟩ := hm3) | (have hown1 := own_below HO.out b1; (at_builtin; refine wpList_append_own _ rfl _ _ 24 rfl w.heap.size 33 i0 _ 4 40 Try.underlying24 hi0 iz0 iz1 iz2 rfl (by decide) _ _ _ rfl ((hown1.alloc _).alloc _) ⟨w1.heap.size + 1, 0, none⟩ 1 1 (tokC ⟨tk, tx, tl, th⟩) rfl rfl (tokC_lies ⟨tk, tx, tl, th⟩ (row_new (by simp))) (tokC_one ⟨tk, tx, tl, th⟩) (by unfold maxLen; omega) (by omega) (by simp; omega) ?_; intro v2 w2 hown2 hg2 _); have hrz := row_grown (g := w1.heap.size) (Row.alloc (Row.new w1 _ _) _) hg2 (fun e => absurd (own_lt HO.out _ e) (by omega)); have y3 := hrz.cell 3; simp at y3; have fy3 := hrz.free 3; have HG := Lib.hid (HR.grown (h3.later (((Below.refl _ w1).alloc (Nat.le_refl _) _).alloc (by simp) _) (by simp; omega)) (Nat.le_refl _) ((hown1.alloc _).alloc _) (by decide) hg2)))
              go_roundw
              case rel => exact ⟨pre ++ [⟨tk, tx, tl, th⟩], th, hs2, _, _, _, rfl, htb2, rfl, rfl, hnc3, HG.out, by have := HN.out; omega, by rw [HP1.out, HS.out]; simp, by rw [HP2.out, HS.out], by simp; omega, by simp; omega, by rw [toksC_snoc, List.length_append]; exact hown2, (Below.grown (by (repeat (first | (with_reducible exact Below.refl _ _) | (with_reducible assumption) | (with_reducible refine Below.setCell ?_ (by first | omega | (simp <;> omega)) _) | (with_reducible refine Below.alloc ?_ (by first | omega | (simp <;> omega)) _) | (with_reducible refine Below.drew ?_) | (with_reducible refine below_drewN ?_ _) | (with_reducible refine Below.trans ?_ (Below.mono (by with_reducible assumption) (by first | omega | (simp <;> omega))))))) hg2 (by simp; omega) (own_ge HO.out))⟩
              case measure => simp [intOf]; omega
        · have HC := Lib.hid (capT_end (most := most) (t := ⟨10, ⟨#[]⟩, s.size, s.size⟩) (pre := pre) (by rw [HP1.out, toks_end hsk hj]) (by rw [HP2.out, toks_end hsk hj]) hpm rfl)
          clear hsk
          go_wp2_with (first | (go_at_call 32; (with_reducible refine (HA.out).mono ?_); rintro e wq ⟨rfl, hwq⟩; obtain rfl := hwq.symm) | (at_builtin; refine wpList_append_own _ rfl _ _ 24 rfl w.heap.size 33 i0 _ 4 40 Try.underlying24 hi0 iz0 iz1 iz2 rfl (by decide) _ _ _ rfl (HO.out.alloc _) ⟨wr.heap.size, 0, none⟩ 1 1 (tokC ⟨10, ⟨#[]⟩, s.size, s.size⟩) rfl rfl (tokC_lies ⟨10, ⟨#[]⟩, s.size, s.size⟩ (row_new (by simp))) (tokC_one ⟨10, ⟨#[]⟩, s.size, s.size⟩) (by unfold maxLen; omega) (by omega) (by simp; omega) ?_; intro v2 w2 hown2 hg2 _))
          exact bodyPost_ret (v := .tuple #[v2, .int .i64 0, .int .i64 0]) (by simp [results, Try.results24, go_sem, *]) rfl ⟨TPost.of (x := 0) (y := 0) HC.out (by rw [toksC_snoc, List.length_append]; exact hown2), (hb.alloc (by omega) _).grown hg2 (by simp; omega) (own_ge HO.out)⟩
end Go.Proofs.Ytdlppdoankeilaa
