/- The walk of chapter 2's reference 'next': a template's first piece, a piece behind a hole. -/
import Derived.Test.YtdlppdoankeilaaLexW9
import Derived.Test.YtdlppdoankeilaaApp
import Derived.Test.YtdlppdoankeilaaOwn
import Derived.Deep.DeepCutAuto
namespace Go.Proofs.Ytdlppdoankeilaa
set_option linter.unusedVariables false
set_option linter.unusedSimpArgs false
set_option linter.unnecessarySimpa false
open Go.RowKit
attribute [local go_sem] cell_alloc_add cell_set_add lt_more
theorem infoBool : (Try.prog.info? 4).map (fun i => (i.zero, i.size, i.bytes)) = some (some (.bool false), 1, 1) := by kernel_rfl
theorem holeC_one (hs : List Bool) (j : Nat) : (holeC hs j).oneCell' = true := rfl
theorem HR.of_own {w : World} {base n c : Nat} {A : Option Addr} {xs : List Value} {hs : List Bool} (h : w.ownsRow base 4 1 (.slice A n c) n xs) (hf : ∀ j, j < n → xs[j]? = some (holeC hs j)) : HR w w.heap.size A n hs :=
  ⟨Rd.of_own h hf, fun hn ad e => by
    rcases h.2 with ⟨e1, h0⟩ | ⟨g, cap, cur, e1, _, hc, _⟩
    · omega
    · injection e1 with e1 _ _
      rw [e1] at e
      injection e with e
      subst e
      exact ⟨_, _, hc⟩⟩
theorem holes_snoc (hs : List Bool) (x : Bool) (j : Nat) (hj : j < hs.length + 1) : (firsts (holeC hs) hs.length ++ firsts (fun _ => Value.bool x) 1)[j]? = some (holeC (hs ++ [x]) j) := by
  have h1 : firsts (fun _ => Value.bool x) 1 = [Value.bool x] := rfl
  rw [h1]
  by_cases h : j < hs.length
  · rw [List.getElem?_append_left (by rw [firsts_len]; exact h), firsts_at h]
    unfold holeC
    rw [List.getD_eq_getElem?_getD, List.getD_eq_getElem?_getD, List.getElem?_append_left h]
  · obtain rfl : j = hs.length := by omega
    rw [List.getElem?_append_right (by rw [firsts_len]; omega), firsts_len, Nat.sub_self]
    unfold holeC
    simp
theorem tok_tick {s : ByteArray} {i : Nat} {holes : List Bool} (hc : bt s i = 96) : tokAt s i holes = (pieceOf s i).map fun p => (⟨if p.2.2 = true then 6 else 5, p.1, i, p.2.1⟩, if p.2.2 = true then holes ++ [true] else holes) := by
  unfold tokAt; rw [if_neg (by rw [hc]; decide), if_neg (by rw [hc]; decide), if_neg (by omega), if_pos hc]
theorem tok_hole {s : ByteArray} {i : Nat} {holes : List Bool} (hc : bt s i = 125) (hh : holes.getLast? = some true) : tokAt s i holes = (pieceOf s i).map fun p => (⟨if p.2.2 = true then 7 else 8, p.1, i, p.2.1⟩, if p.2.2 = true then holes else holes.dropLast) := by
  unfold tokAt; rw [if_neg (by rw [hc]; decide), if_neg (by rw [hc]; decide), if_neg (by omega), if_neg (by omega), if_pos ⟨hc, hh⟩]
set_option maxRecDepth 100000 in
set_option maxHeartbeats 4000000 in
theorem next_tick (s : ByteArray) (A : Option Addr) (c : Nat) (hs : s.size ≤ 4000000) (hcap : s.size ≤ c) (w : World) (h : Rd w w.heap.size A s.size (byteC s)) (i : Nat) (hi : i < s.size) (holes : List Bool) (A2 : Option Addr) (n2 c2 : Nat) (hn2 : n2 = holes.length) (hc2 : n2 ≤ c2) (h2 : HR w w.heap.size A2 n2 holes) (hnn : n2 ≤ 4000000) (hq : bt s i = 96) : Calls Try.prog 33 #[.slice A s.size c, .int .i64 (i : Int), .slice A2 n2 c2] w fun e w' => NPost s i holes e w' ∧ Below w.heap.size w w' := by
  have HN := Lib.hid h; obtain ⟨ad, rfl, hadB, ci⟩ := h i hi; unfold byteC at ci; have H2 := Lib.hid h2; have HH := Lib.hid hn2; have hlen : n2 ≤ 4000000 := hnn; clear h h2 hn2; rw [hq] at ci
  have let_no := Lib.hid (fun w => rLetter_any 96 w); have dig_no := Lib.hid (fun w => rDigit_any 96 w); rw [show letterB 96 = false by decide] at let_no; rw [show digitB 96 = false by decide] at dig_no; simp only [Int.cast_ofNat_Int] at let_no dig_no
  have ht := tok_tick (holes := holes) hq
  cases hk : pieceOf s i with
  | none =>
    rw [hk, Option.map_none] at ht
    have HT := Lib.hid ht
    have HC := Lib.hid (fun (W : World) (hB : w.heap.size ≤ W.heap.size) (hr : Rd W w.heap.size (some ad) s.size (byteC s)) => rpiece_no s (some ad) c hs hcap W hB hr i hi hk)
    clear ht hk hq
    go_enter Try.func33, Try.ntmps33
    go_wp2_with (first | (go_at_call 42; (with_reducible refine (let_no.out _).mono ?_); rintro e w1 ⟨rfl, rfl⟩) | (go_at_call 43; (with_reducible refine (dig_no.out _).mono ?_); rintro e w1 ⟨rfl, rfl⟩) | (go_at_call 47; (with_reducible refine (HC.out _ (by simp) (HN.out.below (by (repeat (first | (with_reducible exact Below.refl _ _) | (with_reducible assumption) | (with_reducible refine Below.setCell ?_ (by first | omega | (simp <;> omega)) _) | (with_reducible refine Below.alloc ?_ (by first | omega | (simp <;> omega)) _) | (with_reducible refine Below.drew ?_) | (with_reducible refine below_drewN ?_ _) | (with_reducible refine Below.trans ?_ (Below.mono (by with_reducible assumption) (by first | omega | (simp <;> omega))))))))).mono ?_); rintro e wb1 ⟨⟨t, rfl⟩, b1⟩; have rz : Row (w.alloc (.cells #[.int .i64 0, .string ⟨#[]⟩, .int .i64 0, .int .i64 0] 33)) w.heap.size 33 #[.int .i64 0, .string ⟨#[]⟩, .int .i64 0, .int .i64 0] := row_new rfl; have zb1 : w.heap.size + 1 ≤ wb1.heap.size := (by have hzz := Below.size b1; first | omega | (simp at hzz; omega)); replace b1 := Below.mono (B' := w.heap.size + 1) b1 (by first | omega | (simp <;> omega)); obtain ⟨hcb1, hfb1⟩ := bcell b1; have rzb := rz.below b1 (by omega); have y0 := rzb.cell 0; have y1 := rzb.cell 1; have y2 := rzb.cell 2; have y3 := rzb.cell 3; have fy0 := rzb.free 0; have fy1 := rzb.free 1; have fy2 := rzb.free 2; have fy3 := rzb.free 3; have lt1 : w.heap.size < wb1.heap.size := (by omega)))
    exact bodyPost_ret (v := .tuple #[.agg (tokA ⟨5, t.text, t.lo, t.hi⟩), .slice A2 n2 c2, .bool false]) (by simp [results, Try.results33, go_sem, tokA, *]) rfl ⟨NPost.no HT.out hc2, (by (repeat (first | (with_reducible exact Below.refl _ _) | (with_reducible assumption) | (with_reducible refine Below.setCell ?_ (by first | omega | (simp <;> omega)) _) | (with_reducible refine Below.alloc ?_ (by first | omega | (simp <;> omega)) _) | (with_reducible refine Below.drew ?_) | (with_reducible refine below_drewN ?_ _) | (with_reducible refine Below.trans ?_ (Below.mono (by with_reducible assumption) (by first | omega | (simp <;> omega)))))))⟩
  | some p =>
    obtain ⟨tx, E, m⟩ := p
    rw [hk, Option.map_some] at ht
    have HC := Lib.hid (fun (W : World) (hB : w.heap.size ≤ W.heap.size) (hr : Rd W w.heap.size (some ad) s.size (byteC s)) => rpiece_yes s (some ad) c hs hcap W hB hr i hi hk)
    clear hk hq
    cases m
    · have HT : Hid (tokAt s i holes = some (⟨5, tx, i, E⟩, holes)) := Lib.hid ht
      clear ht
      go_enter Try.func33, Try.ntmps33
      go_wp2_with (first | (go_at_call 42; (with_reducible refine (let_no.out _).mono ?_); rintro e w1 ⟨rfl, rfl⟩) | (go_at_call 43; (with_reducible refine (dig_no.out _).mono ?_); rintro e w1 ⟨rfl, rfl⟩) | (go_at_call 47; (with_reducible refine (HC.out _ (by simp) (HN.out.below (by (repeat (first | (with_reducible exact Below.refl _ _) | (with_reducible assumption) | (with_reducible refine Below.setCell ?_ (by first | omega | (simp <;> omega)) _) | (with_reducible refine Below.alloc ?_ (by first | omega | (simp <;> omega)) _) | (with_reducible refine Below.drew ?_) | (with_reducible refine below_drewN ?_ _) | (with_reducible refine Below.trans ?_ (Below.mono (by with_reducible assumption) (by first | omega | (simp <;> omega))))))))).mono ?_); rintro e wb1 ⟨rfl, b1⟩; have rz : Row (w.alloc (.cells #[.int .i64 0, .string ⟨#[]⟩, .int .i64 0, .int .i64 0] 33)) w.heap.size 33 #[.int .i64 0, .string ⟨#[]⟩, .int .i64 0, .int .i64 0] := row_new rfl; have zb1 : w.heap.size + 1 ≤ wb1.heap.size := (by have hzz := Below.size b1; first | omega | (simp at hzz; omega)); replace b1 := Below.mono (B' := w.heap.size + 1) b1 (by first | omega | (simp <;> omega)); obtain ⟨hcb1, hfb1⟩ := bcell b1; have rzb := rz.below b1 (by omega); have y0 := rzb.cell 0; have y1 := rzb.cell 1; have y2 := rzb.cell 2; have y3 := rzb.cell 3; have fy0 := rzb.free 0; have fy1 := rzb.free 1; have fy2 := rzb.free 2; have fy3 := rzb.free 3; have lt1 : w.heap.size < wb1.heap.size := (by omega)))
      exact bodyPost_ret (v := .tuple #[.agg (tokA ⟨5, tx, i, E⟩), .slice A2 n2 c2, .bool true]) (by simp [results, Try.results33, go_sem, tokA, *]) rfl ⟨NPost.yes HT.out HH.out hc2 (H2.out.later (by (repeat (first | (with_reducible exact Below.refl _ _) | (with_reducible assumption) | (with_reducible refine Below.setCell ?_ (by first | omega | (simp <;> omega)) _) | (with_reducible refine Below.alloc ?_ (by first | omega | (simp <;> omega)) _) | (with_reducible refine Below.drew ?_) | (with_reducible refine below_drewN ?_ _) | (with_reducible refine Below.trans ?_ (Below.mono (by with_reducible assumption) (by first | omega | (simp <;> omega))))))) (by first | omega | (simp; omega))), (by (repeat (first | (with_reducible exact Below.refl _ _) | (with_reducible assumption) | (with_reducible refine Below.setCell ?_ (by first | omega | (simp <;> omega)) _) | (with_reducible refine Below.alloc ?_ (by first | omega | (simp <;> omega)) _) | (with_reducible refine Below.drew ?_) | (with_reducible refine below_drewN ?_ _) | (with_reducible refine Below.trans ?_ (Below.mono (by with_reducible assumption) (by first | omega | (simp <;> omega)))))))⟩
    · have HT : Hid (tokAt s i holes = some (⟨6, tx, i, E⟩, holes ++ [true])) := Lib.hid ht
      clear ht
      obtain ⟨i0, hif, hz0, hz1, hz2⟩ := info_parts infoBool
      go_enter Try.func33, Try.ntmps33
      go_upto_region 21 with (first | (go_at_call 42; (with_reducible refine (let_no.out _).mono ?_); rintro e w1 ⟨rfl, rfl⟩) | (go_at_call 43; (with_reducible refine (dig_no.out _).mono ?_); rintro e w1 ⟨rfl, rfl⟩) | (go_at_call 47; (with_reducible refine (HC.out _ (by simp) (HN.out.below (by (repeat (first | (with_reducible exact Below.refl _ _) | (with_reducible assumption) | (with_reducible refine Below.setCell ?_ (by first | omega | (simp <;> omega)) _) | (with_reducible refine Below.alloc ?_ (by first | omega | (simp <;> omega)) _) | (with_reducible refine Below.drew ?_) | (with_reducible refine below_drewN ?_ _) | (with_reducible refine Below.trans ?_ (Below.mono (by with_reducible assumption) (by first | omega | (simp <;> omega))))))))).mono ?_); rintro e wb1 ⟨rfl, b1⟩; have rz : Row (w.alloc (.cells #[.int .i64 0, .string ⟨#[]⟩, .int .i64 0, .int .i64 0] 33)) w.heap.size 33 #[.int .i64 0, .string ⟨#[]⟩, .int .i64 0, .int .i64 0] := row_new rfl; have zb1 : w.heap.size + 1 ≤ wb1.heap.size := (by have hzz := Below.size b1; first | omega | (simp at hzz; omega)); replace b1 := Below.mono (B' := w.heap.size + 1) b1 (by first | omega | (simp <;> omega)); obtain ⟨hcb1, hfb1⟩ := bcell b1; have rzb := rz.below b1 (by omega); have y0 := rzb.cell 0; have y1 := rzb.cell 1; have y2 := rzb.cell 2; have y3 := rzb.cell 3; have fy0 := rzb.free 0; have fy1 := rzb.free 1; have fy2 := rzb.free 2; have fy3 := rzb.free 3; have lt1 : w.heap.size < wb1.heap.size := (by omega)))
      obtain ⟨wl, hwl⟩ : ∃ wl : World, wl = wb1.alloc (.cells #[.int .i64 6, .string tx, .int .i64 (i : Int), .int .i64 (E : Int)] 33) := ⟨_, rfl⟩
      rw [← hwl]
      have rzl : Row wl w.heap.size 33 #[.int .i64 0, .string ⟨#[]⟩, .int .i64 0, .int .i64 0] := by rw [hwl]; exact rzb.alloc _
      have rtl : Row wl wb1.heap.size 33 #[.int .i64 6, .string tx, .int .i64 (i : Int), .int .i64 (E : Int)] := by rw [hwl]; exact row_new rfl
      have hbl : Below w.heap.size w wl := by rw [hwl]; (repeat (first | (with_reducible exact Below.refl _ _) | (with_reducible assumption) | (with_reducible refine Below.setCell ?_ (by first | omega | (simp <;> omega)) _) | (with_reducible refine Below.alloc ?_ (by first | omega | (simp <;> omega)) _) | (with_reducible refine Below.drew ?_) | (with_reducible refine below_drewN ?_ _) | (with_reducible refine Below.trans ?_ (Below.mono (by with_reducible assumption) (by first | omega | (simp <;> omega))))))
      have hrl := H2.out.1.below hbl
      have lz := rzl.lt
      have ltk := rtl.lt
      generalize wb1.heap.size = gt at *
      clear hwl y0 y1 y2 y3 fy0 fy1 fy2 fy3 hcb1 hfb1 rzb b1 zb1 lt1
      go_wp2_with (first
        | (at_builtin; refine wpList_append_rd _ rfl (.tmp 108) (.tmp 109) _ rfl wl.heap.size 4 i0 _ 1 Try.underlying54 hif hz0 hz1 hz2 rfl _ 0 [] rfl (own_new (n := 0) rfl (Nat.le_refl _) (by decide)) _ A2 n2 c2 (holeC holes) rfl (hrl.alloc (by omega) _) (holeC_one holes) (by simp only [maxLen]; omega) (by omega) (by simp) ?_; intro v1 w1 hown1 hg1 hat1; have hb1 : Below wl.heap.size wl w1 := ((Below.refl _ wl).alloc (Nat.le_refl _) _).grown hg1 (by simp) (ob_ge (Nat.le_refl _)); have hz1' := hb1.size; have hv1 : ∀ k, v1.ownBlock = some k → wl.heap.size ≤ k := ob_or hat1 (ob_ge (Nat.le_refl _)) (by simp))
        | (at_builtin; refine wpList_append_rd _ rfl (.tmp 110) (.tmp 111) _ rfl wl.heap.size 4 i0 _ 1 Try.underlying54 hif hz0 hz1 hz2 rfl v1 _ _ rfl (hown1.alloc _) _ _ 1 1 _ rfl (rd_one w1 4 (.bool true)) (fun _ => rfl) (by simp only [maxLen]; omega) (by omega) (by first | omega | (simp; done) | (simp; omega)) ?_; intro v2 w2 hown2 hg2 hat2; have hb2 : Below wl.heap.size wl w2 := (hb1.alloc hz1' _).grown hg2 (by simp; omega) hv1; have hz2' := hb2.size; have hv2 : ∀ k, v2.ownBlock = some k → wl.heap.size ≤ k := ob_or hat2 hv1 (by simp; omega); obtain ⟨A3, c3, hv3, hc3, _⟩ := rd_own hown2; subst hv3; have hown3 : w2.ownsRow wl.heap.size 4 1 (.slice A3 (n2 + 1) c3) (n2 + 1) (firsts (holeC holes) n2 ++ firsts (fun _ => Value.bool true) 1) := (by simpa using hown2); have rz2 := rzl.below hb2 lz; have rt2 := rtl.below hb2 ltk; have y0 := rz2.cell 0; have y1 := rz2.cell 1; have y2 := rz2.cell 2; have y3 := rz2.cell 3; have fy0 := rz2.free 0; have fy1 := rz2.free 1; have fy2 := rz2.free 2; have fy3 := rz2.free 3; have k0 := rt2.cell 0; have k1 := rt2.cell 1; have k2 := rt2.cell 2; have k3 := rt2.cell 3; have ly := rz2.lt; have lk := rt2.lt))
      exact bodyPost_ret (v := .tuple #[.agg (tokA ⟨6, tx, i, E⟩), .slice A3 (n2 + 1) c3, .bool true]) (by simp [results, Try.results33, go_sem, tokA, *]) rfl ⟨NPost.yes HT.out (by rw [List.length_append, ← HH.out]; rfl) (by omega) (HR.of_own (ownsRow_setCell_other (a := ⟨w.heap.size, 3, none⟩) (ownsRow_setCell_other (a := ⟨w.heap.size, 2, none⟩) (ownsRow_setCell_other (a := ⟨w.heap.size, 1, none⟩) (ownsRow_setCell_other (a := ⟨w.heap.size, 0, none⟩) hown3 (fun e => by have := own_ge hown3 _ e; first | omega | (simp at this; omega)) _) (fun e => by have := own_ge hown3 _ e; first | omega | (simp at this; omega)) _) (fun e => by have := own_ge hown3 _ e; first | omega | (simp at this; omega)) _) (fun e => by have := own_ge hown3 _ e; first | omega | (simp at this; omega)) _) (fun j hj => by rw [HH.out]; exact holes_snoc holes true j (by have := HH.out; omega))), (hbl.trans (hb2.mono (by omega))).setCell (by simp) _ |>.setCell (by simp) _ |>.setCell (by simp) _ |>.setCell (by simp) _⟩
theorem last_at {holes : List Bool} {m : Nat} {x : Bool} (h : holes.getLast? = some x) (hm : m + 1 = holes.length) : holes.getD m false = x := by
  rw [List.getLast?_eq_getElem?, ← hm, Nat.add_sub_cancel] at h
  rw [List.getD_eq_getElem?_getD, h]; rfl
theorem holes_drop (holes : List Bool) (j m : Nat) (hm : m + 1 = holes.length) (hj : j < m) : holeC holes j = holeC holes.dropLast j := by
  unfold holeC
  rw [List.getD_eq_getElem?_getD, List.getD_eq_getElem?_getD, List.getElem?_dropLast, if_pos (by omega)]
set_option maxRecDepth 100000 in
set_option maxHeartbeats 4000000 in
theorem next_hole (s : ByteArray) (A : Option Addr) (c : Nat) (hs : s.size ≤ 4000000) (hcap : s.size ≤ c) (w : World) (h : Rd w w.heap.size A s.size (byteC s)) (i : Nat) (hi : i < s.size) (holes : List Bool) (A2 : Option Addr) (m c2 : Nat) (hn2 : m + 1 = holes.length) (hc2 : m + 1 ≤ c2) (h2 : HR w w.heap.size A2 (m + 1) holes) (hnn : m + 1 ≤ 4000000) (hq : bt s i = 125) (hlast : holes.getLast? = some true) :
    Calls Try.prog 33 #[.slice A s.size c, .int .i64 (i : Int), .slice A2 ((m + 1 : Nat)) c2] w fun e w' => NPost s i holes e w' ∧ Below w.heap.size w w' := by
  have ht := tok_hole (holes := holes) hq hlast
  obtain ⟨ah, rfl, hab, ch⟩ := h2.1 m (by omega)
  have ehm : holeC holes m = .bool true := by unfold holeC; rw [last_at hlast hn2]
  rw [ehm] at ch
  clear ehm
  have HN := Lib.hid h
  obtain ⟨ad, rfl, hadB, ci⟩ := h i hi
  unfold byteC at ci
  have H2 := Lib.hid h2
  have HH := Lib.hid hn2
  clear h h2 hn2 hlast
  rw [hq] at ci
  have let_no := Lib.hid (fun w => rLetter_any 125 w); have dig_no := Lib.hid (fun w => rDigit_any 125 w); rw [show letterB 125 = false by decide] at let_no; rw [show digitB 125 = false by decide] at dig_no; simp only [Int.cast_ofNat_Int] at let_no dig_no
  have HDR := Lib.hid (H2.out.part_congr (m := m) (by omega) (fun j hj => holes_drop holes j m HH.out hj))
  have HLD : Hid (m = holes.dropLast.length) := Lib.hid (by rw [List.length_dropLast, ← HH.out]; omega)
  cases hk : pieceOf s i with
  | none =>
    rw [hk, Option.map_none] at ht
    have HT := Lib.hid ht
    have HC := Lib.hid (fun (W : World) (hB : w.heap.size ≤ W.heap.size) (hr : Rd W w.heap.size (some ad) s.size (byteC s)) => rpiece_no s (some ad) c hs hcap W hB hr i hi hk)
    clear ht hk hq
    go_enter Try.func33, Try.ntmps33
    go_wp2_with (first | (go_at_call 42; (with_reducible refine (let_no.out _).mono ?_); rintro e w1 ⟨rfl, rfl⟩) | (go_at_call 43; (with_reducible refine (dig_no.out _).mono ?_); rintro e w1 ⟨rfl, rfl⟩) | (go_at_call 47; (with_reducible refine (HC.out _ (by simp) (HN.out.below (by (repeat (first | (with_reducible exact Below.refl _ _) | (with_reducible assumption) | (with_reducible refine Below.setCell ?_ (by first | omega | (simp <;> omega)) _) | (with_reducible refine Below.alloc ?_ (by first | omega | (simp <;> omega)) _) | (with_reducible refine Below.drew ?_) | (with_reducible refine below_drewN ?_ _) | (with_reducible refine Below.trans ?_ (Below.mono (by with_reducible assumption) (by first | omega | (simp <;> omega))))))))).mono ?_); rintro e wb1 ⟨⟨t, rfl⟩, b1⟩; have rz : Row (w.alloc (.cells #[.int .i64 0, .string ⟨#[]⟩, .int .i64 0, .int .i64 0] 33)) w.heap.size 33 #[.int .i64 0, .string ⟨#[]⟩, .int .i64 0, .int .i64 0] := row_new rfl; have zb1 : w.heap.size + 1 ≤ wb1.heap.size := (by have hzz := Below.size b1; first | omega | (simp at hzz; omega)); replace b1 := Below.mono (B' := w.heap.size + 1) b1 (by first | omega | (simp <;> omega)); obtain ⟨hcb1, hfb1⟩ := bcell b1; have rzb := rz.below b1 (by omega); have y0 := rzb.cell 0; have y1 := rzb.cell 1; have y2 := rzb.cell 2; have y3 := rzb.cell 3; have fy0 := rzb.free 0; have fy1 := rzb.free 1; have fy2 := rzb.free 2; have fy3 := rzb.free 3; have lt1 : w.heap.size < wb1.heap.size := (by omega)))
    exact bodyPost_ret (v := .tuple #[.agg (tokA ⟨8, t.text, t.lo, t.hi⟩), .slice (some ah) m c2, .bool false]) (by simp [results, Try.results33, go_sem, tokA, *]) rfl ⟨NPost.no HT.out (by omega), (by (repeat (first | (with_reducible exact Below.refl _ _) | (with_reducible assumption) | (with_reducible refine Below.setCell ?_ (by first | omega | (simp <;> omega)) _) | (with_reducible refine Below.alloc ?_ (by first | omega | (simp <;> omega)) _) | (with_reducible refine Below.drew ?_) | (with_reducible refine below_drewN ?_ _) | (with_reducible refine Below.trans ?_ (Below.mono (by with_reducible assumption) (by first | omega | (simp <;> omega)))))))⟩
  | some p =>
    obtain ⟨tx, E, mo⟩ := p
    rw [hk, Option.map_some] at ht
    have HC := Lib.hid (fun (W : World) (hB : w.heap.size ≤ W.heap.size) (hr : Rd W w.heap.size (some ad) s.size (byteC s)) => rpiece_yes s (some ad) c hs hcap W hB hr i hi hk)
    clear hk hq
    cases mo
    · have HT : Hid (tokAt s i holes = some (⟨8, tx, i, E⟩, holes.dropLast)) := Lib.hid ht
      clear ht
      go_enter Try.func33, Try.ntmps33
      go_wp2_with (first | (go_at_call 42; (with_reducible refine (let_no.out _).mono ?_); rintro e w1 ⟨rfl, rfl⟩) | (go_at_call 43; (with_reducible refine (dig_no.out _).mono ?_); rintro e w1 ⟨rfl, rfl⟩) | (go_at_call 47; (with_reducible refine (HC.out _ (by simp) (HN.out.below (by (repeat (first | (with_reducible exact Below.refl _ _) | (with_reducible assumption) | (with_reducible refine Below.setCell ?_ (by first | omega | (simp <;> omega)) _) | (with_reducible refine Below.alloc ?_ (by first | omega | (simp <;> omega)) _) | (with_reducible refine Below.drew ?_) | (with_reducible refine below_drewN ?_ _) | (with_reducible refine Below.trans ?_ (Below.mono (by with_reducible assumption) (by first | omega | (simp <;> omega))))))))).mono ?_); rintro e wb1 ⟨rfl, b1⟩; have rz : Row (w.alloc (.cells #[.int .i64 0, .string ⟨#[]⟩, .int .i64 0, .int .i64 0] 33)) w.heap.size 33 #[.int .i64 0, .string ⟨#[]⟩, .int .i64 0, .int .i64 0] := row_new rfl; have zb1 : w.heap.size + 1 ≤ wb1.heap.size := (by have hzz := Below.size b1; first | omega | (simp at hzz; omega)); replace b1 := Below.mono (B' := w.heap.size + 1) b1 (by first | omega | (simp <;> omega)); obtain ⟨hcb1, hfb1⟩ := bcell b1; have rzb := rz.below b1 (by omega); have y0 := rzb.cell 0; have y1 := rzb.cell 1; have y2 := rzb.cell 2; have y3 := rzb.cell 3; have fy0 := rzb.free 0; have fy1 := rzb.free 1; have fy2 := rzb.free 2; have fy3 := rzb.free 3; have lt1 : w.heap.size < wb1.heap.size := (by omega)))
      exact bodyPost_ret (v := .tuple #[.agg (tokA ⟨8, tx, i, E⟩), .slice (some ah) m c2, .bool true]) (by simp [results, Try.results33, go_sem, tokA, *]) rfl ⟨NPost.yes HT.out HLD.out (by omega) (HDR.out.later (by (repeat (first | (with_reducible exact Below.refl _ _) | (with_reducible assumption) | (with_reducible refine Below.setCell ?_ (by first | omega | (simp <;> omega)) _) | (with_reducible refine Below.alloc ?_ (by first | omega | (simp <;> omega)) _) | (with_reducible refine Below.drew ?_) | (with_reducible refine below_drewN ?_ _) | (with_reducible refine Below.trans ?_ (Below.mono (by with_reducible assumption) (by first | omega | (simp <;> omega))))))) (by first | omega | (simp; omega))), (by (repeat (first | (with_reducible exact Below.refl _ _) | (with_reducible assumption) | (with_reducible refine Below.setCell ?_ (by first | omega | (simp <;> omega)) _) | (with_reducible refine Below.alloc ?_ (by first | omega | (simp <;> omega)) _) | (with_reducible refine Below.drew ?_) | (with_reducible refine below_drewN ?_ _) | (with_reducible refine Below.trans ?_ (Below.mono (by with_reducible assumption) (by first | omega | (simp <;> omega)))))))⟩
    · have HT : Hid (tokAt s i holes = some (⟨7, tx, i, E⟩, holes)) := Lib.hid ht
      clear ht
      go_enter Try.func33, Try.ntmps33
      go_wp2_with (first | (go_at_call 42; (with_reducible refine (let_no.out _).mono ?_); rintro e w1 ⟨rfl, rfl⟩) | (go_at_call 43; (with_reducible refine (dig_no.out _).mono ?_); rintro e w1 ⟨rfl, rfl⟩) | (go_at_call 47; (with_reducible refine (HC.out _ (by simp) (HN.out.below (by (repeat (first | (with_reducible exact Below.refl _ _) | (with_reducible assumption) | (with_reducible refine Below.setCell ?_ (by first | omega | (simp <;> omega)) _) | (with_reducible refine Below.alloc ?_ (by first | omega | (simp <;> omega)) _) | (with_reducible refine Below.drew ?_) | (with_reducible refine below_drewN ?_ _) | (with_reducible refine Below.trans ?_ (Below.mono (by with_reducible assumption) (by first | omega | (simp <;> omega))))))))).mono ?_); rintro e wb1 ⟨rfl, b1⟩; have rz : Row (w.alloc (.cells #[.int .i64 0, .string ⟨#[]⟩, .int .i64 0, .int .i64 0] 33)) w.heap.size 33 #[.int .i64 0, .string ⟨#[]⟩, .int .i64 0, .int .i64 0] := row_new rfl; have zb1 : w.heap.size + 1 ≤ wb1.heap.size := (by have hzz := Below.size b1; first | omega | (simp at hzz; omega)); replace b1 := Below.mono (B' := w.heap.size + 1) b1 (by first | omega | (simp <;> omega)); obtain ⟨hcb1, hfb1⟩ := bcell b1; have rzb := rz.below b1 (by omega); have y0 := rzb.cell 0; have y1 := rzb.cell 1; have y2 := rzb.cell 2; have y3 := rzb.cell 3; have fy0 := rzb.free 0; have fy1 := rzb.free 1; have fy2 := rzb.free 2; have fy3 := rzb.free 3; have lt1 : w.heap.size < wb1.heap.size := (by omega)))
      exact bodyPost_ret (v := .tuple #[.agg (tokA ⟨7, tx, i, E⟩), .slice (some ah) (m + 1) c2, .bool true]) (by simp [results, Try.results33, go_sem, tokA, *]) rfl ⟨NPost.yes HT.out HH.out hc2 (H2.out.later (by (repeat (first | (with_reducible exact Below.refl _ _) | (with_reducible assumption) | (with_reducible refine Below.setCell ?_ (by first | omega | (simp <;> omega)) _) | (with_reducible refine Below.alloc ?_ (by first | omega | (simp <;> omega)) _) | (with_reducible refine Below.drew ?_) | (with_reducible refine below_drewN ?_ _) | (with_reducible refine Below.trans ?_ (Below.mono (by with_reducible assumption) (by first | omega | (simp <;> omega))))))) (by first | omega | (simp; omega))), (by (repeat (first | (with_reducible exact Below.refl _ _) | (with_reducible assumption) | (with_reducible refine Below.setCell ?_ (by first | omega | (simp <;> omega)) _) | (with_reducible refine Below.alloc ?_ (by first | omega | (simp <;> omega)) _) | (with_reducible refine Below.drew ?_) | (with_reducible refine below_drewN ?_ _) | (with_reducible refine Below.trans ?_ (Below.mono (by with_reducible assumption) (by first | omega | (simp <;> omega)))))))⟩
end Go.Proofs.Ytdlppdoankeilaa
