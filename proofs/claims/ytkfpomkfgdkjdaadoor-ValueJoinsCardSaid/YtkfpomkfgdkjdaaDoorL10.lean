/- The walk of chapter 14's law ValueJoins. -/
import Derived.Test.YtkfpomkfgdkjdaaDoorL8
import Derived.Lib.ItoaLen
import Derived.Deep.RegionHeld3
import Derived.Deep.RegionWith
import Derived.Deep.DeepCutAuto
import Derived.Test.YtkfpomkfgdkjdaaDoorRow2
import Derived.Test.YtkfpomkfgdkjdaaDoorLater
namespace Go.Proofs.YtkfpomkfgdkjdaaDoor
set_option linter.unusedVariables false
set_option linter.unusedSimpArgs false
open Go.RowKit
theorem num_any (n : Int) (w : World) : Calls Tryd.prog 24 #[.int .i64 n] w fun e w' => e = .returned (.agg #[.int .i64 3, .int .i64 n, .string ⟨#[]⟩]) ∧ Below w.heap.size w w' := by
  go_enter Tryd.func24, Tryd.ntmps24
  go_wp2
  exact bodyPost_ret (v := .agg #[.int .i64 3, .int .i64 n, .string ⟨#[]⟩]) (by simp [results, Tryd.results24, go_sem]) rfl ⟨rfl, (by (repeat (first | (with_reducible exact Below.refl _ _) | (with_reducible assumption) | (with_reducible refine Below.setCell ?_ (by first | omega | (simp <;> omega)) _) | (with_reducible refine Below.alloc ?_ (by first | omega | (simp <;> omega)) _) | (with_reducible refine Below.drew ?_) | (with_reducible refine below_drewN ?_ _) | (with_reducible refine Below.trans ?_ (Below.mono (by with_reducible assumption) (by first | omega | (simp <;> omega)))))))⟩
theorem sane_num {a : Int} (ha : -9007199254740991 ≤ a ∧ a ≤ 9007199254740991) : sane ⟨3, a, ⟨#[]⟩⟩ = ⟨3, a, ⟨#[]⟩⟩ := by
  unfold sane vn clamp big; simp; rw [if_neg (by omega), if_neg (by omega)]
theorem sane_txt (s : ByteArray) : sane ⟨4, 0, s⟩ = ⟨4, 0, s⟩ := rfl
theorem txt_txt (s : ByteArray) : textOf ⟨4, 0, s⟩ = s := rfl
theorem txt_num {n : Int} (h : -9007199254740991 ≤ n ∧ n ≤ 9007199254740991) : textOf ⟨3, n, ⟨#[]⟩⟩ = digits n := by
  unfold textOf; rw [sane_num h]; rfl
theorem dig_size {n : Int} (h : -9007199254740991 ≤ n ∧ n ≤ 9007199254740991) : (digits n).size ≤ 21 := by
  have := Lib.itoa_length_le n (by omega) (by omega)
  unfold digits
  show (Lib.itoa n).toArray.size ≤ _
  simpa using this
theorem join_sn (s : ByteArray) (n : Int) (hs : s.size ≤ 3000) (hn : -9007199254740991 ≤ n ∧ n ≤ 9007199254740991) (w : World) (ht : Tab w) :
    Calls Tryd.prog 16 #[.string ⟨#[43]⟩, .agg #[.int .i64 4, .int .i64 0, .string s], .agg #[.int .i64 3, .int .i64 n, .string ⟨#[]⟩]] w fun e w' => e = .returned (.tuple #[.agg #[.int .i64 4, .int .i64 0, .string (s ++ digits n)], .string ⟨#[]⟩, .int .i64 0]) ∧ Below w.heap.size w w' := by
  have hd := dig_size hn
  refine (Binary_plus_text2 ⟨4, 0, s⟩ ⟨3, n, ⟨#[]⟩⟩ w ht (by rw [sane_txt]; exact (show (4 : Int) ≠ 5 by decide)) (by rw [sane_num hn]; exact (show (3 : Int) ≠ 5 by decide)) (.inl rfl) (by rw [txt_txt]; omega) (by rw [txt_num hn]; omega) rfl rfl (by rw [sane_num hn]; rfl)).mono fun e w' ⟨he, hb⟩ => ⟨?_, hb⟩
  rw [he, plusO_text (by rw [sane_txt]; exact (show (4 : Int) ≠ 5 by decide)) (by rw [sane_num hn]; exact (show (3 : Int) ≠ 5 by decide)) (.inl rfl), txt_txt, txt_num hn, if_neg (by omega)]; rfl
theorem join_ns (t : ByteArray) (n : Int) (hs : t.size ≤ 3000) (hn : -9007199254740991 ≤ n ∧ n ≤ 9007199254740991) (w : World) (ht : Tab w) :
    Calls Tryd.prog 16 #[.string ⟨#[43]⟩, .agg #[.int .i64 3, .int .i64 n, .string ⟨#[]⟩], .agg #[.int .i64 4, .int .i64 0, .string t]] w fun e w' => e = .returned (.tuple #[.agg #[.int .i64 4, .int .i64 0, .string (digits n ++ t)], .string ⟨#[]⟩, .int .i64 0]) ∧ Below w.heap.size w w' := by
  have hd := dig_size hn
  refine (Binary_plus_text3 ⟨3, n, ⟨#[]⟩⟩ ⟨4, 0, t⟩ w ht (by rw [sane_num hn]; exact (show (3 : Int) ≠ 5 by decide)) (by rw [sane_txt]; exact (show (4 : Int) ≠ 5 by decide)) (.inr rfl) (by rw [txt_num hn]; omega) (by rw [txt_txt]; omega) (by rw [sane_num hn]; rfl) (by rw [sane_num hn]; rfl) rfl rfl).mono fun e w' ⟨he, hb⟩ => ⟨?_, hb⟩
  rw [he, plusO_text (by rw [sane_num hn]; exact (show (3 : Int) ≠ 5 by decide)) (by rw [sane_txt]; exact (show (4 : Int) ≠ 5 by decide)) (.inr rfl), txt_txt, txt_num hn, if_neg (by omega)]; rfl
theorem join_ss (s t : ByteArray) (hs : s.size ≤ 3000) (ht' : t.size ≤ 3000) (w : World) (ht : Tab w) :
    Calls Tryd.prog 16 #[.string ⟨#[43]⟩, .agg #[.int .i64 4, .int .i64 0, .string s], .agg #[.int .i64 4, .int .i64 0, .string t]] w fun e w' => e = .returned (.tuple #[.agg #[.int .i64 4, .int .i64 0, .string (s ++ t)], .string ⟨#[]⟩, .int .i64 0]) ∧ Below w.heap.size w w' := by
  refine (Binary_plus_text1 ⟨4, 0, s⟩ ⟨4, 0, t⟩ w ht (by rw [sane_txt]; exact (show (4 : Int) ≠ 5 by decide)) (by rw [sane_txt]; exact (show (4 : Int) ≠ 5 by decide)) (.inl rfl) (by rw [txt_txt]; omega) (by rw [txt_txt]; omega) rfl rfl rfl).mono fun e w' ⟨he, hb⟩ => ⟨?_, hb⟩
  rw [he, plusO_text (by rw [sane_txt]; exact (show (4 : Int) ≠ 5 by decide)) (by rw [sane_txt]; exact (show (4 : Int) ≠ 5 by decide)) (.inl rfl), txt_txt, txt_txt, if_neg (by omega)]; rfl
theorem tab_later2 {wc : World} (ht : Tab wc) (x : Later wc) : Tab x.w := ht.keep x.h
theorem text_num {n : Int} (hn : -9007199254740991 ≤ n ∧ n ≤ 9007199254740991) (w : World) (ht : Tab w) : Calls Tryd.prog 20 #[.agg #[.int .i64 3, .int .i64 n, .string ⟨#[]⟩]] w fun e w' =>
    e = .returned (.string (digits n)) ∧ Below w.heap.size w w' :=
  (Text_any 3 n ⟨#[]⟩ w ht).mono fun e w' ⟨he, hb⟩ => ⟨by rw [he, txt_num hn], hb⟩
/-- What stands behind a statement: what was there, and a text more. -/
def J1 (d : ByteArray) (wo wx : World) (p x f : Value) : Prop := ∃ g, p = .pointer (some ⟨g, 0, none⟩) ∧ x = .string ⟨#[]⟩ ∧ f = .int .i64 0 ∧ Row wx g 23 #[.int .i64 4, .int .i64 0, .string (d)] ∧ Below wo.heap.size wo wx ∧ wo.heap.size ≤ g
set_option maxRecDepth 100000 in
set_option maxHeartbeats 4000000 in
theorem ValueJoins_any (s t : ByteArray) (n : Int) (wfn : -9223372036854775808 ≤ n ∧ n ≤ 9223372036854775807) (w : World) (ht : Tab w) (h1 : s.size ≤ 140737488351232) (h2 : t.size ≤ 140737488351232) :
    Calls Tryd.prog 12 #[.string s, .string t, .int .i64 n] w fun e w' => e = .returned (.bool true) ∧ Below w.heap.size w w' := by
  by_cases hin : s.size + t.size ≤ 2000 ∧ -9007199254740991 ≤ n ∧ n ≤ 9007199254740991
  · obtain ⟨hst, hn⟩ := hin
    have hd := dig_size hn
    go_enter Tryd.func12, Tryd.ntmps12
    go_upto_region 5 with (first | (go_at_call 13; refine (known_any _ (ht.keep (by (repeat (first | (with_reducible exact Below.refl _ _) | (with_reducible assumption) | (with_reducible refine Below.setCell ?_ (by first | omega | (simp <;> omega)) _) | (with_reducible refine Below.alloc ?_ (by first | omega | (simp <;> omega)) _) | (with_reducible refine Below.drew ?_) | (with_reducible refine below_drewN ?_ _) | (with_reducible refine Below.trans ?_ (Below.mono (by with_reducible assumption) (by first | omega | (simp <;> omega))))))))).mono ?_; rintro e wkn ⟨rfl, bkn⟩))
    obtain ⟨wo, hwo⟩ : ∃ wo : World, wo = (w.alloc (.cells #[.int .i64 4, .int .i64 0, .string s] 23)).alloc (.cells #[.int .i64 4, .int .i64 0, .string t] 23) := ⟨_, rfl⟩
    rw [← hwo]
    have rs : Row wo w.heap.size 23 #[.int .i64 4, .int .i64 0, .string (s)] := by rw [hwo]; exact (row_new rfl).alloc _
    have rt : Row wo (w.heap.size + 1) 23 #[.int .i64 4, .int .i64 0, .string (t)] := by rw [hwo]; exact row_new (by simp)
    have b0 : Below w.heap.size w wo := by rw [hwo]; exact ((Below.refl _ w).alloc (Nat.le_refl _) _).alloc (by simp) _
    have z0 : wo.heap.size = w.heap.size + 1 + 1 := by rw [hwo]; simp
    have z1 : w.heap.size + 1 + 1 ≤ wo.heap.size := by omega
    clear hwo z0
    go_cut [9, 10, 11] (fun p x f wx => J1 (s ++ digits n) wo wx p x f)
    case first =>
      have s0 := rs.cell 0
      have s1 := rs.cell 1
      have s2 := rs.cell 2
      have ls := rs.lt
      have ls' : w.heap.size ≤ wo.heap.size := by omega
      have ls'' : w.heap.size < wo.heap.size + 1 := by omega
      have e0 := World.new_ne wo _ s0
      have e1 := World.new_ne wo _ s1
      have e2 := World.new_ne wo _ s2
      go_region_held3 (fun w' => w'.cell? ⟨w.heap.size, 0, none⟩ = some (.int .i64 4) ∧ w'.cell? ⟨w.heap.size, 1, none⟩ = some (.int .i64 0) ∧ w'.cell? ⟨w.heap.size, 2, none⟩ = some (.string s)) (go_keep)
        (first
          | (go_at_call 24; (with_reducible refine (num_any _ _).mono ?_); rintro e wn ⟨rfl, bn⟩; have zn := Below.size bn; (try simp at zn); (try have nn : wo.heap.size < wn.heap.size := (by omega)); (try have nn' : wo.heap.size ≤ wn.heap.size := (by omega)); have lw : w.heap.size < wn.heap.size := (by omega); have lw' : w.heap.size < wn.heap.size + 1 := (by omega); have ew : wn.heap.size ≠ w.heap.size := (by omega); obtain ⟨hcn, hfn⟩ := bcell bn; (try simp only [World.size_alloc, World.size_drew] at hcn hfn))
          | (go_at_call 16; (with_reducible refine (join_sn s n (by omega) hn _ (ht.keep (by (repeat (first | (with_reducible exact Below.refl _ _) | (with_reducible assumption) | (with_reducible refine Below.setCell ?_ (by first | omega | (simp <;> omega)) _) | (with_reducible refine Below.alloc ?_ (by first | omega | (simp <;> omega)) _) | (with_reducible refine Below.drew ?_) | (with_reducible refine below_drewN ?_ _) | (with_reducible refine Below.trans ?_ (Below.mono (by with_reducible assumption) (by first | omega | (simp <;> omega))))))))).mono ?_); rintro e wb ⟨rfl, bb⟩; have zb := Below.size bb; (try simp at zb); (try have nb1 : wo.heap.size < wb.heap.size := (by omega)); (try have nb2 : wn.heap.size < wb.heap.size := (by omega)); obtain ⟨hcb, hfb⟩ := bcell bb; (try simp only [World.size_alloc, World.size_drew] at hcb hfb)))
      all_goals (go_wp2_with fail; go_meet)
      · exact ⟨_, rfl, rfl, rfl, row_new rfl, (by (repeat (first | (with_reducible exact Below.refl _ _) | (with_reducible assumption) | (with_reducible refine Below.setCell ?_ (by first | omega | (simp <;> omega)) _) | (with_reducible refine Below.alloc ?_ (by first | omega | (simp <;> omega)) _) | (with_reducible refine Below.drew ?_) | (with_reducible refine below_drewN ?_ _) | (with_reducible refine Below.trans ?_ (Below.mono (by with_reducible assumption) (by first | omega | (simp <;> omega))))))), by omega⟩
      · have r1 : Row (wn.alloc (.cells #[.int .i64 0, .int .i64 0, .string ⟨#[]⟩] 23)) wn.heap.size 23 _ := row_new rfl
        exact ⟨_, rfl, rfl, rfl, Row.put3 (x := .int .i64 0) (y := .int .i64 0) (z := .string ⟨#[]⟩) (r1.below bb (by simp)), (by (repeat (first | (with_reducible exact Below.refl _ _) | (with_reducible assumption) | (with_reducible refine Below.setCell ?_ (by first | omega | (simp <;> omega)) _) | (with_reducible refine Below.alloc ?_ (by first | omega | (simp <;> omega)) _) | (with_reducible refine Below.drew ?_) | (with_reducible refine below_drewN ?_ _) | (with_reducible refine Below.trans ?_ (Below.mono (by with_reducible assumption) (by first | omega | (simp <;> omega))))))), by omega⟩
      · have r1 : Row (wo.alloc (.cells #[.int .i64 0, .int .i64 0, .string ⟨#[]⟩] 23)).drew wo.heap.size 23 _ := Row.drew (row_new rfl)
        exact ⟨_, rfl, rfl, rfl, Row.put3 (x := .int .i64 0) (y := .int .i64 0) (z := .string ⟨#[]⟩) ((r1.below bn (by simp)).below bb nn), (by (repeat (first | (with_reducible exact Below.refl _ _) | (with_reducible assumption) | (with_reducible refine Below.setCell ?_ (by first | omega | (simp <;> omega)) _) | (with_reducible refine Below.alloc ?_ (by first | omega | (simp <;> omega)) _) | (with_reducible refine Below.drew ?_) | (with_reducible refine below_drewN ?_ _) | (with_reducible refine Below.trans ?_ (Below.mono (by with_reducible assumption) (by first | omega | (simp <;> omega))))))), by omega⟩
    case rest =>
      obtain ⟨gp, rfl, rfl, rfl, rp, b1, hgp⟩ := hcut
      have p0 := rp.cell 0
      have p1 := rp.cell 1
      have p2 := rp.cell 2
      have lp := rp.lt
      have rt1 := rt.below b1 rt.lt
      have t0 := rt1.cell 0
      have t1 := rt1.cell 1
      have t2 := rt1.cell 2
      have lt1 := rt1.lt
      go_upto_region 7 with (first
        | (go_at_call 16; (with_reducible refine (join_ss (s ++ digits n) t (by rw [ByteArray.size_append]; omega) (by omega) _ (ht.keep (b0.trans (b1.mono (by omega))))).mono ?_); rintro e wq ⟨rfl, bq⟩))
      have zq := bq.size
      obtain ⟨w2, hw2⟩ : ∃ w2 : World, w2 = wq.alloc (.cells #[.int .i64 4, .int .i64 0, .string (s ++ digits n ++ t)] 23) := ⟨_, rfl⟩
      rw [← hw2]
      have rs2 : Row w2 w.heap.size 23 #[.int .i64 4, .int .i64 0, .string (s)] := by rw [hw2]; exact ((rs.below b1 rs.lt).below bq (Nat.lt_of_lt_of_le rs.lt b1.size)).alloc _
      have rt2 : Row w2 (w.heap.size + 1) 23 #[.int .i64 4, .int .i64 0, .string (t)] := by rw [hw2]; exact (rt1.below bq rt1.lt).alloc _
      have rq2 : Row w2 wq.heap.size 23 #[.int .i64 4, .int .i64 0, .string (s ++ digits n ++ t)] := by rw [hw2]; exact row_new rfl
      have b02 : Below w.heap.size w w2 := by rw [hw2]; exact ((b0.trans (b1.mono b0.size)).trans (bq.mono (Nat.le_trans b0.size b1.size))).alloc (Nat.le_trans b0.size (Nat.le_trans b1.size zq)) _
      have z2 : w.heap.size + 1 + 1 ≤ w2.heap.size := by rw [hw2, World.size_alloc]; have := b1.size; omega
      clear hw2 p0 p1 p2 t0 t1 t2 lt1 rt1 bq rp b1 hgp rs rt lp
      go_cut [15, 16, 17] (fun p x f wx => J1 (digits n ++ t) w2 wx p x f)
      case first =>
        have t0 := rt2.cell 0
        have t1 := rt2.cell 1
        have t2 := rt2.cell 2
        have ls := rt2.lt
        have ls' : w.heap.size + 1 ≤ w2.heap.size := by omega
        have ls'' : w.heap.size + 1 < w2.heap.size + 1 := by omega
        have e0 := World.new_ne w2 _ t0
        have e1 := World.new_ne w2 _ t1
        have e2 := World.new_ne w2 _ t2
        clear b0
        go_region_held3 (fun w' => w'.cell? ⟨w.heap.size + 1, 0, none⟩ = some (.int .i64 4) ∧ w'.cell? ⟨w.heap.size + 1, 1, none⟩ = some (.int .i64 0) ∧ w'.cell? ⟨w.heap.size + 1, 2, none⟩ = some (.string t)) (go_keep)
          (first
            | (go_at_call 24; (with_reducible refine (num_any _ _).mono ?_); rintro e wn ⟨rfl, bn⟩; have zn := Below.size bn; (try simp at zn); (try have nn : w2.heap.size < wn.heap.size := (by omega)); (try have nn' : w2.heap.size ≤ wn.heap.size := (by omega)); have lw : w.heap.size + 1 < wn.heap.size := (by omega); have lw' : w.heap.size + 1 < wn.heap.size + 1 := (by omega); have ew : wn.heap.size ≠ w.heap.size + 1 := (by omega); obtain ⟨hcn, hfn⟩ := bcell bn; (try simp only [World.size_alloc, World.size_drew] at hcn hfn))
            | (go_at_call 16; (with_reducible refine (join_ns t n (by omega) hn _ (ht.keep (by (repeat (first | (with_reducible exact Below.refl _ _) | (with_reducible assumption) | (with_reducible refine Below.setCell ?_ (by first | omega | (simp <;> omega)) _) | (with_reducible refine Below.alloc ?_ (by first | omega | (simp <;> omega)) _) | (with_reducible refine Below.drew ?_) | (with_reducible refine below_drewN ?_ _) | (with_reducible refine Below.trans ?_ (Below.mono (by with_reducible assumption) (by first | omega | (simp <;> omega))))))))).mono ?_); rintro e wb ⟨rfl, bb⟩; have zb := Below.size bb; (try simp at zb); (try have nb1 : w2.heap.size < wb.heap.size := (by omega)); (try have nb2 : wn.heap.size < wb.heap.size := (by omega)); obtain ⟨hcb, hfb⟩ := bcell bb; (try simp only [World.size_alloc, World.size_drew] at hcb hfb)))
        all_goals (go_wp2_with fail; go_meet)
        · exact ⟨_, rfl, rfl, rfl, row_new rfl, (by (repeat (first | (with_reducible exact Below.refl _ _) | (with_reducible assumption) | (with_reducible refine Below.setCell ?_ (by first | omega | (simp <;> omega)) _) | (with_reducible refine Below.alloc ?_ (by first | omega | (simp <;> omega)) _) | (with_reducible refine Below.drew ?_) | (with_reducible refine below_drewN ?_ _) | (with_reducible refine Below.trans ?_ (Below.mono (by with_reducible assumption) (by first | omega | (simp <;> omega))))))), by omega⟩
        · have r1 : Row (wn.alloc (.cells #[.int .i64 0, .int .i64 0, .string ⟨#[]⟩] 23)) wn.heap.size 23 _ := row_new rfl
          exact ⟨_, rfl, rfl, rfl, Row.put3 (x := .int .i64 0) (y := .int .i64 0) (z := .string ⟨#[]⟩) (r1.below bb (by simp)), (by (repeat (first | (with_reducible exact Below.refl _ _) | (with_reducible assumption) | (with_reducible refine Below.setCell ?_ (by first | omega | (simp <;> omega)) _) | (with_reducible refine Below.alloc ?_ (by first | omega | (simp <;> omega)) _) | (with_reducible refine Below.drew ?_) | (with_reducible refine below_drewN ?_ _) | (with_reducible refine Below.trans ?_ (Below.mono (by with_reducible assumption) (by first | omega | (simp <;> omega))))))), by omega⟩
        · have r1 : Row (w2.alloc (.cells #[.int .i64 0, .int .i64 0, .string ⟨#[]⟩] 23)).drew w2.heap.size 23 _ := Row.drew (row_new rfl)
          exact ⟨_, rfl, rfl, rfl, Row.put3 (x := .int .i64 0) (y := .int .i64 0) (z := .string ⟨#[]⟩) ((r1.below bn (by simp)).below bb nn), (by (repeat (first | (with_reducible exact Below.refl _ _) | (with_reducible assumption) | (with_reducible refine Below.setCell ?_ (by first | omega | (simp <;> omega)) _) | (with_reducible refine Below.alloc ?_ (by first | omega | (simp <;> omega)) _) | (with_reducible refine Below.drew ?_) | (with_reducible refine below_drewN ?_ _) | (with_reducible refine Below.trans ?_ (Below.mono (by with_reducible assumption) (by first | omega | (simp <;> omega))))))), by omega⟩
      case rest =>
        obtain ⟨gr, rfl, rfl, rfl, rr, b2, hgr⟩ := hcut
        have r0 := rr.cell 0
        have r1 := rr.cell 1
        have r2 := rr.cell 2
        have lr := rr.lt
        have rs3 := rs2.below b2 rs2.lt
        have s0 := rs3.cell 0
        have s1 := rs3.cell 1
        have s2 := rs3.cell 2
        have ls3 := rs3.lt
        have rq3 := rq2.below b2 rq2.lt
        go_upto_region 9 with (first
          | (go_at_call 16; (with_reducible refine (join_ss s (digits n ++ t) (by omega) (by rw [ByteArray.size_append]; omega) _ (ht.keep (b02.trans (b2.mono (by omega))))).mono ?_); rintro e ws ⟨rfl, bs⟩))
        have zs := bs.size
        obtain ⟨w3, hw3⟩ : ∃ w3 : World, w3 = ws.alloc (.cells #[.int .i64 4, .int .i64 0, .string (s ++ (digits n ++ t))] 23) := ⟨_, rfl⟩
        rw [← hw3]
        have rq4 : Row w3 wq.heap.size 23 #[.int .i64 4, .int .i64 0, .string (s ++ digits n ++ t)] := by rw [hw3]; exact (rq3.below bs rq3.lt).alloc _
        have rv4 : Row w3 ws.heap.size 23 #[.int .i64 4, .int .i64 0, .string (s ++ digits n ++ t)] := by rw [hw3, ByteArray.append_assoc]; exact row_new rfl
        have b03 : Below w.heap.size w w3 := by rw [hw3]; exact ((b02.trans (b2.mono b02.size)).trans (bs.mono (Nat.le_trans b02.size b2.size))).alloc (Nat.le_trans b02.size (Nat.le_trans b2.size zs)) _
        have ht3 : Tab w3 := ht.keep b03
        have L10 : ∀ x : Later w3, x.w.cell? ⟨wq.heap.size, 0, none⟩ = some (.int .i64 4) := fun x => (x.cell rq4.lt).trans (rq4.cell 0)
        have L11 : ∀ x : Later w3, x.w.cell? ⟨wq.heap.size, 1, none⟩ = some (.int .i64 0) := fun x => (x.cell rq4.lt).trans (rq4.cell 1)
        have L12 : ∀ x : Later w3, x.w.cell? ⟨wq.heap.size, 2, none⟩ = some (.string (s ++ digits n ++ t)) := fun x => (x.cell rq4.lt).trans (rq4.cell 2)
        have L20 : ∀ x : Later w3, x.w.cell? ⟨ws.heap.size, 0, none⟩ = some (.int .i64 4) := fun x => (x.cell rv4.lt).trans (rv4.cell 0)
        have L21 : ∀ x : Later w3, x.w.cell? ⟨ws.heap.size, 1, none⟩ = some (.int .i64 0) := fun x => (x.cell rv4.lt).trans (rv4.cell 1)
        have L22 : ∀ x : Later w3, x.w.cell? ⟨ws.heap.size, 2, none⟩ = some (.string (s ++ digits n ++ t)) := fun x => (x.cell rv4.lt).trans (rv4.cell 2)
        have L1 : Below w3.heap.size w3 w3 := Below.refl _ _
        clear hw3 s0 s1 s2 r0 r1 r2
        (refine wp_region_later w3 L1 (by kernel_rfl) (by kernel_rfl) ?_; repeat (first | go_big_quiet_step (first | with_reducible exact Later.call (num_any _ _) | with_reducible exact Later.call (text_num hn _ (tab_later2 ht3 _)) | with_reducible exact Later.call (known_any _ (tab_later2 ht3 _))) | quiet_step (first | with_reducible exact Later.call (num_any _ _) | with_reducible exact Later.call (text_num hn _ (tab_later2 ht3 _)) | with_reducible exact Later.call (known_any _ (tab_later2 ht3 _)))))
        refine wpQuiet_nil ?_
        intro _ hw'
        obtain ⟨xq, hw''⟩ := hw'
        subst hw''
        go_wp2
        go_ret
        exact ⟨rfl, b03.trans (xq.h.mono b03.size)⟩
  · go_enter Tryd.func12, Tryd.ntmps12
    go_wp2_with (first | (go_at_call 13; refine (known_any _ (ht.keep (by (repeat (first | (with_reducible exact Below.refl _ _) | (with_reducible assumption) | (with_reducible refine Below.setCell ?_ (by first | omega | (simp <;> omega)) _) | (with_reducible refine Below.alloc ?_ (by first | omega | (simp <;> omega)) _) | (with_reducible refine Below.drew ?_) | (with_reducible refine below_drewN ?_ _) | (with_reducible refine Below.trans ?_ (Below.mono (by with_reducible assumption) (by first | omega | (simp <;> omega))))))))).mono ?_; rintro e wkn ⟨rfl, bkn⟩))
    all_goals first
      | (exfalso; omega)
      | skip
    all_goals go_ret
    all_goals exact ⟨rfl, (by (repeat (first | (with_reducible exact Below.refl _ _) | (with_reducible assumption) | (with_reducible refine Below.setCell ?_ (by first | omega | (simp <;> omega)) _) | (with_reducible refine Below.alloc ?_ (by first | omega | (simp <;> omega)) _) | (with_reducible refine Below.drew ?_) | (with_reducible refine below_drewN ?_ _) | (with_reducible refine Below.trans ?_ (Below.mono (by with_reducible assumption) (by first | omega | (simp <;> omega)))))))⟩
end Go.Proofs.YtkfpomkfgdkjdaaDoor
