/- Some texts of this claim, put together. -/
import Derived.Test.YtcphkdooemengaaGreatDoorHBZ1
import Derived.Lib.RuneBytes
import Derived.Test.YtcphkdooemengaaGreatDoorHRefDec
import Derived.Test.YtcphkdooemengaaGreatDoorHBZ2
import Derived.Deep.DeepCutAuto
import Derived.Test.YtcphkdooemengaaGreatDoorHW5
import Derived.Test.YtcphkdooemengaaGreatDoorHBZ11
namespace Go.Proofs.YtcphkdooemengaaGreatDoor
section
set_option linter.unusedVariables false
set_option linter.unusedSimpArgs false
set_option linter.unnecessarySimpa false
open Go.RowKit
set_option maxHeartbeats 2000000 in
theorem decodeN_enc (n b0 b1 b2 b3 : Nat) (h0 : b0 < 256) (h1 : b1 < 256) (h2 : b2 < 256) (h3 : b3 < 256) (hg : b0 < 128 ∨ 1 < (Lib.decodeN n b0 b1 b2 b3).2) :
    Lib.encodeRuneZ ((Lib.decodeN n b0 b1 b2 b3).1 : Int) = ([(b0 : Int), b1, b2, b3].take (Lib.decodeN n b0 b1 b2 b3).2) := by
  unfold Lib.decodeN at hg ⊢
  by_cases c1 : b0 < 128
  · rw [if_pos c1]
    rw [Lib.encodeRuneZ_one (by omega) (by simp only []; omega)]; rfl
  · rw [if_neg c1] at hg ⊢
    split
    · rename_i c
      rw [if_pos c] at hg
      split
      · rw [Lib.encodeRuneZ_two (by simp only []; omega) (by simp only []; omega)]
        simp only [List.take_succ_cons, List.take_zero, List.cons.injEq, and_true]
        omega
      · rename_i d; rw [if_neg d] at hg; simp at hg; omega
    · rename_i c
      rw [if_neg c] at hg
      split
      · rename_i c'
        rw [if_pos c'] at hg
        split
        · rw [Lib.encodeRuneZ_three (by simp only []; omega)]
          simp only [List.take_succ_cons, List.take_zero, List.cons.injEq, and_true]
          omega
        · rename_i d; rw [if_neg d] at hg; simp at hg; omega
      · rename_i c'
        rw [if_neg c'] at hg
        split
        · rename_i c''
          rw [if_pos c''] at hg
          split
          · rw [Lib.encodeRuneZ_four (by simp only []; omega) (by simp only []; omega)]
            simp only [List.take_succ_cons, List.take_zero, List.cons.injEq, and_true]
            omega
          · rename_i d; rw [if_neg d] at hg; simp at hg; omega
        · rename_i c''; rw [if_neg c''] at hg; simp at hg; omega
/-- A text's bytes, as numbers. -/
def bytesZ (s : ByteArray) : List Int := s.data.toList.map fun x => (x.toNat : Int)
theorem bytesZ_len (s : ByteArray) : (bytesZ s).length = s.size := by simp [bytesZ]
theorem bytesZ_inj {s t : ByteArray} (h : bytesZ s = bytesZ t) : s = t := by
  have h2 : s.data.toList = t.data.toList := List.map_inj_right (f := fun x : UInt8 => (x.toNat : Int)) (fun x y e => UInt8.toNat_inj.1 (Int.ofNat_inj.1 e)) |>.1 h
  exact ByteArray.ext (Array.toList_inj.1 h2)
theorem bytesZ_at {s : ByteArray} {i : Nat} (h : i < s.size) : (bytesZ s).drop i = (bt s i : Int) :: (bytesZ s).drop (i + 1) := by
  rw [List.drop_eq_getElem_cons (by rw [bytesZ_len]; exact h)]
  congr 1
  simp [bytesZ, bt, ByteArray.get!, h]
theorem bytesZ_rune {s : ByteArray} {i : Nat} (h : i < s.size) (hg : gd s i = true) : (bytesZ s).drop i = Lib.encodeRuneZ (rn s i : Int) ++ (bytesZ s).drop (i + wd s i) := by
  have hw := wd_bd h
  have e := decodeN_enc (s.size - i) (bt s i) (bt s (i + 1)) (bt s (i + 2)) (bt s (i + 3)) (bt_lt _ _) (bt_lt _ _) (bt_lt _ _) (bt_lt _ _) (by
    unfold gd wd at hg; rw [dec_eq] at hg; simpa using hg)
  rw [← dec_eq] at e
  change Lib.encodeRuneZ (rn s i : Int) = List.take (wd s i) _ at e
  rw [e]
  generalize wd s i = k at *
  rcases (by omega : k = 1 ∨ k = 2 ∨ k = 3 ∨ k = 4) with rfl | rfl | rfl | rfl
  · rw [bytesZ_at h]; rfl
  · rw [bytesZ_at h, bytesZ_at (show i + 1 < s.size by omega)]; rfl
  · rw [bytesZ_at h, bytesZ_at (show i + 1 < s.size by omega), bytesZ_at (show i + 1 + 1 < s.size by omega)]; rfl
  · rw [bytesZ_at h, bytesZ_at (show i + 1 < s.size by omega), bytesZ_at (show i + 1 + 1 < s.size by omega), bytesZ_at (show i + 1 + 1 + 1 < s.size by omega)]; rfl
/-- Is a text good all through? -/
def good (s : ByteArray) : Bool := (places s).all (gd s)
theorem bytesZ_places (s : ByteArray) : ∀ (n i : Nat), s.size - i ≤ n → i ≤ s.size → (placesAt s i).all (gd s) = true → (bytesZ s).drop i = (placesAt s i).flatMap fun p => Lib.encodeRuneZ (rn s p : Int)
  | 0, i, h, hi, _ => by
    rw [placesAt_end (by omega), List.drop_of_length_le (by rw [bytesZ_len]; omega)]; rfl
  | n + 1, i, h, hi, hg => by
    by_cases hlt : i < s.size
    · have hw := wd_bd hlt
      rw [placesAt_step hlt] at hg ⊢
      rw [List.all_cons, Bool.and_eq_true] at hg
      rw [bytesZ_rune hlt hg.1, List.flatMap_cons, bytesZ_places s n (i + wd s i) (by omega) hw.2.1 hg.2]
    · rw [placesAt_end hlt, List.drop_of_length_le (by rw [bytesZ_len]; omega)]; rfl
theorem good_bytes {s : ByteArray} (h : good s = true) : bytesZ s = (runesOf s).flatMap Lib.encodeRuneZ := by
  have := bytesZ_places s s.size 0 (by omega) (by omega) h
  rw [List.drop_zero] at this
  rw [this]
  unfold runesOf places
  rw [List.flatMap_map]
/-- Two good texts of the same runes are the same. -/
theorem good_inj {s t : ByteArray} (hs : good s = true) (ht : good t = true) (h : runesOf s = runesOf t) : s = t :=
  bytesZ_inj (by rw [good_bytes hs, good_bytes ht, h])
end
section
set_option linter.unusedVariables false
set_option linter.unusedSimpArgs false
set_option linter.unnecessarySimpa false
open Go.RowKit
attribute [local go_sem] cell_alloc_add cell_set_add lt_more
/-- A row's cells. -/
def rowC (s : ByteArray) (i : Nat) : List Value := [.int .i64 (i : Int), .int .i32 (rn s i : Int), .int .i64 (wd s i : Int), .bool (gd s i)]
def rowsC (s : ByteArray) (l : List Nat) : List Value := l.flatMap (rowC s)
theorem rowsC_snoc (s : ByteArray) (l : List Nat) (i : Nat) : rowsC s (l ++ [i]) = rowsC s l ++ rowC s i := by simp [rowsC]
theorem infoRow : (Tryz.prog.info? 86).map (fun i => (i.zero, i.size, i.bytes)) = some (some (.agg #[.int .i64 0, .int .i32 0, .int .i64 0, .bool false]), 4, 32) := by kernel_rfl
theorem rowC_lies (s : ByteArray) (k : Nat) {w : World} {g : Nat} {t : TypeId} (h : Row w g t #[.int .i64 (k : Int), .int .i32 (rn s k : Int), .int .i64 (wd s k : Int), .bool (gd s k)]) : ∀ j u, (rowC s k)[j]? = some u → w.cell? ((⟨g, 0, none⟩ : Addr).add j) = some u := fun j u hj => by
  rw [add_row, h.cell, Nat.zero_add, ← hj]
  simp [rowC]
theorem rowC_one (s : ByteArray) (k : Nat) : ∀ u ∈ rowC s k, u.oneCell' = true := by intro u hu; simp [rowC] at hu; rcases hu with rfl | rfl | rfl | rfl <;> rfl
set_option maxRecDepth 100000 in
set_option maxHeartbeats 4000000 in
theorem rRunes_any (s : ByteArray) (A : Option Addr) (c : Nat) (hs : s.size ≤ 1099511627776) (hcap : s.size ≤ c) (w : World) {B : Nat} (hB : B ≤ w.heap.size) (h : Rd w B A s.size (byteC s)) :
    Calls Tryz.prog 40 #[.slice A s.size c] w fun e w' => (∃ v, e = .returned v ∧ w'.ownsRow w.heap.size 86 4 v (places s).length (rowsC s (places s))) ∧ Below w.heap.size w w' := by
  obtain ⟨i0, hi, iz0, iz1, iz2⟩ := info_parts infoRow
  go_enter Tryz.func40, Tryz.ntmps40
  go_wp2
  go_loopw [3, 4] (fun v a wr => ∃ (pre : List Nat) (k : Nat), a = .int .i64 k ∧ AtPlace s pre k ∧ wr.ownsRow w.heap.size 86 4 v pre.length (rowsC s pre) ∧ Below w.heap.size w wr) (fun _ a _ => s.size - (intOf a).toNat)
  case atStart => exact ⟨[], 0, rfl, AtPlace.start s, World.ownsRow_nil _ _ _ _, Below.refl _ _⟩
  case round =>
    obtain ⟨pre, k, rfl, hp, hown, hb⟩ := hrel
    have hz := hb.size
    have hk := hp.2
    have hpl := hp.len
    have hr0 := (h.below (hb.mono hB))
    by_cases hlt : k < s.size
    · have hw := wd_bd hlt
      go_wp2_with (first
        | (go_at_call 63; (with_reducible refine (rDecode_in s A c k hlt (by omega) hcap wr (by omega) hr0).mono ?_); rintro e w1 ⟨rfl, hb1⟩; have hz1 := Below.size hb1; have hown1 := own_below hown hb1)
        | (at_builtin; refine wpList_append_own _ rfl _ _ 83 rfl w.heap.size 86 i0 _ 4 32 Tryz.underlying83 hi iz0 iz1 iz2 rfl (by decide) _ _ _ rfl ((hown1.alloc _).alloc _) ⟨w1.heap.size + 1, 0, none⟩ 1 1 (rowC s k) rfl rfl (rowC_lies s k (row_new (by simp))) (rowC_one s k) (by unfold maxLen; omega) (by omega) (by simp; omega) ?_; intro v2 w2 hown2 hg2 _; have hrw := row_grown (g := w1.heap.size) (Row.alloc (row_new rfl) _) hg2 (fun e => absurd (own_lt hown1 _ e) (by omega)); have hc2 := hrw.cell 2; simp at hc2))
      go_roundw
      case rel => exact ⟨pre ++ [k], k + wd s k, by go_num, hp.step hlt, by rw [rowsC_snoc, List.length_append]; exact hown2, (((hb.trans (hb1.mono hz)).alloc (by omega) _).alloc (by simp; omega) _).grown hg2 (by simp; omega) (own_ge hown1)⟩
      case measure => simp [intOf]; omega
    · have hf := Lib.hid (hp.fin hlt)
      go_wp2
      go_ret
      refine ⟨⟨_, rfl, ?_⟩, hb⟩
      rw [← hf.out]; exact hown

end
section
set_option linter.unusedVariables false
set_option linter.unusedSimpArgs false
set_option linter.unnecessarySimpa false
open Go.RowKit
attribute [local go_sem] cell_alloc_add cell_set_add lt_more
theorem rowsG_at (s : ByteArray) : ∀ (l : List Nat) (k p j : Nat), l[k]? = some p → j < 4 → (rowsC s l)[k * 4 + j]? = (rowC s p)[j]? := by
  intro l
  induction l with
  | nil => intro k p j h _; simp at h
  | cons a l ih =>
    intro k p j h hj
    have e : rowsC s (a :: l) = rowC s a ++ rowsC s l := by simp [rowsC]
    have hl : (rowC s a).length = 4 := rfl
    rw [e]
    cases k with
    | zero => simp at h; subst h; rw [List.getElem?_append_left (by omega)]; simp
    | succ k => simp at h; rw [List.getElem?_append_right (by omega), hl, show (k + 1) * 4 + j - 4 = k * 4 + j by omega]; exact ih k p j h hj
/-- A row of the reference's rows, read: is the k-th one good? -/
theorem rows_good {w : World} {B : Nat} {v : Value} {s : ByteArray} (hown : w.ownsRow B 86 4 v (places s).length (rowsC s (places s))) :
    ∃ A c, v = .slice A (places s).length c ∧ ∀ k p, (places s)[k]? = some p → ∃ g, A = some ⟨g, 0, none⟩ ∧ g < w.heap.size ∧ w.cell? ⟨g, k * 4 + 3, none⟩ = some (.bool (gd s p)) := by
  rcases hown.2 with ⟨rfl, h0⟩ | ⟨g, cap, cur, rfl, _⟩
  · exact ⟨none, 0, by rw [h0], fun k p hk => by
      have := (List.getElem?_eq_some_iff.1 hk).1; omega⟩
  · refine ⟨_, _, rfl, fun k p hp => ⟨g, rfl, own_lt hown g rfl, ?_⟩⟩
    have := hown.cells (g := g) rfl (k * 4 + 3) (.bool (gd s p)) (by rw [rowsG_at s _ k p 3 hp (by omega)]; rfl)
    rwa [add_row, Nat.zero_add] at this
/-- Are the first k runes good? -/
def goodTo (s : ByteArray) (k : Nat) : Bool := ((places s).take k).all (gd s)
theorem goodTo_step {s : ByteArray} {k p : Nat} (h : (places s)[k]? = some p) (hg : gd s p = true) (ht : goodTo s k = true) : goodTo s (k + 1) = true := by
  unfold goodTo at *
  rw [List.take_add_one, h, List.all_append, ht]
  simp [hg]
theorem good_bad {s : ByteArray} {k p : Nat} (h : (places s)[k]? = some p) (hg : gd s p = false) : good s = false := by
  unfold good
  rw [List.all_eq_false]
  exact ⟨p, List.mem_of_getElem? h, by simp [hg]⟩
theorem good_fin {s : ByteArray} (h : goodTo s (places s).length = true) : good s = true := by
  unfold goodTo at h
  rwa [List.take_length] at h
set_option maxRecDepth 100000 in
set_option maxHeartbeats 4000000 in
theorem rGood_any (s : ByteArray) (hs : s.size ≤ 1099511627776) (w : World) :
    Calls Tryz.prog 127 #[.string s] w fun e w' => e = .returned (.bool (good s)) ∧ Below w.heap.size w w' := by
  have kb := fun (w : World) (x : ByteArray) => run_bytes_of_string (P := Tryz.prog) w 9 40 5 x Tryz.underlying9 Tryz.underlying40 Tryz.underlying5
  have hls := places_len s
  go_enter Tryz.func127, Tryz.ntmps127
  go_upto_region 2 with (first | (go_at_call 40; (with_reducible refine (rRunes_any s (some ⟨w.heap.size, 0, none⟩) _ hs (grownCap_ge _ _ _ _) _ (by simp) (rd_row w s _ _ _).drew).mono ?_); rintro e w1 ⟨⟨v, rfl, hown⟩, hb1⟩))
  obtain ⟨A, c, rfl, hr⟩ := rows_good hown
  have hb : Below w.heap.size w w1 := ((Below.refl _ w).alloc (Nat.le_refl _) _).drew.trans (hb1.mono (by simp))
  have HR := Lib.hid hr
  clear hr hown hb1 kb
  have HN : Hid ((places s).length = (places s).length) := Lib.hid rfl
  go_wp2
  go_loop [4] (fun i => ∃ k : Nat, k ≤ (places s).length ∧ i = .int .i64 k ∧ goodTo s k = true) (fun i => (places s).length - (intOf i).toNat)
  case atStart => exact ⟨0, Nat.zero_le _, rfl, rfl⟩
  case round =>
    obtain ⟨k, hk, rfl, hg⟩ := hrel
    have HG := Lib.hid hg
    clear hg
    by_cases hlt : k < (places s).length
    · obtain ⟨p, hp⟩ : ∃ p, (places s)[k]? = some p := ⟨_, List.getElem?_eq_getElem hlt⟩
      obtain ⟨g, rfl, l1, c1⟩ := HR.out k p hp
      have HP := Lib.hid hp
      clear hp
      cases hgd : gd s p
      · have HD := Lib.hid hgd
        rw [hgd] at c1
        clear hgd
        go_wp2
        go_ret
        exact ⟨by rw [good_bad HP.out HD.out]; rfl, hb⟩
      · have HD := Lib.hid hgd
        rw [hgd] at c1
        clear hgd
        go_wp2
        go_round
        case rel => exact ⟨k + 1, by omega, by go_num, goodTo_step HP.out HD.out HG.out⟩
        case measure => simp [intOf]; omega
    · obtain rfl : k = (places s).length := by omega
      go_wp2
      go_ret
      exact ⟨by rw [good_fin HG.out]; rfl, hb⟩
end
section
set_option linter.unusedVariables false
set_option linter.unusedSimpArgs false
set_option linter.unnecessarySimpa false
open Go.RowKit
attribute [local go_sem] cell_alloc_add cell_set_add lt_more

theorem Place_any (s : ByteArray) (A : Option Addr) (c : Nat) (hs : s.size ≤ 140737488351232) (hcap : s.size ≤ c) (w : World) (h : Rd w w.heap.size A s.size (byteC s)) (at_ : Int) :
    Calls Tryz.prog 42 #[.slice A s.size c, .int .i64 at_] w fun e w' => e = .returned (.tuple #[.int .i64 ((lnF s (clampA s at_)).1 : Int), .int .i64 (colS s (lnF s (clampA s at_)).2 (clampA s at_) : Int)]) ∧ Below w.heap.size w w' := callsIn_wide.1 (Place_in s A c hs hcap w h at_)

theorem Decode_b (s : ByteArray) (A : Option Addr) (c : Nat) (i : Int) (hs : s.size ≤ 140737488351232) (hcap : s.size ≤ c) (w : World) {B : Nat} (h : Rd w B A s.size (byteC s)) :
    Calls Tryz.prog 60 #[.slice A s.size c, .int .i64 i] w fun e w' => e = .returned (.tuple #[.int .i32 (decR s i), .int .i64 (decN s i), .bool (decG s i)]) ∧ w' = w := Decode_any s A c i hs hcap w h
theorem rDecode_b (s : ByteArray) (A : Option Addr) (c : Nat) (i : Int) (hs : s.size ≤ 140737488351232) (hcap : s.size ≤ c) (w : World) {B : Nat} (hB : B ≤ w.heap.size) (h : Rd w B A s.size (byteC s)) :
    Calls Tryz.prog 63 #[.slice A s.size c, .int .i64 i] w fun e w' => e = .returned (.agg #[.int .i64 i, .int .i32 (decR s i), .int .i64 (decN s i), .bool (decG s i)]) ∧ Below w.heap.size w w' := rDecode_any s A c i hs hcap w hB h
end
section
set_option linter.unusedVariables false
set_option linter.unusedSimpArgs false
set_option linter.unnecessarySimpa false
open Go.RowKit
attribute [local go_sem] cell_alloc_add cell_set_add lt_more
theorem ba_append (a b : Array UInt8) : ((⟨a⟩ : ByteArray) ++ ⟨b⟩) = ⟨a ++ b⟩ := by
  apply ByteArray.ext; simp
def dgs : ByteArray := ⟨#[48, 49, 50, 51, 52, 53, 54, 55, 56, 57, 97, 98, 99, 100, 101, 102]⟩
theorem dgs_at (d : Nat) (h : d < 16) : dgs.extract d (d + 1) = ⟨#[hexU d]⟩ := by
  have : ∀ x : Fin 16, dgs.extract x.1 (x.1 + 1) = ⟨#[hexU x.1]⟩ := by decide
  exact this ⟨d, h⟩
set_option maxRecDepth 100000 in
set_option maxHeartbeats 4000000 in
theorem rhex_any (r : Nat) (hr : r < 128) (w : World) : Calls Tryz.prog 41 #[.int .i64 (r : Int)] w fun e w' => e = .returned (.string (hexB r)) ∧ w' = w := by
  by_cases h : r < 16
  · have hz : (r : Int) / 16 = 0 := by omega
    go_enter Tryz.func41, Tryz.ntmps41
    go_wp2
    refine wp_loop_rounds 1 ?_
    rw [rounds_succ]
    go_wp2
    go_ret
    refine ⟨ret_str ?_, rfl⟩
    change dgs.extract (r % 16) (r % 16 + 1) ++ ⟨#[]⟩ = hexB r
    rw [dgs_at _ (by omega), hexB_one h, ba_append, Nat.mod_eq_of_lt h]; rfl
  · have hz : ((r : Int) / 16 == 0) = false := by simp; omega
    have hz2 : (r : Int) / 16 / 16 = 0 := by omega
    go_enter Tryz.func41, Tryz.ntmps41
    go_wp2
    refine wp_loop_rounds 2 ?_
    rw [rounds_succ]
    go_wp2
    rw [rounds_succ]
    go_wp2
    go_ret
    refine ⟨ret_str ?_, rfl⟩
    change dgs.extract (r / 16 % 16) (r / 16 % 16 + 1) ++ (dgs.extract (r % 16) (r % 16 + 1) ++ ⟨#[]⟩) = hexB r
    rw [dgs_at _ (by omega), dgs_at _ (by omega), hexB_two (by omega), ba_append, ba_append, Nat.mod_eq_of_lt (show r / 16 < 16 by omega)]; rfl
end
section
set_option linter.unusedVariables false
set_option linter.unusedSimpArgs false
set_option linter.unnecessarySimpa false
open Go.RowKit
attribute [local go_sem] cell_alloc_add cell_set_add lt_more
theorem rowsC_at (s : ByteArray) : ∀ (l : List Nat) (k p j : Nat), l[k]? = some p → j < 4 → (rowsC s l)[k * 4 + j]? = (rowC s p)[j]? := by
  intro l
  induction l with
  | nil => intro k p j h _; simp at h
  | cons a l ih =>
    intro k p j h hj
    have e : rowsC s (a :: l) = rowC s a ++ rowsC s l := by simp [rowsC]
    have hl : (rowC s a).length = 4 := rfl
    rw [e]
    cases k with
    | zero => simp at h; subst h; rw [List.getElem?_append_left (by omega)]; simp
    | succ k => simp at h; rw [List.getElem?_append_right (by omega), hl, show (k + 1) * 4 + j - 4 = k * 4 + j by omega]; exact ih k p j h hj
/-- What the reference has written, of the runes at these places. -/
def qout (s : ByteArray) (l : List Nat) : ByteArray := ⟨(34 :: qbody s l).toArray⟩
theorem qout_add (s : ByteArray) (l : List Nat) (p : Nat) {x : ByteArray} (h : x.data.toList = qrune (rn s p)) : qout s l ++ x = qout s (l ++ [p]) := by
  unfold qout
  rw [qbody_snoc, ← h]
  apply ByteArray.ext
  simp
theorem rn_ok (s : ByteArray) (p : Nat) : rn s p < 55296 ∨ 57343 < rn s p := by have h := rn_bd s p; omega
theorem enc_list' (r : Nat) (h1 : r ≤ 1114111) (h2 : r < 55296 ∨ 57343 < r) : (Utf8.encode (r : Int)).data.toList = Lib.encodeRune (r : Int) := by rw [encode_eq h1 h2]
theorem enc_sz' (r : Nat) (h1 : r ≤ 1114111) (h2 : r < 55296 ∨ 57343 < r) : (Utf8.encode (r : Int)).size ≤ 4 := by
  have h3 : (Lib.encodeRune (r : Int)).length ≤ 4 := by rw [← Lib.runeCells_length]; exact (Lib.runeCells_le _).2
  rw [encode_eq h1 h2]; show (Lib.encodeRune (r : Int)).toArray.size ≤ 4; simpa using h3
theorem enc_list (s : ByteArray) (p : Nat) : (Utf8.encode (rn s p : Int)).data.toList = Lib.encodeRune (rn s p : Int) := enc_list' (rn s p) (rn_bd s p).1 (rn_ok s p)
theorem enc_sz (s : ByteArray) (p : Nat) : (Utf8.encode (rn s p : Int)).size ≤ 4 := enc_sz' (rn s p) (rn_bd s p).1 (rn_ok s p)
theorem qout_sz (s : ByteArray) (l : List Nat) : (qout s l).size ≤ 6 * l.length + 1 := by
  have := qbody_len s l; unfold qout; simp [ByteArray.size]; omega
theorem esc_list (r : Nat) (h : r = 92 ∨ r = 34) : qrune r = 92 :: (Utf8.encode (r : Int)).data.toList := by
  rw [enc_list' r (by omega) (by omega), qrune_esc h]
theorem cons_list (E : ByteArray) : ((⟨#[92]⟩ : ByteArray) ++ E).data.toList = 92 :: E.data.toList := by simp
theorem qout_esc (s : ByteArray) (l : List Nat) (p : Nat) (h : rn s p = 92 ∨ rn s p = 34) : qout s l ++ ⟨#[92]⟩ ++ Utf8.encode (rn s p : Int) = qout s (l ++ [p]) :=
  (ByteArray.append_assoc).trans (qout_add s l p ((cons_list _).trans (esc_list (rn s p) h).symm))
theorem plain_list (r : Nat) (h0 : r ≤ 1114111) (hs : r < 55296 ∨ 57343 < r) (h : 32 ≤ r) (h1 : r ≠ 92) (h2 : r ≠ 34) (h3 : r ≠ 127) : qrune r = (Utf8.encode (r : Int)).data.toList := by
  rw [enc_list' r h0 hs, qrune_plain h h1 h2 h3]
theorem qout_hex (s : ByteArray) (l : List Nat) (p : Nat) (h : rn s p < 32 ∨ rn s p = 127) (h1 : rn s p ≠ 10) (h2 : rn s p ≠ 13) (h3 : rn s p ≠ 9) : qout s l ++ ⟨#[92, 117, 123]⟩ ++ hexB (rn s p) ++ ⟨#[125]⟩ = qout s (l ++ [p]) := by
  rw [ByteArray.append_assoc, ByteArray.append_assoc]; exact qout_add s l p (by rw [qrune_hex h h1 h2 h3]; simp)
theorem qout_plain (s : ByteArray) (l : List Nat) (p : Nat) (h : 32 ≤ rn s p) (h1 : rn s p ≠ 92) (h2 : rn s p ≠ 34) (h3 : rn s p ≠ 127) : qout s l ++ Utf8.encode (rn s p : Int) = qout s (l ++ [p]) :=
  qout_add s l p (plain_list (rn s p) (rn_bd s p).1 (rn_ok s p) h h1 h2 h3).symm
theorem qout_end (s : ByteArray) : qout s (places s) ++ ⟨#[34]⟩ = quoteB s := by
  unfold qout quoteB; rw [ba_append]; simp
theorem take_next1 {l : List Nat} {k p : Nat} (h : l[k]? = some p) : l.take (k + 1) = l.take k ++ [p] := by rw [List.take_add_one, h]; rfl

set_option maxRecDepth 100000 in
set_option maxHeartbeats 4000000 in
theorem rQuote_any (s : ByteArray) (hs : s.size ≤ 1099511627776) (w : World) :
    Calls Tryz.prog 23 #[.string s] w fun e w' => e = .returned (.string (quoteB s)) ∧ Below w.heap.size w w' := by
  have kb := fun (w : World) (x : ByteArray) => run_bytes_of_string (P := Tryz.prog) w 9 40 5 x Tryz.underlying9 Tryz.underlying40 Tryz.underlying5
  have hpl := places_len s
  go_enter Tryz.func23, Tryz.ntmps23
  go_wp2_with (go_at_call 40; (with_reducible refine (rRunes_any s (some ⟨w.heap.size, 0, none⟩) _ hs (grownCap_ge _ _ _ _) _ (by simp) (rd_row w s _ _ _).drew).mono ?_); rintro e w1 ⟨⟨v, rfl, hown⟩, hb1⟩)
  have hb : Below w.heap.size w w1 := ((Below.refl _ w).alloc (Nat.le_refl _) _).drew.trans (hb1.mono (by simp))
  obtain ⟨A, c, rfl, hcell⟩ : ∃ A c, v = .slice A (places s).length c ∧ ∀ k p, (places s)[k]? = some p → ∃ g, A = some ⟨g, 0, none⟩ ∧ w1.cell? ⟨g, k * 4 + 1, none⟩ = some (.int .i32 (rn s p : Int)) := by
    rcases hown.2 with ⟨rfl, h0⟩ | ⟨g, cap, cur, rfl, _⟩
    · exact ⟨none, 0, by rw [h0], fun k p hk => by have := (List.getElem?_eq_some_iff.1 hk).1; omega⟩
    · refine ⟨_, _, rfl, fun k p hk => ⟨g, rfl, ?_⟩⟩
      have := hown.cells (g := g) rfl (k * 4 + 1) (.int .i32 (rn s p : Int)) (by rw [rowsC_at s _ k p 1 hk (by omega)]; rfl)
      rwa [add_row, Nat.zero_add] at this
  have HC := Lib.hid hcell
  clear hcell hown
  generalize hn : (places s).length = n at *
  have HN := Lib.hid hn
  clear hn
  go_wp2
  go_loop [3, 5] (fun o i => ∃ k : Nat, k ≤ n ∧ i = .int .i64 k ∧ o = .string (qout s ((places s).take k))) (fun _ i => n - (intOf i).toNat)
  case atStart => exact ⟨0, Nat.zero_le _, rfl, rfl⟩
  case round =>
    obtain ⟨k, hk, rfl, rfl⟩ := hrel
    by_cases hlt : k < n
    · obtain ⟨p, hp⟩ : ∃ p, (places s)[k]? = some p := ⟨_, List.getElem?_eq_getElem (by rw [HN.out]; exact hlt)⟩
      obtain ⟨g, rfl, hc⟩ := HC.out k p hp
      have HT := Lib.hid (take_next1 hp)
      have hrb := rn_bd s p
      clear hp
      have hq := qout_sz s ((places s).take k)
      have hll : ((places s).take k).length ≤ k := List.length_take_le _ _
      have he := enc_sz s p
      have hx := hexB_size (rn s p)
      generalize (places s).take k = l at *
      by_cases c1 : rn s p = 92 ∨ rn s p = 34
      · have HE := Lib.hid c1
        have c2 : 32 ≤ rn s p := by omega
        rcases c1 with c1 | c1
        · have e92 : ((rn s p : Int) == 92) = true := by simp; omega
          clear c1
          go_wp2
          go_round
          case rel => exact ⟨k + 1, by omega, by go_num, by rw [HT.out]; exact congrArg Value.string (qout_esc s l p HE.out)⟩
          case measure => simp [intOf]; omega
        · have e92 : ((rn s p : Int) == 92) = false := by simp; omega
          have e34 : ((rn s p : Int) == 34) = true := by simp; omega
          clear c1
          go_wp2
          go_round
          case rel => exact ⟨k + 1, by omega, by go_num, by rw [HT.out]; exact congrArg Value.string (qout_esc s l p HE.out)⟩
          case measure => simp [intOf]; omega
      · by_cases c10 : rn s p = 10
        · have HE := Lib.hid c10
          have e92 : ((rn s p : Int) == 92) = false := by simp; omega
          have e34 : ((rn s p : Int) == 34) = false := by simp; omega
          have e10 : ((rn s p : Int) == 10) = true := by simp; omega
          clear c10 c1
          go_wp2
          go_round
          case rel => exact ⟨k + 1, by omega, by go_num, by rw [HT.out]; exact congrArg Value.string (qout_add s l p (by rw [HE.out, qrune_nl]))⟩
          case measure => simp [intOf]; omega
        · by_cases c13 : rn s p = 13
          · have HE := Lib.hid c13
            have e92 : ((rn s p : Int) == 92) = false := by simp; omega
            have e34 : ((rn s p : Int) == 34) = false := by simp; omega
            have e10 : ((rn s p : Int) == 10) = false := by simp; omega
            have e13 : ((rn s p : Int) == 13) = true := by simp; omega
            clear c13 c1
            go_wp2
            go_round
            case rel => exact ⟨k + 1, by omega, by go_num, by rw [HT.out]; exact congrArg Value.string (qout_add s l p (by rw [HE.out, qrune_cr]))⟩
            case measure => simp [intOf]; omega
          · by_cases c9 : rn s p = 9
            · have HE := Lib.hid c9
              have e92 : ((rn s p : Int) == 92) = false := by simp; omega
              have e34 : ((rn s p : Int) == 34) = false := by simp; omega
              have e10 : ((rn s p : Int) == 10) = false := by simp; omega
              have e13 : ((rn s p : Int) == 13) = false := by simp; omega
              have e9 : ((rn s p : Int) == 9) = true := by simp; omega
              clear c9 c1
              go_wp2
              go_round
              case rel => exact ⟨k + 1, by omega, by go_num, by rw [HT.out]; exact congrArg Value.string (qout_add s l p (by rw [HE.out, qrune_tab]))⟩
              case measure => simp [intOf]; omega
            · by_cases ch : rn s p < 32 ∨ rn s p = 127
              · have HE := Lib.hid (And.intro ch (And.intro c10 (And.intro c13 c9)))
                have h128 : rn s p < 128 := by omega
                have e92 : ((rn s p : Int) == 92) = false := by simp; omega
                have e34 : ((rn s p : Int) == 34) = false := by simp; omega
                have e10 : ((rn s p : Int) == 10) = false := by simp; omega
                have e13 : ((rn s p : Int) == 13) = false := by simp; omega
                have e9 : ((rn s p : Int) == 9) = false := by simp; omega
                rcases ch with ch | ch
                · have e32 : (rn s p : Int) < 32 := by omega
                  clear ch c10 c13 c9 c1
                  go_wp2_with (go_at_call 41; (with_reducible refine (rhex_any (rn s p) h128 _).mono ?_); rintro e w2 ⟨rfl, rfl⟩)
                  go_round
                  case rel => exact ⟨k + 1, by omega, by go_num, by rw [HT.out]; exact congrArg Value.string (qout_hex s l p HE.out.1 HE.out.2.1 HE.out.2.2.1 HE.out.2.2.2)⟩
                  case measure => simp [intOf]; omega
                · have e127 : ((rn s p : Int) == 127) = true := by simp; omega
                  have e32 : ¬ (rn s p : Int) < 32 := by omega
                  clear ch c10 c13 c9 c1
                  go_wp2_with (go_at_call 41; (with_reducible refine (rhex_any (rn s p) h128 _).mono ?_); rintro e w2 ⟨rfl, rfl⟩)
                  go_round
                  case rel => exact ⟨k + 1, by omega, by go_num, by rw [HT.out]; exact congrArg Value.string (qout_hex s l p HE.out.1 HE.out.2.1 HE.out.2.2.1 HE.out.2.2.2)⟩
                  case measure => simp [intOf]; omega
              · have HE := Lib.hid (show 32 ≤ rn s p ∧ rn s p ≠ 92 ∧ rn s p ≠ 34 ∧ rn s p ≠ 127 by omega)
                have e92 : ((rn s p : Int) == 92) = false := by simp; omega
                have e34 : ((rn s p : Int) == 34) = false := by simp; omega
                have e10 : ((rn s p : Int) == 10) = false := by simp; omega
                have e13 : ((rn s p : Int) == 13) = false := by simp; omega
                have e9 : ((rn s p : Int) == 9) = false := by simp; omega
                have e127 : ((rn s p : Int) == 127) = false := by simp; omega
                have e32 : ¬ (rn s p : Int) < 32 := by omega
                clear ch c10 c13 c9 c1
                go_wp2
                go_round
                case rel => exact ⟨k + 1, by omega, by go_num, by rw [HT.out]; exact congrArg Value.string (qout_plain s l p HE.out.1 HE.out.2.1 HE.out.2.2.1 HE.out.2.2.2)⟩
                case measure => simp [intOf]; omega
    · obtain rfl : k = n := by omega
      have hf := Lib.hid (show (places s).take k = places s by rw [List.take_of_length_le (by rw [HN.out]; exact Nat.le_refl _)])
      have hq := qout_sz s ((places s).take k)
      have hll : ((places s).take k).length ≤ k := List.length_take_le _ _
      go_wp2
      go_ret
      exact ⟨ret_str (by rw [hf.out, qout_end]), hb⟩
end
end Go.Proofs.YtcphkdooemengaaGreatDoor
