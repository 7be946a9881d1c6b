/- The walk of chapter 19's law ReportMarks. -/
import Derived.Test.YtcphkdooemengaaDoorU1
import Derived.Test.YtcphkdooemengaaDoorMk
namespace Go.Proofs.YtcphkdooemengaaDoor
set_option linter.unusedVariables false
set_option linter.unusedSimpArgs false
set_option linter.unnecessarySimpa false
open Go.RowKit
theorem get_bt (s : ByteArray) (i : Nat) (h : i < s.size) : (s[i]'h).toNat = bt s i := by
  show (s.data[i]'h).toNat = bt s i
  first | (rw [data_at h, Array.getElem_toList]; done) | (rw [data_at h, Array.getElem_toList]; rfl)
attribute [local go_sem] cell_alloc_add cell_set_add lt_more get_bt
theorem outB_size (s : ByteArray) (e at_ : Int) (hs : s.size ≤ 8000) : (outB s e at_).size ≤ 100000 := by
  have h1 := lineN_bd s at_
  have h2 := colN_bd s at_
  have hll := lines_len s
  have dl := digits_le (n := ((lineN s at_ : Nat) : Int)) (by omega) (by omega)
  have dc := digits_le (n := ((colN s at_ : Nat) : Int)) (by omega) (by omega)
  have dw := wordB_le e
  have hsp := spaces_size (colN s at_ - 1)
  have hts := lnT_size s (lineN s at_ - 1)
  have hq := sbody_len (lnT s (lineN s at_ - 1)) (places (lnT s (lineN s at_ - 1)))
  have hp := places_len (lnT s (lineN s at_ - 1))
  have hsh : (shown (lnT s (lineN s at_ - 1))).size ≤ 32000 := by show (sbody _ _).toArray.size ≤ _; simp; omega
  unfold outB
  rw [rows3_eq, ByteArray.size_append, ByteArray.size_append, ByteArray.size_append, ByteArray.size_append, ByteArray.size_append, ByteArray.size_append, ByteArray.size_append, ByteArray.size_append, ByteArray.size_append, ByteArray.size_append]
  have e1 : (⟨#[58]⟩ : ByteArray).size = 1 := rfl
  have e2 : (⟨#[58, 32]⟩ : ByteArray).size = 2 := rfl
  have e3 : (⟨#[10]⟩ : ByteArray).size = 1 := rfl
  have e4 : (⟨#[94]⟩ : ByteArray).size = 1 := rfl
  omega
theorem bt_mem {s : ByteArray} {i : Nat} (h : i < s.size) : ∃ x ∈ s.data.toList, bt s i = x.toNat ∧ s.data.toList[i]? = some x := by
  have hl : i < s.data.toList.length := by simpa using h
  exact ⟨s.data.toList[i], List.getElem_mem hl, data_at h, List.getElem?_eq_getElem hl⟩
theorem ext_tail (p t : ByteArray) : (p ++ t).extract p.size (p.size + t.size) = t := by
  apply ByteArray.ext
  rw [ByteArray.data_extract, ByteArray.data_append]
  show (p.data ++ t.data).extract p.data.size (p.data.size + t.data.size) = t.data
  apply Array.toList_inj.1
  simp [List.drop_append]
  rw [List.drop_eq_nil_of_le (by simp), List.take_nil, List.nil_append, List.take_of_length_le (by simp)]
/-- How many line's ends among the first bytes. -/
def cntT (s : ByteArray) (k : Nat) : Nat := (s.data.toList.take k).count 10
theorem cntT_hit {s : ByteArray} {k : Nat} (h : k < s.size) (h10 : bt s k = 10) : cntT s (k + 1) = cntT s k + 1 := by
  obtain ⟨x, _, e, hx⟩ := bt_mem h
  unfold cntT
  rw [List.take_add_one, hx, List.count_append]
  have : x = 10 := UInt8.toNat_inj.1 (by rw [← e, h10]; rfl)
  subst this; rfl
theorem cntT_miss {s : ByteArray} {k : Nat} (h : k < s.size) (h10 : bt s k ≠ 10) : cntT s (k + 1) = cntT s k := by
  obtain ⟨x, _, e, hx⟩ := bt_mem h
  unfold cntT
  rw [List.take_add_one, hx, List.count_append]
  have : x ≠ 10 := by rintro rfl; exact h10 e
  simp [List.count_cons, this]
theorem cntT_all (s : ByteArray) : cntT s s.size = s.data.toList.count 10 := by
  unfold cntT; rw [List.take_of_length_le (by simp)]
theorem cntT_le (s : ByteArray) (k : Nat) : cntT s k ≤ k := by
  unfold cntT
  exact Nat.le_trans List.count_le_length (List.length_take_le _ _)
set_option maxRecDepth 100000 in
set_option maxHeartbeats 4000000 in
theorem ReportMarks_any (s : ByteArray) (A : Option Addr) (c : Nat) (hs : s.size ≤ 140737488351232) (hcap : s.size ≤ c) (w : World) (h : Rd w w.heap.size A s.size (byteC s)) (at_ : Int) (hT : Tab w) :
    Calls Tryd.prog 4 #[.slice A s.size c, .int .i64 at_] w fun e w' => e = .returned (.bool true) ∧ Below w.heap.size w w' := by
  have hT2 := hT.2
  by_cases h4 : s.size ≤ 2500
  · obtain ⟨q, hP, hz1, hz2, h3, hno, hend⟩ : ∃ q : ByteArray, (Calls Tryd.prog 7 #[.slice A s.size c, .agg #[.int .i64 8, .int .i64 at_, .string ⟨#[]⟩]] w fun e w' => e = .returned (.string q) ∧ Below w.heap.size w w') ∧
        2 ≤ q.size ∧ q.size ≤ 100000 ∧ cntT q q.size = 3 ∧ (∀ i, i < q.size → bt q i ≠ 9 ∧ bt q i ≠ 13) ∧ q.extract (q.size - 2) q.size = ⟨#[94, 10]⟩ := by
      obtain ⟨m1, m2, p, hp⟩ := out_marks s 8 at_
      refine ⟨outB s 8 at_, Output_any s A c (by omega) hcap w h 8 at_ ⟨#[]⟩ hT, ?_, outB_size s 8 at_ (by omega), by rw [cntT_all]; exact m1, fun i hi => ?_, ?_⟩
      · rw [hp, ByteArray.size_append]; show 2 ≤ p.size + 2; omega
      · obtain ⟨x, hx, e, _⟩ := bt_mem hi
        obtain ⟨n1, n2⟩ := m2 x hx
        refine ⟨fun q => n1 ?_, fun q => n2 ?_⟩ <;> (apply UInt8.toNat_inj.1; rw [← e, q]; rfl)
      · rw [hp, ByteArray.size_append, show (⟨#[94, 10]⟩ : ByteArray).size = 2 from rfl, Nat.add_sub_cancel]
        exact ext_tail p ⟨#[94, 10]⟩
    have HN := Lib.hid hno
    have H3 := Lib.hid h3
    have HE := Lib.hid hend
    clear hno h3 hend
    go_enter Tryd.func4, Tryd.ntmps4
    go_wp2_with (first
      | (go_at_call 7; (with_reducible refine hP.mono ?_); rintro e w1 ⟨rfl, b1⟩; have z1 := Below.size b1))
    go_loop [6, 7] (fun l i => ∃ k : Nat, k ≤ q.size ∧ i = .int .i64 k ∧ l = .int .i64 (cntT q k : Int)) (fun _ i => q.size - (intOf i).toNat)
    case atStart => exact ⟨0, Nat.zero_le _, rfl, rfl⟩
    case round =>
      obtain ⟨k, hk, rfl, rfl⟩ := hrel
      have hcl := cntT_le q k
      by_cases hlt : k < q.size
      · obtain ⟨n9, n13⟩ := HN.out k hlt
        have f1 : ((bt q k : Int) == 9) = false := by simp; omega
        have f2 : ((bt q k : Int) == 13) = false := by simp; omega
        by_cases h10 : bt q k = 10
        · have HC := Lib.hid (cntT_hit hlt h10)
          have f3 : ((bt q k : Int) == 10) = true := by simp; omega
          clear n9 n13 h10
          go_wp2
          go_round
          case rel => exact ⟨k + 1, by omega, by go_num, by rw [HC.out]; go_num⟩
          case measure => simp [intOf]; omega
        · have HC := Lib.hid (cntT_miss hlt h10)
          have f3 : ((bt q k : Int) == 10) = false := by simp; omega
          clear n9 n13 h10
          go_wp2
          go_round
          case rel => exact ⟨k + 1, by omega, by go_num, by rw [HC.out]⟩
          case measure => simp [intOf]; omega
      · obtain rfl : k = q.size := by omega
        rw [H3.out]
        have iw : IntKind.i64.wrap ((q.size : Int) - 2) = ((q.size - 2 : Nat) : Int) := by rw [IntWalk.i64_in _ (by omega)]; omega
        have he2 : (q.extract (q.size - 2) q.size).toList = [94, 10] := by rw [HE.out]; kernel_rfl
        have hb1 := b1
        go_wp2_with (first
          | (go_at_call 10; (with_reducible refine (known_any _ (hT.later (B := w.heap.size) (by (repeat (first | (with_reducible exact Below.refl _ _) | (with_reducible assumption) | (with_reducible refine Below.setCell ?_ (by first | omega | (simp <;> omega)) _) | (with_reducible refine Below.alloc ?_ (by first | omega | (simp <;> omega)) _) | (with_reducible refine Below.drew ?_) | (with_reducible refine below_drewN ?_ _) | (with_reducible refine Below.trans ?_ (Below.mono (by with_reducible assumption) (by first | omega | (simp <;> omega))))))) hT2)).mono ?_); rintro e wk ⟨rfl, bk⟩; have zk := Below.size bk))
        go_ret
        exact ⟨rfl, (by (repeat (first | (with_reducible exact Below.refl _ _) | (with_reducible assumption) | (with_reducible refine Below.setCell ?_ (by first | omega | (simp <;> omega)) _) | (with_reducible refine Below.alloc ?_ (by first | omega | (simp <;> omega)) _) | (with_reducible refine Below.drew ?_) | (with_reducible refine below_drewN ?_ _) | (with_reducible refine Below.trans ?_ (Below.mono (by with_reducible assumption) (by first | omega | (simp <;> omega)))))))⟩
  · go_enter Tryd.func4, Tryd.ntmps4
    go_wp2
    go_ret
    exact ⟨rfl, Below.refl _ _⟩
end Go.Proofs.YtcphkdooemengaaDoor
