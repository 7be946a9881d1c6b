/- The walks of chapter 19's known, and of its law ReportOutputs. -/
import Derived.Test.YtcphkdooemengaaDoorV4
import Derived.Test.YtcphkdooemengaaDoorV5
import Derived.Test.YtcphkdooemengaaDoorW9
import Derived.Lib.SlBytesConst
namespace Go.Proofs.YtcphkdooemengaaDoor
set_option linter.unusedVariables false
set_option linter.unusedSimpArgs false
set_option linter.unnecessarySimpa false
open Go.RowKit
attribute [local go_sem] cell_alloc_add cell_set_add lt_more
def kAB : ByteArray := ⟨#[97, 98]⟩
theorem rd_lit (s : ByteArray) (w : World) (t : TypeId) (cs : Array Value) (fr : Nat × Nat) (hc : cs = (s.data.toList.map fun b => Value.int .u8 (b.toNat : Int)).toArray) : Rd (w.alloc (.cells cs t fr)) (w.heap.size + 1) (some ⟨w.heap.size, 0, none⟩) s.size (byteC s) := fun j hj =>
  ⟨_, rfl, by simp, by
    rw [add_row, World.cell?_alloc_mark, Nat.zero_add, hc]
    have := bcs_at hj
    unfold bcs at this
    rw [List.getElem?_toArray]; exact this⟩
theorem kAB_line : lineN kAB 1 = 1 ∧ colN kAB 1 = 2 := by decide
theorem kAB_lnT : lnT kAB 0 = kAB := by
  have e : lineEnd kAB 0 = 2 := by
    rw [lineEnd_go (by decide) (by decide), lineEnd_go (by decide) (by decide), lineEnd_stop (by decide)]
  have h : linesF kAB 0 = [(0, 2)] := by rw [linesF_stop (by rw [e]; decide), e]
  unfold lnT lnAt
  rw [h]; rfl
theorem kAB_out : outB kAB 10 1 = ⟨#[49, 58, 50, 58, 32, 116, 121, 112, 101, 10, 97, 98, 10, 32, 94, 10]⟩ := by
  have d1 : digits 1 = ⟨#[49]⟩ := by
    unfold digits
    rw [show (1 : Int) = ((1 : Nat) : Int) from rfl, Lib.itoa_nonneg, Lib.decDigits_one (by omega)]; rfl
  have d2 : digits 2 = ⟨#[50]⟩ := by
    unfold digits
    rw [show (2 : Int) = ((2 : Nat) : Int) from rfl, Lib.itoa_nonneg, Lib.decDigits_one (by omega)]; rfl
  unfold outB
  rw [kAB_line.1, kAB_line.2, show (1 : Nat) - 1 = 0 from rfl, kAB_lnT, show ((1 : Nat) : Int) = 1 from rfl, show ((2 : Nat) : Int) = 2 from rfl, d1, d2]
  decide
theorem out_kAB (w : World) (fr : Nat × Nat) (hT : Tab w) : Calls Tryd.prog 7 #[.slice (some ⟨w.heap.size, 0, none⟩) 2 2, .agg #[.int .i64 10, .int .i64 1, .string ⟨#[]⟩]] (w.alloc (.cells #[.int .u8 97, .int .u8 98] 5 fr)) fun e w' => e = .returned (.string ⟨#[49, 58, 50, 58, 32, 116, 121, 112, 101, 10, 97, 98, 10, 32, 94, 10]⟩) ∧ Below w.heap.size w w' :=
  (Output_any kAB _ 2 (by decide) (by decide) _ ((rd_lit kAB w 5 #[.int .u8 97, .int .u8 98] fr rfl).more (by simp)) 10 1 ⟨#[]⟩ (hT.later (B := w.heap.size) ((Below.refl _ w).alloc (Nat.le_refl _) _) hT.2)).mono fun e w' ⟨he, hw⟩ => ⟨by rw [he, ← kAB_out]; rfl, ((Below.refl _ w).alloc (Nat.le_refl _) _).trans (hw.mono (by simp))⟩
set_option maxRecDepth 100000 in
set_option maxHeartbeats 1000000 in
theorem known_any (w : World) (hT : Tab w) : Calls Tryd.prog 10 #[] w fun e w' => e = .returned (.bool true) ∧ Below w.heap.size w w' := by
  have kc := fun (w : World) (C : Array Value) (n c : Nat) => Lib.run_convert_bytes_const (P := Tryd.prog) w 22 5 C n c Tryd.underlying22 Tryd.underlying5
  go_enter Tryd.func10, Tryd.ntmps10
  go_wp2_with (first
    | (go_at_call 7; (with_reducible refine (out_kAB _ _ hT).mono ?_); rintro e w1 ⟨rfl, b1⟩; have z1 := Below.size b1))
  go_ret
  exact ⟨rfl, b1⟩
theorem stands_b (s : ByteArray) (n m d e : Nat) (hn : n = s.size + 1) (hm : m = s.size) (A A' : Option Addr) (hd : s.size + 1 ≤ d) (hs : s.size ≤ 17592186044416) (w : World) {B B' : Nat} (h : Rd w B A (s.size + 1) (room s)) (h' : Rd w B' A' s.size (byteC s)) :
    Calls Tryd.prog 9 #[.slice A n d, .slice A' m e] w fun e w' => e = .returned (.bool true) ∧ Below w.heap.size w w' :=
  (stands_any s n m d e hn hm A A' hd hs w h h').mono fun _ _ ⟨he, k, hw⟩ => ⟨he, by rw [hw]; exact below_drewN (Below.refl _ _) k⟩
theorem rOutput_r (s : ByteArray) (A : Option Addr) (c : Nat) (hs : s.size ≤ 8000) (hcap : s.size ≤ c) (w : World) (h : Rd w w.heap.size A s.size (byteC s)) (err at_ : Int) (tx : ByteArray) :
    Calls Tryd.prog 8 #[.slice A s.size c, .agg #[.int .i64 err, .int .i64 at_, .string tx]] w fun e w' => e = .returned (.string (outR s err at_ tx)) ∧ Below w.heap.size w w' := rOutput_any s A c hs hcap w h err at_ tx
theorem tab_later {wc : World} (ht : Tab wc) (x : Later wc) : Tab x.w := ht.keep x.h
set_option maxRecDepth 100000 in
set_option maxHeartbeats 4000000 in
theorem ReportOutputs_any (s : ByteArray) (A : Option Addr) (c : Nat) (hs : s.size ≤ 140737488351232) (hcap : s.size ≤ c) (w : World) (h : Rd w w.heap.size A s.size (byteC s)) (err at_ : Int) (tx : ByteArray) (htx : tx.size ≤ 140737488351232) (hT : Tab w) :
    Calls Tryd.prog 3 #[.slice A s.size c, .agg #[.int .i64 err, .int .i64 at_, .string tx]] w fun e w' => e = .returned (.bool true) ∧ Below w.heap.size w w' := by
  have hT2 := hT.2
  by_cases h4 : s.size + tx.size ≤ 2500
  · have i1 : ((s.size : Int) + (tx.size : Int)) ≤ 2500 := by omega
    have h1 := h.alloc (Nat.le_refl _) (.cells #[.int .i64 err, .int .i64 at_, .string tx] 25)
    have r0 : Row (w.alloc (.cells #[.int .i64 err, .int .i64 at_, .string tx] 25)) w.heap.size 25 #[.int .i64 err, .int .i64 at_, .string tx] := row_new rfl
    go_enter Tryd.func3, Tryd.ntmps3
    go_upto_region 4 with (first
      | (go_at_call 6; (with_reducible refine (roomy_any s A c (by omega) _ (h1.more (by simp))).mono ?_); rintro e w1 ⟨A1, cap1, rfl, hcap1, hrd1, hb1⟩; obtain ⟨ad, rfl, _⟩ := hrd1.addr (by omega); have hz1 := Below.size hb1))
    have r1 := r0.below hb1 (by simp)
    have b1 : Below w.heap.size w w1 := ((Below.refl _ w).alloc (Nat.le_refl _) _).trans (hb1.mono (by simp))
    have hr1 := h.below b1
    have hrs : Rd w1 w1.heap.size (some ad) s.size (byteC s) := ((hrd1.part (by omega)).congr fun j hj => by unfold room; rw [if_pos hj])
    have hT1 : Tab w1 := hT.later b1 hT2
    have z1 : w.heap.size < w1.heap.size := r1.lt
    have L0 : ∀ x : Later w1, x.w.cell? ⟨w.heap.size, 0, none⟩ = some (.int .i64 err) := fun x => (x.cell z1).trans (r1.cell 0)
    have L1 : ∀ x : Later w1, x.w.cell? ⟨w.heap.size, 1, none⟩ = some (.int .i64 at_) := fun x => (x.cell z1).trans (r1.cell 1)
    have L2 : ∀ x : Later w1, x.w.cell? ⟨w.heap.size, 2, none⟩ = some (.string tx) := fun x => (x.cell z1).trans (r1.cell 2)
    have HA := Lib.hid (fun x : Later w1 => Output_any s (some ad) cap1 (by omega) (by omega) x.w ((hrs.below x.h).more x.h.size) err at_ tx (tab_later hT1 x))
    have HB := Lib.hid (fun x : Later w1 => rOutput_r s A c (by omega) hcap x.w ((hr1.below (x.h.mono (by omega))).more (by have := x.h.size; omega)) err at_ tx)
    have HS := Lib.hid (fun x : Later w1 => stands_b s (s.size + 1) s.size cap1 c rfl rfl (some ad) A hcap1 (by omega) x.w (hrd1.below x.h) (hr1.below (x.h.mono (by omega))))
    have HK := Lib.hid (fun x : Later w1 => known_any x.w (tab_later hT1 x))
    clear hrd1 hr1 hrs r0 r1 h h1 hb1
    refine wp_region_later w1 (Below.refl _ _) (by kernel_rfl) (by kernel_rfl) ?_
    repeat (first | go_big_quiet_step (first | with_reducible exact Later.call (HA.out _) | with_reducible exact Later.call (HB.out _) | with_reducible exact Later.call (HS.out _) | with_reducible exact Later.call (HK.out _)) | quiet_step (first | with_reducible exact Later.call (HA.out _) | with_reducible exact Later.call (HB.out _) | with_reducible exact Later.call (HS.out _) | with_reducible exact Later.call (HK.out _)))
    refine wpQuiet_nil ?_
    intro _ hw'
    obtain ⟨xq, hw''⟩ := hw'
    subst hw''
    go_wp2
    go_ret
    exact ⟨rfl, b1.trans (xq.h.mono (by omega))⟩
  · have i1 : ¬ ((s.size : Int) + (tx.size : Int)) ≤ 2500 := by omega
    go_enter Tryd.func3, Tryd.ntmps3
    go_wp2
    go_ret
    exact ⟨rfl, (by (repeat (first | (with_reducible exact Below.refl _ _) | (with_reducible assumption) | (with_reducible refine Below.setCell ?_ (by first | omega | (simp <;> omega)) _) | (with_reducible refine Below.alloc ?_ (by first | omega | (simp <;> omega)) _) | (with_reducible refine Below.drew ?_) | (with_reducible refine below_drewN ?_ _) | (with_reducible refine Below.trans ?_ (Below.mono (by with_reducible assumption) (by first | omega | (simp <;> omega)))))))⟩
end Go.Proofs.YtcphkdooemengaaDoor
