/- The walks of chapter 19's law helpers: bytes, roomy, stands. -/
import Derived.Test.YtcphkdooemengaaDoorW2
import Derived.Test.YtcphkdooemengaaDoorConv
import Derived.Test.YtcphkdooemengaaDoorApp
import Derived.Deep.QuietTactic
import Derived.BigQuiet
namespace Go.Proofs.YtcphkdooemengaaDoor
set_option linter.unusedVariables false
set_option linter.unusedSimpArgs false
set_option linter.unnecessarySimpa false
open Go.RowKit
attribute [local go_sem] cell_alloc_add cell_set_add lt_more
theorem infoByte : (Tryd.prog.info? 5).map (fun i => (i.zero, i.size, i.bytes)) = some (some (.int .u8 0), 1, 1) := by kernel_rfl
/-- A text, and a byte behind it that marks the room. -/
def room (s : ByteArray) (j : Nat) : Value := if j < s.size then byteC s j else .int .u8 171
theorem byteC_one (s : ByteArray) (j : Nat) : (byteC s j).oneCell' = true := rfl

set_option maxRecDepth 100000 in
set_option maxHeartbeats 1000000 in
theorem bytes_same (s : ByteArray) (n m c d : Nat) (hn : n = s.size) (hm : m = s.size) (A A' : Option Addr) (hs : s.size ≤ 140737488351232) (w : World) {B B' : Nat} (h : Rd w B A n (byteC s)) (h' : Rd w B' A' m (byteC s)) :
    Calls Tryd.prog 27 #[.slice A n c, .slice A' m d] w fun e w' => e = .returned (.bool true) ∧ ∃ k, w' = w.drewN k := by
  subst hm
  have hnn := Lib.hid hn
  have hn1 : n ≤ s.size := by omega
  have hn2 : s.size ≤ n := by omega
  clear hn
  have hne : ((n : Int) != (s.size : Int)) = false := by simp; omega
  go_enter Tryd.func27, Tryd.ntmps27
  go_wp2
  go_loopw [5] (fun i wr => ∃ (k j : Nat), k ≤ n ∧ i = .int .i64 k ∧ wr = w.drewN j) (fun i _ => n - (intOf i).toNat)
  case atStart => exact ⟨0, 0, Nat.zero_le _, rfl, rfl⟩
  case round =>
    obtain ⟨k, j, hk, rfl, rfl⟩ := hrel
    by_cases hlt : k < n
    · obtain ⟨ad, rfl, _, hc⟩ := h k hlt
      obtain ⟨ad', rfl, _, hc'⟩ := h' k (by omega)
      unfold byteC at hc hc'
      have c1 : (w.drewN j).cell? (ad.add k) = some (.int .u8 (bt s k : Int)) := hc
      have c2 : (w.drewN j).cell? (ad'.add k) = some (.int .u8 (bt s k : Int)) := hc'
      have i1 : (k : Int) < (n : Int) := by omega
      have i2 : (k : Int) < (s.size : Int) := by omega
      have i0 : (0 : Int) ≤ (k : Int) := by omega
      go_wp2
      go_quiet (fail)
      go_wp2
      go_roundw
      case rel => exact ⟨k + 1, _, by omega, by go_num, rfl⟩
      case measure => simp [intOf]; omega
    · go_wp2
      go_ret
      exact ⟨rfl, j, rfl⟩

theorem room_xs (s : ByteArray) (j : Nat) (hj : j < s.size + 1 + 1) : ((#[] : Array Value).toList ++ firsts (byteC s) s.size ++ firsts (fun _ => Value.int .u8 171) 1 ++ firsts (fun _ => Value.int .u8 171) 1)[j]? = some (room s j) := by
  have hl : (firsts (byteC s) s.size).length = s.size := firsts_len _ _
  have h1 : firsts (fun _ => Value.int .u8 171) 1 = [Value.int .u8 171] := rfl
  rw [h1]
  simp only [List.nil_append]
  unfold room
  by_cases hlt : j < s.size
  · rw [if_pos hlt, List.getElem?_append_left (by simp [hl]; omega), List.getElem?_append_left (by omega), firsts_at hlt]
  · rw [if_neg hlt]
    rcases (by omega : j = s.size ∨ j = s.size + 1) with rfl | rfl
    · rw [List.getElem?_append_left (by simp [hl]), List.getElem?_append_right (by omega), hl, Nat.sub_self]; rfl
    · rw [List.getElem?_append_right (by simp [hl])]; simp [hl]
set_option maxRecDepth 100000 in
set_option maxHeartbeats 1000000 in
theorem roomy_any (s : ByteArray) (A : Option Addr) (c : Nat) (hs : s.size ≤ 17592186044416) (w : World) (h : Rd w w.heap.size A s.size (byteC s)) :
    Calls Tryd.prog 6 #[.slice A s.size c] w fun e w' => ∃ A' cap, e = .returned (.slice A' (s.size + 1) cap) ∧ s.size + 1 ≤ cap ∧ Rd w' w'.heap.size A' (s.size + 1) (room s) ∧ Below w.heap.size w w' := by
  obtain ⟨i0, hi, hz0, hz1, hz2⟩ := info_parts infoByte
  go_enter Tryd.func6, Tryd.ntmps6
  go_wp2_with (first
    | (at_builtin; refine wpList_append_rd _ rfl (.tmp 3) (.tmp 4) _ rfl w.heap.size 5 i0 _ 1 Tryd.underlying22 hi hz0 hz1 hz2 rfl _ 0 [] rfl (own_new (n := 0) rfl (Nat.le_refl _) (by decide)) _ A s.size c (byteC s) rfl (h.alloc (Nat.le_refl _) _) (byteC_one s) (by simp only [maxLen]; omega) (by omega) (by first | omega | (simp; done) | (simp; omega)) ?_; intro v1 w1 hown1 hg1 hat1; have hb1 : Below w.heap.size w w1 := ((Below.refl _ w).alloc (Nat.le_refl _) _).grown hg1 (by simp) (ob_ge (Nat.le_refl _)); have hz1' := hb1.size; have hv1 : ∀ k, v1.ownBlock = some k → w.heap.size ≤ k := ob_or hat1 (ob_ge (Nat.le_refl _)) (by simp))
    | (at_builtin; refine wpList_append_rd _ rfl (.tmp 5) (.tmp 6) _ rfl w.heap.size 5 i0 _ 1 Tryd.underlying22 hi hz0 hz1 hz2 rfl v1 _ _ rfl (hown1.alloc _) _ _ 1 1 _ rfl (rd_one w1 5 (.int .u8 171)) (fun _ => rfl) (by simp only [maxLen]; omega) (by omega) (by first | omega | (simp; done) | (simp; omega)) ?_; intro v2 w2 hown2 hg2 hat2; have hb2 : Below w.heap.size w w2 := (hb1.alloc hz1' _).grown hg2 (by simp; omega) hv1; have hz2' := hb2.size; have hv2 : ∀ k, v2.ownBlock = some k → w.heap.size ≤ k := ob_or hat2 hv1 (by simp; omega))
    | (at_builtin; refine wpList_append_rd _ rfl (.tmp 7) (.tmp 8) _ rfl w.heap.size 5 i0 _ 1 Tryd.underlying22 hi hz0 hz1 hz2 rfl v2 _ _ rfl (hown2.alloc _) _ _ 1 1 _ rfl (rd_one w2 5 (.int .u8 171)) (fun _ => rfl) (by simp only [maxLen]; omega) (by omega) (by first | omega | (simp; done) | (simp; omega)) ?_; intro v3 w3 hown3 hg3 hat3; have hb3 : Below w.heap.size w w3 := (hb2.alloc hz2' _).grown hg3 (by simp; omega) hv2; obtain ⟨A3, c3, hv3, hc3, hrd3⟩ := rd_own hown3; subst hv3))
  go_ret
  exact ⟨A3, c3, rfl, by omega, (hrd3 (room s) (fun j hj => by simpa using room_xs s j (by omega))).part (by omega), hb3⟩

set_option maxRecDepth 100000 in
set_option maxHeartbeats 1000000 in
theorem stands_any (s : ByteArray) (n m d e : Nat) (hn : n = s.size + 1) (hm : m = s.size) (A A' : Option Addr) (hd : s.size + 1 ≤ d) (hs : s.size ≤ 17592186044416) (w : World) {B B' : Nat} (h : Rd w B A (s.size + 1) (room s)) (h' : Rd w B' A' s.size (byteC s)) :
    Calls Tryd.prog 9 #[.slice A n d, .slice A' m e] w fun e w' => e = .returned (.bool true) ∧ ∃ k, w' = w.drewN k := by
  subst hn hm
  obtain ⟨ad, rfl, _, hc⟩ := h s.size (by omega)
  have hc2 : w.cell? (ad.add s.size) = some (.int .u8 171) := by rw [hc]; unfold room; rw [if_neg (by omega)]
  clear hc
  have hr : Rd w B (some ad) s.size (byteC s) := (h.part (by omega)).congr fun j hj => by unfold room; rw [if_pos hj]
  go_enter Tryd.func9, Tryd.ntmps9
  go_wp2_with (go_at_call 27; (with_reducible refine (bytes_same s _ _ _ _ rfl rfl _ _ (by omega) _ hr h').mono ?_); rintro e w1 ⟨rfl, k, rfl⟩; have hc3 : (w.drewN k).cell? (ad.add s.size) = some (.int .u8 171) := hc2)
  go_ret
  exact ⟨rfl, k, rfl⟩
end Go.Proofs.YtcphkdooemengaaDoor
