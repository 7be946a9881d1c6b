/- The walks of chapter 1's Lines: the iterator in a fence, and called with a plain function. -/
import Derived.Test.YtcphkdooemengaaDoorW4
import Derived.Test.YtcphkdooemengaaDoorLn2
import Derived.Test.YtcphkdooemengaaDoorShelf
namespace Go.Proofs.YtcphkdooemengaaDoor
set_option linter.unusedVariables false
set_option linter.unusedSimpArgs false
set_option linter.unnecessarySimpa false
open Go.RowKit
attribute [local go_sem] cell_alloc_add cell_set_add lt_more Oper.semAt_some
theorem data_from (s : ByteArray) (k : Nat) : (s.extract k s.size).data.toList = s.data.toList.drop k := by
  simp [ByteArray.data_extract, Array.toList_extract, List.extract_eq_take_drop]
  exact List.take_of_length_le (by simp)
theorem idx_hit {s : ByteArray} {k m : Nat} (hk : k ≤ s.size) (hm : lineEnd s k = k + m) (h : k + m < s.size) (w : World) :
    Calls Tryd.prog 51 #[.string (s.extract k s.size), .int .u8 10] w fun e w' => e = .returned (.int .i64 (m : Int)) ∧ w' = w := by
  have e : Lib.indexByte (s.extract k s.size).data.toList (10 : Int).toNat.toUInt8 = (m : Int) := by
    rw [data_from]
    have := line_index s _ k (Nat.le_refl _) hk
    rw [if_pos (by omega)] at this
    rw [show (10 : Int).toNat.toUInt8 = (10 : UInt8) from rfl, this]; omega
  have := Tryd.strings_IndexByte (s.extract k s.size) 10 w
  rwa [e] at this
theorem idx_miss {s : ByteArray} {k : Nat} (hk : k ≤ s.size) (h : ¬ lineEnd s k < s.size) (w : World) :
    Calls Tryd.prog 51 #[.string (s.extract k s.size), .int .u8 10] w fun e w' => e = .returned (.int .i64 (-1)) ∧ w' = w := by
  have e : Lib.indexByte (s.extract k s.size).data.toList (10 : Int).toNat.toUInt8 = -1 := by
    rw [data_from]
    have := line_index s _ k (Nat.le_refl _) hk
    rw [if_neg h] at this
    rw [show (10 : Int).toNat.toUInt8 = (10 : UInt8) from rfl, this]
  have := Tryd.strings_IndexByte (s.extract k s.size) 10 w
  rwa [e] at this
/-- What is handed on at a line. -/
def lnE (s : ByteArray) (x : Nat × Nat) : Array Value := #[.int .i64 (x.1 : Int), .string (s.extract x.1 x.2)]
set_option maxRecDepth 100000 in
set_option maxHeartbeats 1000000 in
theorem Lines_any (s : ByteArray) (A : Option Addr) (c : Nat) (w : World) {B : Nat} (h : Rd w B A s.size (byteC s)) :
    Calls Tryd.prog 31 #[.slice A s.size c] w fun e w' => e = .returned (.func (.func 50) #[] #[.pointer (some ⟨w.heap.size, 0, none⟩)]) ∧ w' = w.alloc (.cells #[.string s] 9) := by
  have kc := run_string_of (P := Tryd.prog) 22 9 5 c Tryd.underlying22 Tryd.underlying5 Tryd.underlying9 h
  go_enter Tryd.func31, Tryd.ntmps31
  go_wp2
  go_ret
  exact ⟨rfl, rfl⟩
theorem ln_pre {s : ByteArray} {pre : List (Nat × Nat)} {k : Nat} (h : AtLn s pre k) : pre ++ [(k, lineEnd s k)] <+: linesF s 0 := by
  rw [h.1]
  by_cases hl : lineEnd s k < s.size
  · rw [linesF_go h.2 hl]
    exact ⟨linesF s (lineEnd s k + 1), by simp⟩
  · rw [linesF_stop hl]
    exact List.prefix_refl _
set_option maxRecDepth 100000 in
set_option maxHeartbeats 4000000 in
theorem Lines1_in (n : Nat) (hn : 1 ≤ n) (l Bs : Nat) (s : ByteArray) (hs : s.size ≤ 140737488351232) (J Jx : List (Nat × Nat) → World → Prop) (hJ : ∃ B, AbidesFrom B J)
    (hY : ∀ pre x W, J pre W → pre.length < (linesF s 0).length → YieldAt Fence.wide (n - 1) Tryd.prog l (lnE s x) W fun e W' =>
      (e = .returned (.bool true) ∧ J (pre ++ [x]) W' ∧ KeepC Bs W W') ∨ (e = .returned (.bool false) ∧ Jx (pre ++ [x]) W'))
    (W : World) (hc : W.cell? ⟨Bs, 0, none⟩ = some (.string s)) (h0 : J [] W) :
    CallsIn Fence.wide n Tryd.prog 50 #[.func (.yield l) #[] #[], .pointer (some ⟨Bs, 0, none⟩)] W fun e W' => (∃ v, e = .returned v) ∧
      ((∃ ys, ys = linesF s 0 ∧ J ys W') ∨ (∃ pre, pre <+: linesF s 0 ∧ Jx pre W')) := by
  obtain ⟨BJ, hJ⟩ := hJ
  refine callsIn_of_wp Tryd.func50 rfl trivial ?_ rfl
  simp only [Tryd.ntmps50, List.size_toArray, List.length_cons, List.length_nil, Nat.reduceAdd, Nat.reduceSub, Array.replicate_succ, Array.replicate_zero, List.push_toArray, List.append_toArray, List.nil_append, List.cons_append]
  gi_wp2
  gi_loopw [3] (fun i wr => ∃ (pre : List (Nat × Nat)) (k : Nat), i = .int .i64 k ∧ AtLn s pre k ∧ J pre wr ∧ wr.cell? ⟨Bs, 0, none⟩ = some (.string s)) (fun i _ => s.size + 1 - (intOf i).toNat)
  case atStart => exact ⟨[], 0, rfl, AtLn.start s, h0, hc⟩
  case round =>
    obtain ⟨pre, k, rfl, hp, hj, hcr⟩ := hrel
    have hBs := cell_lt hcr
    have hk := hp.2
    have hpl := hp.len
    have hpp := ln_pre hp
    have hbd := lineEnd_bd s _ k (Nat.le_refl _) hk
    have hY1 := hY pre (k, lineEnd s k) wr hj hpl
    obtain ⟨m, hm⟩ : ∃ m, lineEnd s k = k + m := ⟨lineEnd s k - k, by omega⟩
    by_cases hlt : k + m < s.size
    · have hst := hp.step (by omega)
      rw [hm] at hst hpp hY1 hbd
      obtain ⟨fn, tmps, assign, body, hy, hR⟩ := hY1
      dsimp only [lnE] at hy
      have HI := Lib.hid (@idx_hit s k m hk hm hlt)
      have HP := Lib.hid hpp
      have HS := Lib.hid hst
      clear hm hpp hst hY
      gi_wp2_with (first
        | (refine ⟨trivial, ?_⟩; gi_at_call 51; (with_reducible refine (callsIn_wide.2 (HI.out wr)).mono ?_); rintro e w1 ⟨rfl, rfl⟩))
      all_goals
        refine hR.mono ?_
        rintro e W3 (⟨rfl, hJ3, hk3⟩ | ⟨rfl, hJx3⟩)
        · have hc3 := hk3 _ hcr
          gi_wp2
          go_roundw
          case rel => exact ⟨_, k + m + 1, by go_num, HS.out, hJ3, hc3⟩
          case measure => simp [intOf]; omega
        · gi_wp2
          refine bodyPost_ret (results_none rfl _ _ _) rfl ?_
          exact ⟨⟨_, rfl⟩, .inr ⟨_, HP.out, hJx3⟩⟩
    · have hla := hp.last (by omega)
      rw [hla.2] at hY1 hpp hla
      obtain ⟨fn, tmps, assign, body, hy, hR⟩ := hY1
      dsimp only [lnE] at hy
      have HI := Lib.hid (@idx_miss s k hk (by omega))
      have HP := Lib.hid hpp
      have HS := Lib.hid hla.1
      clear hm hpp hla hY hlt
      gi_wp2_with (first
        | (refine ⟨trivial, ?_⟩; gi_at_call 51; (with_reducible refine (callsIn_wide.2 (HI.out wr)).mono ?_); rintro e w1 ⟨rfl, rfl⟩))
      all_goals
        refine hR.mono ?_
        rintro e W3 (⟨rfl, hJ3, hk3⟩ | ⟨rfl, hJx3⟩)
        · gi_wp2
          refine bodyPost_ret (results_none rfl _ _ _) rfl ?_
          exact ⟨⟨_, rfl⟩, .inl ⟨_, HS.out.symm, hJ3⟩⟩
        · gi_wp2
          refine bodyPost_ret (results_none rfl _ _ _) rfl ?_
          exact ⟨⟨_, rfl⟩, .inr ⟨_, HP.out, hJx3⟩⟩
theorem Lines_stops (n : Nat) (hn : 1 ≤ n) (Bs : Nat) (s : ByteArray) (hs : s.size ≤ 140737488351232) (w : World) (hc : w.cell? ⟨Bs, 0, none⟩ = some (.string s)) :
    SeqStopsK Fence.wide n Tryd.prog 50 #[.pointer (some ⟨Bs, 0, none⟩)] (lnE s) (KeepC Bs) (fun ys => ys = linesF s 0) (fun pre => pre <+: linesF s 0) (linesF s 0).length w := fun l J Jx W hW hJ _ hY h0 =>
  Lines1_in n hn l Bs s hs J Jx ⟨_, hJ⟩ hY W (keepC_below hW (cell_lt hc) _ hc) h0
set_option maxRecDepth 100000 in
set_option maxHeartbeats 4000000 in
theorem Lines1_call (F : FuncId) (caps : Array Value) (Bs : Nat) (s : ByteArray) (hs : s.size ≤ 140737488351232) (J Jx : List (Nat × Nat) → World → Prop)
    (hF : ∀ args w, (callFunc F args).run Tryd.prog w = .ok (.enter F args) w)
    (hY : ∀ pre x W, J pre W → pre ++ [x] <+: linesF s 0 → Calls Tryd.prog F (lnE s x ++ caps) W fun e W' =>
      (e = .returned (.bool true) ∧ J (pre ++ [x]) W' ∧ KeepC Bs W W') ∨ (e = .returned (.bool false) ∧ Jx (pre ++ [x]) W'))
    (W : World) (hc : W.cell? ⟨Bs, 0, none⟩ = some (.string s)) (h0 : J [] W) :
    Calls Tryd.prog 50 #[.func (.func F) #[] caps, .pointer (some ⟨Bs, 0, none⟩)] W fun e W' => (∃ v, e = .returned v) ∧
      (J (linesF s 0) W' ∨ (∃ pre, Jx pre W')) := by
  go_enter Tryd.func50, Tryd.ntmps50
  go_wp2
  go_loopw [3] (fun i wr => ∃ (pre : List (Nat × Nat)) (k : Nat), i = .int .i64 k ∧ AtLn s pre k ∧ J pre wr ∧ wr.cell? ⟨Bs, 0, none⟩ = some (.string s)) (fun i _ => s.size + 1 - (intOf i).toNat)
  case atStart => exact ⟨[], 0, rfl, AtLn.start s, h0, hc⟩
  case round =>
    obtain ⟨pre, k, rfl, hp, hj, hcr⟩ := hrel
    have hBs := cell_lt hcr
    have hk := hp.2
    have hpp := ln_pre hp
    have hbd := lineEnd_bd s _ k (Nat.le_refl _) hk
    have hY1 := hY pre (k, lineEnd s k) wr hj hpp
    obtain ⟨m, hm⟩ : ∃ m, lineEnd s k = k + m := ⟨lineEnd s k - k, by omega⟩
    by_cases hlt : k + m < s.size
    · have hst := hp.step (by omega)
      rw [hm] at hst hY1 hbd
      dsimp only [lnE] at hY1
      have HI := Lib.hid (@idx_hit s k m hk hm hlt)
      have HS := Lib.hid hst
      have HY := Lib.hid hY1
      clear hm hpp hst hY hY1
      go_wp2_with (first
        | (go_at_call 51; (with_reducible refine (HI.out wr).mono ?_); rintro e w1 ⟨rfl, rfl⟩)
        | ((with_reducible refine HY.out.mono ?_); rintro e W3 (⟨rfl, hJ3, hk3⟩ | ⟨rfl, hJx3⟩)))
      all_goals first
        | (have hc3 := hk3 _ hcr
           exact ⟨⟨_, k + m + 1, by go_num, HS.out, hJ3, hc3⟩, by simp [intOf]; omega⟩)
        | (refine bodyPost_ret (results_none rfl _ _ _) rfl ?_
           exact ⟨⟨_, rfl⟩, .inr ⟨_, hJx3⟩⟩)
    · have hla := hp.last (by omega)
      rw [hla.2] at hY1 hla
      dsimp only [lnE] at hY1
      have HI := Lib.hid (@idx_miss s k hk (by omega))
      have HS := Lib.hid hla.1
      have HY := Lib.hid hY1
      clear hm hpp hla hY hlt hY1
      go_wp2_with (first
        | (go_at_call 51; (with_reducible refine (HI.out wr).mono ?_); rintro e w1 ⟨rfl, rfl⟩)
        | ((with_reducible refine HY.out.mono ?_); rintro e W3 (⟨rfl, hJ3, hk3⟩ | ⟨rfl, hJx3⟩)))
      all_goals first
        | (refine bodyPost_ret (results_none rfl _ _ _) rfl ?_
           exact ⟨⟨_, rfl⟩, .inl (by rw [HS.out]; exact hJ3)⟩)
        | (refine bodyPost_ret (results_none rfl _ _ _) rfl ?_
           exact ⟨⟨_, rfl⟩, .inr ⟨_, hJx3⟩⟩)
end Go.Proofs.YtcphkdooemengaaDoor
