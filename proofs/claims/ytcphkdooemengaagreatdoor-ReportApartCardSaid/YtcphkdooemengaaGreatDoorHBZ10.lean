/- Some texts of this claim, put together. -/
import Derived.Test.YtcphkdooemengaaGreatDoorHPgDec
import Derived.Test.YtcphkdooemengaaGreatDoorHBZ11
import Derived.RangeFuncNested
import Derived.RangeFuncBound
import Derived.RangeFuncCalls
import Derived.RangeFuncLeaves
import Derived.Shelf.Abstract
import Derived.Shelf.RegionOpen
import Derived.OwnWalkIn
import Derived.TacticsInMore
import Derived.LoopNIn
import Derived.LoopIn
import Derived.Test.YtcphkdooemengaaGreatDoorHBZ7
import Derived.Test.YtcphkdooemengaaGreatDoorShelf
namespace Go.Proofs.YtcphkdooemengaaGreatDoor
section
set_option linter.unusedVariables false
set_option linter.unusedSimpArgs false
set_option linter.unnecessarySimpa false
open Go.RowKit
attribute [local go_sem] cell_alloc_add cell_set_add lt_more Oper.semAt_some

set_option maxRecDepth 100000 in
set_option maxHeartbeats 1000000 in
theorem Runes_any (s : ByteArray) (A : Option Addr) (c : Nat) (w : World) {B : Nat} (h : Rd w B A s.size (byteC s)) :
    Calls Tryz.prog 35 #[.slice A s.size c] w fun e w' => e = .returned (.func (.func 59) #[] #[.pointer (some ⟨w.heap.size, 0, none⟩)]) ∧ w' = w.alloc (.cells #[.string s] 9) := by
  have kc := run_string_of (P := Tryz.prog) 40 9 5 c Tryz.underlying40 Tryz.underlying5 Tryz.underlying9 h
  go_enter Tryz.func35, Tryz.ntmps35
  go_wp2
  go_ret
  exact ⟨rfl, rfl⟩

theorem Runes_at (s : ByteArray) (A : Option Addr) (c n : Nat) (hn : n = s.size) (w : World) {B : Nat} (h : Rd w B A n (byteC s)) :
    Calls Tryz.prog 35 #[.slice A n c] w fun e w' => e = .returned (.func (.func 59) #[] #[.pointer (some ⟨w.heap.size, 0, none⟩)]) ∧ w' = w.alloc (.cells #[.string s] 9) := by
  subst hn; exact Runes_any s A c w h
theorem DecW4 (s : ByteArray) (k : Nat) (hk : k < s.size) (hs : s.size ≤ 140737488351232) (hi m cap : Nat) (w : World) (fr : Nat × Nat) (hhi : hi = min s.size (k + 4)) (hm : m = hi - k) (hcap : m ≤ cap) :
    Calls Tryz.prog 60 #[.slice (some ⟨w.heap.size, 0, none⟩) m cap, .int .i64 0] (w.alloc (.cells (bytesRow (s.extract k hi) cap) 5 fr)).drew
      fun e w' => e = .returned (.tuple #[.int .i32 (rn s k : Int), .int .i64 (wd s k : Int), .bool (gd s k)]) ∧ w.grownBy w' none ∧ Below w.heap.size w w' := by
  have hsz : (s.extract k hi).size = m := by rw [ByteArray.size_extract]; omega
  have hrd := (rd_row w (s.extract k hi) cap 5 fr).drew
  have hd := Decode_any (s.extract k hi) (some ⟨w.heap.size, 0, none⟩) cap 0 (by omega) (by omega) _ hrd
  rw [hsz] at hd
  obtain ⟨e1, e2, e3⟩ := dec_window hk
  rw [← hhi] at e1 e2 e3
  refine hd.mono fun e w' ⟨he, hw⟩ => ⟨?_, ?_, ?_⟩
  · rw [he]; exact ret_iib (by rw [← e1]; exact decR_in (i := 0) (by omega)) (by rw [← e2]; exact decN_in (i := 0) (by omega)) (by rw [← e3]; exact decG_in (i := 0) (by omega))
  · subst hw; exact ⟨rfl, rfl, rfl, by simp, fun i hi _ => Below.heap_alloc w _ i hi⟩
  · subst hw; exact ((Below.refl _ _).alloc (Nat.le_refl _) _).drew

/-- One cell stands. -/
def KeepC (b : Nat) (W W' : World) : Prop := ∀ v, W.cell? ⟨b, 0, none⟩ = some v → W'.cell? ⟨b, 0, none⟩ = some v
theorem keepC_t {b : Nat} {A B C : World} (h : KeepC b A B) (k : KeepC b B C) : KeepC b A C := fun v hv => k v (h v hv)
theorem keepC_b {b : Nat} {w : World} (W : World) (l : Nat) (o o' : Obj) (_ : w.heap.size ≤ l) (h : W.heap[l]? = some o) (ho : o.isCells = false) (_ : o.isWalk = false) : KeepC b W (W.putObj l o') := fun v hv =>
  cell_kept hv (grownBy_putObj' _ l o') (fun r e => by cases e; exact ⟨_, h, ho⟩)
theorem cell_lt {W : World} {b o : Nat} {v : Value} (h : W.cell? ⟨b, o, none⟩ = some v) : b < W.heap.size := by
  rcases Nat.lt_or_ge b W.heap.size with hl | hg
  · exact hl
  · simp [World.cell?, Array.getElem?_eq_none hg] at h
theorem keepC_below {b B : Nat} {A C : World} (h : Below B A C) (hb : b < B) : KeepC b A C := fun v hv => (h.cell (p := ⟨b, 0, none⟩) hb).trans hv

set_option maxRecDepth 100000 in
set_option maxHeartbeats 1000000 in
theorem Runes1_in (n : Nat) (hn : 1 ≤ n) (l Bs : Nat) (s : ByteArray) (hs : s.size ≤ 140737488351232) (J Jx : List (Pl s) → World → Prop) (hJ : ∃ B, AbidesFrom B J)
    (hY : ∀ pre x W, J pre W → pre.length < s.size → YieldAt Fence.wide (n - 1) Tryz.prog l (plE s x) W fun e W' =>
      (e = .returned (.bool true) ∧ J (pre ++ [x]) W' ∧ KeepC Bs W W') ∨ (e = .returned (.bool false) ∧ Jx (pre ++ [x]) W'))
    (W : World) (hc : W.cell? ⟨Bs, 0, none⟩ = some (.string s)) (h0 : J [] W) :
    CallsIn Fence.wide n Tryz.prog 59 #[.func (.yield l) #[] #[], .pointer (some ⟨Bs, 0, none⟩)] W fun e W' => (∃ v, e = .returned v) ∧
      ((∃ ys, ys = plL s (places s) ∧ J ys W') ∨ (∃ pre, pre <+: plL s (places s) ∧ Jx pre W')) := by
  obtain ⟨BJ, hJ⟩ := hJ
  have kb := fun (w : World) (x : ByteArray) => run_bytes_of_string (P := Tryz.prog) w 9 40 5 x Tryz.underlying9 Tryz.underlying40 Tryz.underlying5
  refine callsIn_of_wp Tryz.func59 rfl trivial ?_ rfl
  simp only [Tryz.ntmps59, List.size_toArray, List.length_cons, List.length_nil, Nat.reduceAdd, Nat.reduceSub, Array.replicate_succ, Array.replicate_zero, List.push_toArray, List.append_toArray, List.nil_append, List.cons_append]
  gi_wp2
  gi_loopw [3] (fun i wr => ∃ (pre : List Nat) (k : Nat), i = .int .i64 k ∧ AtPlace s pre k ∧ J (plL s pre) wr ∧ wr.cell? ⟨Bs, 0, none⟩ = some (.string s)) (fun i _ => s.size - (intOf i).toNat)
  case atStart => exact ⟨[], 0, rfl, AtPlace.start s, h0, hc⟩
  case round =>
    obtain ⟨pre, k, rfl, hp, hj, hcr⟩ := hrel
    have hBs := cell_lt hcr
    have hk := hp.2
    by_cases hlt : k < s.size
    · have hw1 := wd_bd hlt
      gi_wp2_with (first
        | (refine ⟨trivial, ?_⟩; gi_at_call 60; (with_reducible refine (callsIn_wide.2 (DecW4 s k hlt hs _ _ _ wr _ (by omega) (by omega) (by first | exact grownCap_ge _ _ _ _ | omega))).mono ?_); rintro e w1 ⟨rfl, hg1, hb1⟩; obtain ⟨fn, tmps, assign, body, hy, hR⟩ := hY (plL s pre) ⟨k, hlt⟩ w1 (hJ _ _ _ none hj hg1 (fun r e => by cases e)) (plL_len hp hlt); dsimp only [plE] at hy))
      all_goals
        have hc1 := keepC_below hb1 hBs _ hcr
        refine hR.mono ?_
        rintro e W3 (⟨rfl, hJ3, hk3⟩ | ⟨rfl, hJx3⟩)
        · have hc3 := hk3 _ hc1
          gi_wp2
          go_roundw
          case rel => exact ⟨pre ++ [k], k + wd s k, by go_num, hp.step hlt, by rw [plL_snoc hlt]; exact hJ3, hc3⟩
          case measure => simp [intOf]; omega
        · gi_wp2
          refine bodyPost_ret (results_none rfl _ _ _) rfl ?_
          exact ⟨⟨_, rfl⟩, .inr ⟨plL s (pre ++ [k]), plL_pre (hp.step hlt), by rw [plL_snoc hlt]; exact hJx3⟩⟩
    · gi_wp2
      go_end0
      exact ⟨⟨_, rfl⟩, .inl ⟨_, rfl, by rw [← hp.fin hlt]; exact hj⟩⟩
theorem Runes_stops (n : Nat) (hn : 1 ≤ n) (Bs : Nat) (s : ByteArray) (hs : s.size ≤ 140737488351232) (w : World) (hc : w.cell? ⟨Bs, 0, none⟩ = some (.string s)) :
    SeqStopsK Fence.wide n Tryz.prog 59 #[.pointer (some ⟨Bs, 0, none⟩)] (plE s) (KeepC Bs) (fun ys => ys = plL s (places s)) (fun pre => pre <+: plL s (places s)) s.size w := fun l J Jx W hW hJ _ hY h0 =>
  Runes1_in n hn l Bs s hs J Jx ⟨_, hJ⟩ hY W (keepC_below hW (cell_lt hc) _ hc) h0
end
section
set_option linter.unusedVariables false
set_option linter.unusedSimpArgs false
set_option linter.unnecessarySimpa false
open Go.RowKit
attribute [local go_sem] cell_alloc_add cell_set_add lt_more Oper.semAt_some
theorem data_from (s : ByteArray) (k : Nat) : (s.extract k s.size).data.toList = s.data.toList.drop k := by
  simp [ByteArray.data_extract, Array.toList_extract, List.extract_eq_take_drop]
  exact List.take_of_length_le (by simp)
theorem idx_hit {s : ByteArray} {k m : Nat} (hk : k ≤ s.size) (hm : lnEnd s k = k + m) (h : k + m < s.size) (w : World) :
    Calls Tryz.prog 97 #[.string (s.extract k s.size), .int .u8 10] w fun e w' => e = .returned (.int .i64 (m : Int)) ∧ w' = w := by
  have e : Lib.indexByte (s.extract k s.size).data.toList (10 : Int).toNat.toUInt8 = (m : Int) := by
    rw [data_from]
    have := line_index s _ k (Nat.le_refl _) hk
    rw [if_pos (by omega)] at this
    rw [show (10 : Int).toNat.toUInt8 = (10 : UInt8) from rfl, this]; omega
  have := Tryz.strings_IndexByte (s.extract k s.size) 10 w
  rwa [e] at this
theorem idx_miss {s : ByteArray} {k : Nat} (hk : k ≤ s.size) (h : ¬ lnEnd s k < s.size) (w : World) :
    Calls Tryz.prog 97 #[.string (s.extract k s.size), .int .u8 10] w fun e w' => e = .returned (.int .i64 (-1)) ∧ w' = w := by
  have e : Lib.indexByte (s.extract k s.size).data.toList (10 : Int).toNat.toUInt8 = -1 := by
    rw [data_from]
    have := line_index s _ k (Nat.le_refl _) hk
    rw [if_neg h] at this
    rw [show (10 : Int).toNat.toUInt8 = (10 : UInt8) from rfl, this]
  have := Tryz.strings_IndexByte (s.extract k s.size) 10 w
  rwa [e] at this
/-- What is handed on at a line. -/
def lnE (s : ByteArray) (x : Nat × Nat) : Array Value := #[.int .i64 (x.1 : Int), .string (s.extract x.1 x.2)]
set_option maxRecDepth 100000 in
set_option maxHeartbeats 1000000 in
theorem Lines_any (s : ByteArray) (A : Option Addr) (c : Nat) (w : World) {B : Nat} (h : Rd w B A s.size (byteC s)) :
    Calls Tryz.prog 65 #[.slice A s.size c] w fun e w' => e = .returned (.func (.func 96) #[] #[.pointer (some ⟨w.heap.size, 0, none⟩)]) ∧ w' = w.alloc (.cells #[.string s] 9) := by
  have kc := run_string_of (P := Tryz.prog) 40 9 5 c Tryz.underlying40 Tryz.underlying5 Tryz.underlying9 h
  go_enter Tryz.func65, Tryz.ntmps65
  go_wp2
  go_ret
  exact ⟨rfl, rfl⟩
theorem ln_pre {s : ByteArray} {pre : List (Nat × Nat)} {k : Nat} (h : AtLn s pre k) : pre ++ [(k, lnEnd s k)] <+: linesF s 0 := by
  rw [h.1]
  by_cases hl : lnEnd s k < s.size
  · rw [linesF_go h.2 hl]
    exact ⟨linesF s (lnEnd s k + 1), by simp⟩
  · rw [linesF_stop hl]
    exact List.prefix_refl _
set_option maxRecDepth 100000 in
set_option maxHeartbeats 4000000 in
theorem Lines1_in (n : Nat) (hn : 1 ≤ n) (l Bs : Nat) (s : ByteArray) (hs : s.size ≤ 140737488351232) (J Jx : List (Nat × Nat) → World → Prop) (hJ : ∃ B, AbidesFrom B J)
    (hY : ∀ pre x W, J pre W → pre.length < (linesF s 0).length → YieldAt Fence.wide (n - 1) Tryz.prog l (lnE s x) W fun e W' =>
      (e = .returned (.bool true) ∧ J (pre ++ [x]) W' ∧ KeepC Bs W W') ∨ (e = .returned (.bool false) ∧ Jx (pre ++ [x]) W'))
    (W : World) (hc : W.cell? ⟨Bs, 0, none⟩ = some (.string s)) (h0 : J [] W) :
    CallsIn Fence.wide n Tryz.prog 96 #[.func (.yield l) #[] #[], .pointer (some ⟨Bs, 0, none⟩)] W fun e W' => (∃ v, e = .returned v) ∧
      ((∃ ys, ys = linesF s 0 ∧ J ys W') ∨ (∃ pre, pre <+: linesF s 0 ∧ Jx pre W')) := by
  obtain ⟨BJ, hJ⟩ := hJ
  refine callsIn_of_wp Tryz.func96 rfl trivial ?_ rfl
  simp only [Tryz.ntmps96, List.size_toArray, List.length_cons, List.length_nil, Nat.reduceAdd, Nat.reduceSub, Array.replicate_succ, Array.replicate_zero, List.push_toArray, List.append_toArray, List.nil_append, List.cons_append]
  gi_wp2
  gi_loopw [3] (fun i wr => ∃ (pre : List (Nat × Nat)) (k : Nat), i = .int .i64 k ∧ AtLn s pre k ∧ J pre wr ∧ wr.cell? ⟨Bs, 0, none⟩ = some (.string s)) (fun i _ => s.size + 1 - (intOf i).toNat)
  case atStart => exact ⟨[], 0, rfl, AtLn.start s, h0, hc⟩
  case round =>
    obtain ⟨pre, k, rfl, hp, hj, hcr⟩ := hrel
    have hBs := cell_lt hcr
    have hk := hp.2
    have hpl := hp.len
    have hpp := ln_pre hp
    have hbd := lnEnd_bd s _ k (Nat.le_refl _) hk
    have hY1 := hY pre (k, lnEnd s k) wr hj hpl
    obtain ⟨m, hm⟩ : ∃ m, lnEnd s k = k + m := ⟨lnEnd s k - k, by omega⟩
    by_cases hlt : k + m < s.size
    · have hst := hp.step (by omega)
      rw [hm] at hst hpp hY1 hbd
      obtain ⟨fn, tmps, assign, body, hy, hR⟩ := hY1
      dsimp only [lnE] at hy
      have HI := Lib.hid (@idx_hit s k m hk hm hlt)
      have HP := Lib.hid hpp
      have HS := Lib.hid hst
      clear hm hpp hst hY
      gi_wp2_with (first
        | (refine ⟨trivial, ?_⟩; gi_at_call 97; (with_reducible refine (callsIn_wide.2 (HI.out wr)).mono ?_); rintro e w1 ⟨rfl, rfl⟩))
      all_goals
        refine hR.mono ?_
        rintro e W3 (⟨rfl, hJ3, hk3⟩ | ⟨rfl, hJx3⟩)
        · have hc3 := hk3 _ hcr
          gi_wp2
          go_roundw
          case rel => exact ⟨_, k + m + 1, by go_num, HS.out, hJ3, hc3⟩
          case measure => simp [intOf]; omega
        · gi_wp2
          refine bodyPost_ret (results_none rfl _ _ _) rfl ?_
          exact ⟨⟨_, rfl⟩, .inr ⟨_, HP.out, hJx3⟩⟩
    · have hla := hp.last (by omega)
      rw [hla.2] at hY1 hpp hla
      obtain ⟨fn, tmps, assign, body, hy, hR⟩ := hY1
      dsimp only [lnE] at hy
      have HI := Lib.hid (@idx_miss s k hk (by omega))
      have HP := Lib.hid hpp
      have HS := Lib.hid hla.1
      clear hm hpp hla hY hlt
      gi_wp2_with (first
        | (refine ⟨trivial, ?_⟩; gi_at_call 97; (with_reducible refine (callsIn_wide.2 (HI.out wr)).mono ?_); rintro e w1 ⟨rfl, rfl⟩))
      all_goals
        refine hR.mono ?_
        rintro e W3 (⟨rfl, hJ3, hk3⟩ | ⟨rfl, hJx3⟩)
        · gi_wp2
          refine bodyPost_ret (results_none rfl _ _ _) rfl ?_
          exact ⟨⟨_, rfl⟩, .inl ⟨_, HS.out.symm, hJ3⟩⟩
        · gi_wp2
          refine bodyPost_ret (results_none rfl _ _ _) rfl ?_
          exact ⟨⟨_, rfl⟩, .inr ⟨_, HP.out, hJx3⟩⟩
theorem Lines_stops (n : Nat) (hn : 1 ≤ n) (Bs : Nat) (s : ByteArray) (hs : s.size ≤ 140737488351232) (w : World) (hc : w.cell? ⟨Bs, 0, none⟩ = some (.string s)) :
    SeqStopsK Fence.wide n Tryz.prog 96 #[.pointer (some ⟨Bs, 0, none⟩)] (lnE s) (KeepC Bs) (fun ys => ys = linesF s 0) (fun pre => pre <+: linesF s 0) (linesF s 0).length w := fun l J Jx W hW hJ _ hY h0 =>
  Lines1_in n hn l Bs s hs J Jx ⟨_, hJ⟩ hY W (keepC_below hW (cell_lt hc) _ hc) h0
set_option maxRecDepth 100000 in
set_option maxHeartbeats 4000000 in
theorem Lines1_call (F : FuncId) (caps : Array Value) (Bs : Nat) (s : ByteArray) (hs : s.size ≤ 140737488351232) (J Jx : List (Nat × Nat) → World → Prop)
    (hF : ∀ args w, (callFunc F args).run Tryz.prog w = .ok (.enter F args) w)
    (hY : ∀ pre x W, J pre W → pre ++ [x] <+: linesF s 0 → Calls Tryz.prog F (lnE s x ++ caps) W fun e W' =>
      (e = .returned (.bool true) ∧ J (pre ++ [x]) W' ∧ KeepC Bs W W') ∨ (e = .returned (.bool false) ∧ Jx (pre ++ [x]) W'))
    (W : World) (hc : W.cell? ⟨Bs, 0, none⟩ = some (.string s)) (h0 : J [] W) :
    Calls Tryz.prog 96 #[.func (.func F) #[] caps, .pointer (some ⟨Bs, 0, none⟩)] W fun e W' => (∃ v, e = .returned v) ∧
      (J (linesF s 0) W' ∨ (∃ pre, Jx pre W')) := by
  go_enter Tryz.func96, Tryz.ntmps96
  go_wp2
  go_loopw [3] (fun i wr => ∃ (pre : List (Nat × Nat)) (k : Nat), i = .int .i64 k ∧ AtLn s pre k ∧ J pre wr ∧ wr.cell? ⟨Bs, 0, none⟩ = some (.string s)) (fun i _ => s.size + 1 - (intOf i).toNat)
  case atStart => exact ⟨[], 0, rfl, AtLn.start s, h0, hc⟩
  case round =>
    obtain ⟨pre, k, rfl, hp, hj, hcr⟩ := hrel
    have hBs := cell_lt hcr
    have hk := hp.2
    have hpp := ln_pre hp
    have hbd := lnEnd_bd s _ k (Nat.le_refl _) hk
    have hY1 := hY pre (k, lnEnd s k) wr hj hpp
    obtain ⟨m, hm⟩ : ∃ m, lnEnd s k = k + m := ⟨lnEnd s k - k, by omega⟩
    by_cases hlt : k + m < s.size
    · have hst := hp.step (by omega)
      rw [hm] at hst hY1 hbd
      dsimp only [lnE] at hY1
      have HI := Lib.hid (@idx_hit s k m hk hm hlt)
      have HS := Lib.hid hst
      have HY := Lib.hid hY1
      clear hm hpp hst hY hY1
      go_wp2_with (first
        | (go_at_call 97; (with_reducible refine (HI.out wr).mono ?_); rintro e w1 ⟨rfl, rfl⟩)
        | ((with_reducible refine HY.out.mono ?_); rintro e W3 (⟨rfl, hJ3, hk3⟩ | ⟨rfl, hJx3⟩)))
      all_goals first
        | (have hc3 := hk3 _ hcr
           exact ⟨⟨_, k + m + 1, by go_num, HS.out, hJ3, hc3⟩, by simp [intOf]; omega⟩)
        | (refine bodyPost_ret (results_none rfl _ _ _) rfl ?_
           exact ⟨⟨_, rfl⟩, .inr ⟨_, hJx3⟩⟩)
    · have hla := hp.last (by omega)
      rw [hla.2] at hY1 hla
      dsimp only [lnE] at hY1
      have HI := Lib.hid (@idx_miss s k hk (by omega))
      have HS := Lib.hid hla.1
      have HY := Lib.hid hY1
      clear hm hpp hla hY hlt hY1
      go_wp2_with (first
        | (go_at_call 97; (with_reducible refine (HI.out wr).mono ?_); rintro e w1 ⟨rfl, rfl⟩)
        | ((with_reducible refine HY.out.mono ?_); rintro e W3 (⟨rfl, hJ3, hk3⟩ | ⟨rfl, hJx3⟩)))
      all_goals first
        | (refine bodyPost_ret (results_none rfl _ _ _) rfl ?_
           exact ⟨⟨_, rfl⟩, .inl (by rw [HS.out]; exact hJ3)⟩)
        | (refine bodyPost_ret (results_none rfl _ _ _) rfl ?_
           exact ⟨⟨_, rfl⟩, .inr ⟨_, hJx3⟩⟩)
end
end Go.Proofs.YtcphkdooemengaaGreatDoor
