/- The walks of chapter 1's Runes: the iterator and what it hands on. -/
import Derived.Test.YtdlppdoankeilaaDoorPgDec
import Derived.Test.YtdlppdoankeilaaDoorPl
import Derived.RangeFuncNested
import Derived.RangeFuncBound
import Derived.RangeFuncCalls
import Derived.RangeFuncLeaves
import Derived.Shelf.Abstract
import Derived.Shelf.RegionOpen
import Derived.OwnWalkIn
import Derived.TacticsInMore
import Derived.LoopNIn
import Derived.LoopIn
namespace Go.Proofs.YtdlppdoankeilaaDoor
set_option linter.unusedVariables false
set_option linter.unusedSimpArgs false
set_option linter.unnecessarySimpa false
open Go.RowKit
attribute [local go_sem] cell_alloc_add cell_set_add lt_more Oper.semAt_some

set_option maxRecDepth 100000 in
set_option maxHeartbeats 1000000 in
theorem Runes_any (s : ByteArray) (A : Option Addr) (c : Nat) (w : World) {B : Nat} (h : Rd w B A s.size (byteC s)) :
    Calls Tryd.prog 9 #[.slice A s.size c] w fun e w' => e = .returned (.func (.func 19) #[] #[.pointer (some ⟨w.heap.size, 0, none⟩)]) ∧ w' = w.alloc (.cells #[.string s] 9) := by
  have kc := run_string_of (P := Tryd.prog) 26 9 5 c Tryd.underlying26 Tryd.underlying5 Tryd.underlying9 h
  go_enter Tryd.func9, Tryd.ntmps9
  go_wp2
  go_ret
  exact ⟨rfl, rfl⟩

theorem Runes_at (s : ByteArray) (A : Option Addr) (c n : Nat) (hn : n = s.size) (w : World) {B : Nat} (h : Rd w B A n (byteC s)) :
    Calls Tryd.prog 9 #[.slice A n c] w fun e w' => e = .returned (.func (.func 19) #[] #[.pointer (some ⟨w.heap.size, 0, none⟩)]) ∧ w' = w.alloc (.cells #[.string s] 9) := by
  subst hn; exact Runes_any s A c w h
theorem DecW (s : ByteArray) (k : Nat) (hk : k < s.size) (hs : s.size ≤ 140737488351232) (hi m cap : Nat) (w : World) (fr : Nat × Nat) (hhi : hi = min s.size (k + 4)) (hm : m = hi - k) (hcap : m ≤ cap) :
    Calls Tryd.prog 20 #[.slice (some ⟨w.heap.size, 0, none⟩) m cap, .int .i64 0] (w.alloc (.cells (bytesRow (s.extract k hi) cap) 5 fr)).drew
      fun e w' => e = .returned (.tuple #[.int .i32 (rn s k : Int), .int .i64 (wd s k : Int), .bool (gd s k)]) ∧ w.grownBy w' none ∧ Below w.heap.size w w' := by
  have hsz : (s.extract k hi).size = m := by rw [ByteArray.size_extract]; omega
  have hrd := (rd_row w (s.extract k hi) cap 5 fr).drew
  have hd := Decode_any (s.extract k hi) (some ⟨w.heap.size, 0, none⟩) cap 0 (by omega) (by omega) _ hrd
  rw [hsz] at hd
  obtain ⟨e1, e2, e3⟩ := dec_window hk
  rw [← hhi] at e1 e2 e3
  refine hd.mono fun e w' ⟨he, hw⟩ => ⟨?_, ?_, ?_⟩
  · rw [he]; exact ret_iib (by rw [← e1]; exact decR_in (i := 0) (by omega)) (by rw [← e2]; exact decN_in (i := 0) (by omega)) (by rw [← e3]; exact decG_in (i := 0) (by omega))
  · subst hw; exact ⟨rfl, rfl, rfl, by simp, fun i hi _ => Below.heap_alloc w _ i hi⟩
  · subst hw; exact ((Below.refl _ _).alloc (Nat.le_refl _) _).drew

/-- One cell stands. -/
def KeepC (b : Nat) (W W' : World) : Prop := ∀ v, W.cell? ⟨b, 0, none⟩ = some v → W'.cell? ⟨b, 0, none⟩ = some v
theorem keepC_t {b : Nat} {A B C : World} (h : KeepC b A B) (k : KeepC b B C) : KeepC b A C := fun v hv => k v (h v hv)
theorem keepC_b {b : Nat} {w : World} (W : World) (l : Nat) (o o' : Obj) (_ : w.heap.size ≤ l) (h : W.heap[l]? = some o) (ho : o.isCells = false) (_ : o.isWalk = false) : KeepC b W (W.putObj l o') := fun v hv =>
  cell_kept hv (grownBy_putObj' _ l o') (fun r e => by cases e; exact ⟨_, h, ho⟩)
theorem cell_lt {W : World} {b o : Nat} {v : Value} (h : W.cell? ⟨b, o, none⟩ = some v) : b < W.heap.size := by
  rcases Nat.lt_or_ge b W.heap.size with hl | hg
  · exact hl
  · simp [World.cell?, Array.getElem?_eq_none hg] at h
theorem keepC_below {b B : Nat} {A C : World} (h : Below B A C) (hb : b < B) : KeepC b A C := fun v hv => (h.cell (p := ⟨b, 0, none⟩) hb).trans hv

set_option maxRecDepth 100000 in
set_option maxHeartbeats 1000000 in
theorem Runes1_in (n : Nat) (hn : 1 ≤ n) (l Bs : Nat) (s : ByteArray) (hs : s.size ≤ 140737488351232) (J Jx : List (Pl s) → World → Prop) (hJ : ∃ B, AbidesFrom B J)
    (hY : ∀ pre x W, J pre W → pre.length < s.size → YieldAt Fence.wide (n - 1) Tryd.prog l (plE s x) W fun e W' =>
      (e = .returned (.bool true) ∧ J (pre ++ [x]) W' ∧ KeepC Bs W W') ∨ (e = .returned (.bool false) ∧ Jx (pre ++ [x]) W'))
    (W : World) (hc : W.cell? ⟨Bs, 0, none⟩ = some (.string s)) (h0 : J [] W) :
    CallsIn Fence.wide n Tryd.prog 19 #[.func (.yield l) #[] #[], .pointer (some ⟨Bs, 0, none⟩)] W fun e W' => (∃ v, e = .returned v) ∧
      ((∃ ys, ys = plL s (places s) ∧ J ys W') ∨ (∃ pre, pre <+: plL s (places s) ∧ Jx pre W')) := by
  obtain ⟨BJ, hJ⟩ := hJ
  have kb := fun (w : World) (x : ByteArray) => run_bytes_of_string (P := Tryd.prog) w 9 26 5 x Tryd.underlying9 Tryd.underlying26 Tryd.underlying5
  refine callsIn_of_wp Tryd.func19 rfl trivial ?_ rfl
  simp only [Tryd.ntmps19, List.size_toArray, List.length_cons, List.length_nil, Nat.reduceAdd, Nat.reduceSub, Array.replicate_succ, Array.replicate_zero, List.push_toArray, List.append_toArray, List.nil_append, List.cons_append]
  gi_wp2
  gi_loopw [3] (fun i wr => ∃ (pre : List Nat) (k : Nat), i = .int .i64 k ∧ AtPlace s pre k ∧ J (plL s pre) wr ∧ wr.cell? ⟨Bs, 0, none⟩ = some (.string s)) (fun i _ => s.size - (intOf i).toNat)
  case atStart => exact ⟨[], 0, rfl, AtPlace.start s, h0, hc⟩
  case round =>
    obtain ⟨pre, k, rfl, hp, hj, hcr⟩ := hrel
    have hBs := cell_lt hcr
    have hk := hp.2
    by_cases hlt : k < s.size
    · have hw1 := wd_bd hlt
      gi_wp2_with (first
        | (refine ⟨trivial, ?_⟩; gi_at_call 20; (with_reducible refine (callsIn_wide.2 (DecW s k hlt hs _ _ _ wr _ (by omega) (by omega) (by first | exact grownCap_ge _ _ _ _ | omega))).mono ?_); rintro e w1 ⟨rfl, hg1, hb1⟩; obtain ⟨fn, tmps, assign, body, hy, hR⟩ := hY (plL s pre) ⟨k, hlt⟩ w1 (hJ _ _ _ none hj hg1 (fun r e => by cases e)) (plL_len hp hlt); dsimp only [plE] at hy))
      all_goals
        have hc1 := keepC_below hb1 hBs _ hcr
        refine hR.mono ?_
        rintro e W3 (⟨rfl, hJ3, hk3⟩ | ⟨rfl, hJx3⟩)
        · have hc3 := hk3 _ hc1
          gi_wp2
          go_roundw
          case rel => exact ⟨pre ++ [k], k + wd s k, by go_num, hp.step hlt, by rw [plL_snoc hlt]; exact hJ3, hc3⟩
          case measure => simp [intOf]; omega
        · gi_wp2
          refine bodyPost_ret (results_none rfl _ _ _) rfl ?_
          exact ⟨⟨_, rfl⟩, .inr ⟨plL s (pre ++ [k]), plL_pre (hp.step hlt), by rw [plL_snoc hlt]; exact hJx3⟩⟩
    · gi_wp2
      go_end0
      exact ⟨⟨_, rfl⟩, .inl ⟨_, rfl, by rw [← hp.fin hlt]; exact hj⟩⟩
theorem Runes_stops (n : Nat) (hn : 1 ≤ n) (Bs : Nat) (s : ByteArray) (hs : s.size ≤ 140737488351232) (w : World) (hc : w.cell? ⟨Bs, 0, none⟩ = some (.string s)) :
    SeqStopsK Fence.wide n Tryd.prog 19 #[.pointer (some ⟨Bs, 0, none⟩)] (plE s) (KeepC Bs) (fun ys => ys = plL s (places s)) (fun pre => pre <+: plL s (places s)) s.size w := fun l J Jx W hW hJ _ hY h0 =>
  Runes1_in n hn l Bs s hs J Jx ⟨_, hJ⟩ hY W (keepC_below hW (cell_lt hc) _ hc) h0
end Go.Proofs.YtdlppdoankeilaaDoor
