/- The walks of chapter 2's lex.Scan: Begin, and the iterator in a fence. -/
import Derived.Test.YtdlppdoankeilaaDoorRange
import Derived.RangeFuncNested
import Derived.RangeFuncBound
import Derived.RangeFuncCalls
import Derived.RangeFuncLeaves
import Derived.Shelf.Abstract
import Derived.Shelf.RegionOpen
import Derived.OwnWalkIn
import Derived.TacticsInMore
import Derived.LoopNIn
import Derived.LoopIn
namespace Go.Proofs.YtdlppdoankeilaaDoor
set_option linter.unusedVariables false
set_option linter.unusedSimpArgs false
set_option linter.unnecessarySimpa false
open Go.RowKit
attribute [local go_sem] cell_alloc_add cell_set_add lt_more Oper.semAt_some
set_option maxRecDepth 100000 in
theorem Begin_any (A : Option Addr) (n c : Nat) (w : World) : Calls Tryd.prog 16 #[.slice A n c] w fun e w' => e = .returned (.pointer (some ⟨w.heap.size, 0, none⟩)) ∧ w' = w.alloc (.cells #[.slice A n c, .int .i64 0, .slice none 0 0] 63) := by
  go_enter Tryd.func16, Tryd.ntmps16
  go_wp2
  go_ret
  exact ⟨rfl, rfl⟩
/-- What the iterator hands on: each token; the error, if there is one. -/
def itemsOf (p : List Tok × Nat × Nat) : List (Tok × Int) := p.1.map (fun t => (t, 0)) ++ (if p.2.2 = 0 then [] else [(⟨0, ⟨#[]⟩, p.2.1, 0⟩, (p.2.2 : Int))])
def encI (x : Tok × Int) : Array Value := #[.agg (tokA x.1), .int .i64 x.2]
theorem cast0 : ((0 : Nat) : Int) = 0 := rfl
theorem capT_pre {most : Nat} {p : List Tok × Option Nat} {pre r : List Tok} {t : Tok} (h : p.1 = pre ++ t :: r) (hl : pre.length < most) : pre ++ [t] <+: (capT most p).1 := by
  have h1 : pre ++ [t] <+: p.1 := ⟨r, by rw [h]; simp⟩
  have h2 : pre ++ [t] <+: p.1.take most := List.prefix_of_prefix_length_le h1 (List.take_prefix _ _) (by rw [List.length_take, h]; simp; omega)
  unfold capT
  split
  · split
    · exact h1
    · exact h2
  · split
    · exact h1
    · exact h1
theorem items_pre {most : Nat} {p : List Tok × Option Nat} {pre r : List Tok} {t : Tok} (h : p.1 = pre ++ t :: r) (hl : pre.length < most) : (pre.map fun t => ((t, 0) : Tok × Int)) ++ [(t, 0)] <+: itemsOf (capT most p) := by
  obtain ⟨q, hq⟩ := capT_pre h hl
  unfold itemsOf
  rw [← hq]
  exact List.IsPrefix.trans ⟨q.map (fun t => (t, 0)), by simp⟩ (List.prefix_append _ _)
/-- The bytes' block is one of bytes. -/
def ByteAt (W : World) (A : Option Addr) (n : Nat) : Prop := 0 < n → ∀ ad, A = some ad → ∃ cs fr, W.heap[ad.block]? = some (.cells cs 5 fr)
/-- The bytes stand, read, in blocks of bytes. -/
def Bt (W : World) (B : Nat) (A : Option Addr) (s : ByteArray) : Prop := Rd W B A s.size (byteC s) ∧ ByteAt W A s.size
theorem Bt.keep {W W' : World} {B : Nat} {A : Option Addr} {s : ByteArray} (h : Bt W B A s) (hk : ∀ (k : Nat) (cs : Array Value) (fr : Nat × Nat), W.heap[k]? = some (Obj.cells cs 5 fr) → W'.heap[k]? = some (Obj.cells cs 5 fr)) : Bt W' B A s := by
  refine ⟨fun j hj => ?_, fun hn ad e => ?_⟩
  · obtain ⟨ad, e, hb, hc⟩ := h.1 j hj
    obtain ⟨cs, fr, hh⟩ := h.2 (by omega) ad e
    exact ⟨ad, e, hb, (World.cell?_of_block (w := W) (a := ad.add j) (by rw [block_add, hk _ _ _ hh, hh])).trans hc⟩
  · obtain ⟨cs, fr, hh⟩ := h.2 hn ad e
    exact ⟨cs, fr, hk _ _ _ hh⟩
theorem Bt.it {B' : Nat} {W W' : World} {B : Nat} {A : Option Addr} {s : ByteArray} (h : Bt W B A s) (k : It B' W W') : Bt W' B A s := h.keep fun _ _ _ e => k.obj e fun _ _ _ f => by injection f with _ f _; subst f; rintro (f | f) <;> exact absurd f (by decide)
theorem Bt.kb {m : Nat} {W W' : World} {B : Nat} {A : Option Addr} {s : ByteArray} (h : Bt W B A s) (k : Kb m W W') : Bt W' B A s := h.keep fun _ _ _ e => k.cells _ _ _ _ e (by decide) (by decide)
theorem Mx.kb {m : Nat} {W W' : World} (h : Mx W) (k : Kb m W W') : Mx W' := by
  obtain ⟨x, h⟩ := h
  exact ⟨x, (World.cell?_of_block (w := W) (a := ⟨1, 0, none⟩) k.zero).trans h⟩
theorem own_kb {m base : Nat} {W W' : World} {v : Value} {n : Nat} {xs : List Value} (h : W.ownsRow base 4 1 v n xs) (k : Kb m W W') : W'.ownsRow base 4 1 v n xs := by
  obtain ⟨hl, hh⟩ := h
  refine ⟨hl, ?_⟩
  rcases hh with hh | ⟨b, cap, cur, hv, hb, hc, h3, h4, h5, h6⟩
  · exact .inl hh
  · exact .inr ⟨b, cap, cur, hv, hb, k.cells _ _ _ _ hc (by decide) (by decide), h3, h4, h5, h6⟩
theorem scn_kb {m g n c i : Nat} {W W' : World} {A : Option Addr} {hv : Value} (h : Scn W g A n c i hv) (k : Kb m W W') : Scn W' g A n c i hv := k.cells _ _ _ _ h (by decide) (by decide)
set_option maxRecDepth 100000 in
set_option maxHeartbeats 16000000 in
theorem Scan1_in (n : Nat) (hn : 1 ≤ n) (l Bs : Nat) (s : ByteArray) (A : Option Addr) (c : Nat) (hs : s.size ≤ 65536) (hcap : s.size ≤ c) (J Jx : List (Tok × Int) → World → Prop) (B : Nat) (hJ : ∀ q A C, J q A → It B A C → J q C)
    (hY : ∀ pre x W0 W1, J pre W0 → It B W0 W1 → pre.length < 8194 → YieldAt Fence.wide (n - 1) Tryd.prog l (encI x) W1 fun e W' => (e = .returned (.bool true) ∧ J (pre ++ [x]) W' ∧ Kb W0.heap.size W1 W') ∨ (e = .returned (.bool false) ∧ Jx (pre ++ [x]) W'))
    (W : World) (hB : B ≤ W.heap.size) (hm : Mx W) (hc : W.cell? ⟨Bs, 0, none⟩ = some (.slice A s.size c)) (hr : Bt W W.heap.size A s) (h0 : J [] W) :
    CallsIn Fence.wide n Tryd.prog 15 #[.func (.yield l) #[] #[], .pointer (some ⟨Bs, 0, none⟩)] W fun e W' => (∃ v, e = .returned v) ∧
      ((∃ ys, ys = itemsOf (tokR s) ∧ J ys W') ∨ (∃ pre, pre <+: itemsOf (tokR s) ∧ Jx pre W')) := by
  have ht : ((s.size : Int) > 65536) = False := by simp; omega
  have HR := Lib.hid (show tokR s = capT 8192 (toks s 0 []) from if_pos hs)
  refine callsIn_of_wp Tryd.func15 rfl trivial ?_ rfl
  simp only [Tryd.ntmps15, List.size_toArray, List.length_cons, List.length_nil, Nat.reduceAdd, Nat.reduceSub, Array.replicate_succ, Array.replicate_zero, List.push_toArray, List.append_toArray, List.nil_append, List.cons_append]
  gi_wp2
  refine wpIn_wide.2 (wp_scope_straight ((wpIn_wide (n := n)).1 ?_))
  gi_wp2_with (refine ⟨trivial, ?_⟩; gi_at_call 16; (with_reducible refine (callsIn_wide.2 (Begin_any _ _ _ _)).mono ?_); rintro e w1 ⟨rfl, rfl⟩)
  refine wpIn_label ?_
  have hg0 : 1 < W.heap.size := by obtain ⟨x, hx⟩ := hm; exact (World.block_lt_of_cell? W ⟨1, 0, none⟩ hx)
  obtain ⟨Wa, hWa⟩ : ∃ Wa : World, Wa = W.alloc (.cells #[.slice A s.size c, .int .i64 0, .slice none 0 0] 63) := ⟨_, rfl⟩
  rw [← hWa]
  have qg : Scn Wa W.heap.size A s.size c 0 (.slice none 0 0) := by rw [hWa]; exact row_new rfl
  have qo : Wa.ownsRow (W.heap.size + 1) 4 1 (.slice none 0 0) 0 [] := World.ownsRow_nil _ _ _ _
  have qit : It B W Wa := by rw [hWa]; exact It.of_below ((Below.refl _ W).alloc (Nat.le_refl _) _)
  have qm : Mx Wa := by rw [hWa]; exact hm.below (B := W.heap.size) ((Below.refl _ W).alloc (Nat.le_refl _) _) hg0
  have qr : Bt Wa W.heap.size A s := hr.it qit
  have qj := hJ _ _ _ h0 qit
  have qs : W.heap.size < Wa.heap.size := by rw [hWa]; simp
  clear hWa hc h0 hr hm qit
  generalize W.heap.size = g at *
  gi_wp2
  gi_loopw [4] (fun a wr => ∃ (pre : List Tok) (i : Nat) (holes : List Bool) (hv : Value), a = .int .i64 (pre.length : Nat) ∧ pre.length ≤ 8192 ∧ i ≤ s.size ∧ holes.length ≤ i ∧ (toks s 0 []).1 = pre ++ (toks s i holes).1 ∧ (toks s 0 []).2 = (toks s i holes).2 ∧ Scn wr g A s.size c i hv ∧ wr.ownsRow (g + 1) 4 1 hv holes.length (holes.map .bool) ∧ Bt wr g A s ∧ Mx wr ∧ J (pre.map fun t => (t, 0)) wr) (fun a _ => 8193 - (intOf a).toNat)
  case atStart => exact ⟨[], 0, [], .slice none 0 0, rfl, by decide, Nat.zero_le _, Nat.le_refl _, rfl, rfl, qg, qo, qr, qm, qj⟩
  case round =>
    obtain ⟨pre, i, holes, hv, rfl, hpm, hi, hhi, ht1, ht2, rg, ow, hbt, hmx, hj⟩ := hrel
    have hNX := Next_any s A c (by omega) hcap wr hmx g hg0 hbt.1 i hi holes (by omega) hv rg ow
    have HP1 := Lib.hid ht1
    have HP2 := Lib.hid ht2
    have hlen : (pre.map fun t => ((t, 0) : Tok × Int)).length < 8194 := by rw [List.length_map]; omega
    have hbd := skip_bd s _ i (Nat.le_refl _) hi
    have hnr : nextR s i holes = if (skip s i).2 = false then (⟨0, ⟨#[]⟩, (skip s i).1, 0⟩, false, (skip s i).1, holes) else if (skip s i).1 = s.size then (⟨10, ⟨#[]⟩, s.size, s.size⟩, true, s.size, holes) else match tokAt s (skip s i).1 holes with | none => (⟨0, ⟨#[]⟩, (skip s i).1, 0⟩, false, (skip s i).1, holes) | some (t, h) => (t, true, t.hi, h) := rfl
    clear ht1 ht2
    cases hsk : skip s i with
    | mk j ok =>
      rw [hsk] at hnr hbd
      simp only at hnr hbd
      cases ok
      · have HC := Lib.hid (capT_bad (most := 8192) (j := j) (pre := pre) (by rw [HP1.out, toks_rem hsk]) (by rw [HP2.out, toks_rem hsk]) hpm)
        have hI : itemsOf (tokR s) = (pre.map fun t => ((t, 0) : Tok × Int)) ++ [(⟨0, ⟨#[]⟩, j, 0⟩, 3)] := by rw [HR.out, HC.out]; rfl
        have HI := Lib.hid hI
        rw [if_pos rfl] at hnr
        rw [hnr] at hNX
        unfold tokA at hNX
        have HN := Lib.hid hNX
        clear hI hNX hnr hsk
        gi_wp2_with (refine ⟨trivial, ?_⟩; gi_at_call 17; (with_reducible refine (callsIn_wide.2 HN.out).mono ?_); rintro e wn ⟨rfl, aft⟩; have hit : It B wr (wn.alloc (.cells #[.int .i64 0, .string ⟨#[]⟩, .int .i64 (j : Int), .int .i64 0] 29)) := (It.of_after (by omega) rg ow aft).trans (It.of_below ((Below.refl _ wn).alloc (Nat.le_refl _) _)); obtain ⟨fn, tmps, assign, body, hy, hR⟩ := hY _ (⟨0, ⟨#[]⟩, j, 0⟩, 3) wr _ hj hit hlen; simp only [encI, tokA, cast0] at hy)
        all_goals
          refine hR.mono ?_
          rintro e W3 (⟨rfl, hJ3, kb⟩ | ⟨rfl, hJx⟩)
        · gi_wp2
          rw [Exit.noGoto_normal]; go_end0; exact ⟨⟨_, rfl⟩, .inl ⟨_, rfl, by rw [HI.out]; exact hJ3⟩⟩
        · gi_wp2
          rw [Exit.noGoto_normal]; go_end0; exact ⟨⟨_, rfl⟩, .inr ⟨_, by rw [HI.out]; exact List.prefix_refl _, hJx⟩⟩
      · by_cases hj1 : j = s.size
        · have HC := Lib.hid (capT_end (most := 8192) (t := ⟨10, ⟨#[]⟩, s.size, s.size⟩) (pre := pre) (by rw [HP1.out, toks_end hsk (by omega)]) (by rw [HP2.out, toks_end hsk (by omega)]) hpm rfl)
          have hI : itemsOf (tokR s) = (pre.map fun t => ((t, 0) : Tok × Int)) ++ [(⟨10, ⟨#[]⟩, s.size, s.size⟩, 0)] := by rw [HR.out, HC.out]; simp [itemsOf]
          have HI := Lib.hid hI
          rw [if_neg (by decide), if_pos hj1] at hnr
          rw [hnr] at hNX
          unfold tokA at hNX
          have HN := Lib.hid hNX
          clear hI hNX hnr hsk hj1
          by_cases hpe : pre.length = 8192
          · have hpe2 : ((pre.length : Int) == 8192) = true := by simp; omega
            clear hpe
            gi_wp2_with (refine ⟨trivial, ?_⟩; gi_at_call 17; (with_reducible refine (callsIn_wide.2 HN.out).mono ?_); rintro e wn ⟨rfl, aft⟩; have hit : It B wr (wn.alloc (.cells #[.int .i64 10, .string ⟨#[]⟩, .int .i64 (s.size : Int), .int .i64 (s.size : Int)] 29)) := (It.of_after (by omega) rg ow aft).trans (It.of_below ((Below.refl _ wn).alloc (Nat.le_refl _) _)); obtain ⟨fn, tmps, assign, body, hy, hR⟩ := hY _ (⟨10, ⟨#[]⟩, s.size, s.size⟩, 0) wr _ hj hit hlen; simp only [encI, tokA, cast0] at hy)
            all_goals (have rw5 : Row (wn.alloc (.cells #[.int .i64 10, .string ⟨#[]⟩, .int .i64 (s.size : Int), .int .i64 (s.size : Int)] 29)) wn.heap.size 29 #[.int .i64 10, .string ⟨#[]⟩, .int .i64 (s.size : Int), .int .i64 (s.size : Int)] := row_new rfl; have hwn : wr.heap.size ≤ wn.heap.size := (by obtain ⟨_, _, _, kk, _⟩ := aft; exact kk.size); refine hR.mono ?_; rintro e W3 (⟨rfl, hJ3, kb⟩ | ⟨rfl, hJx⟩)); (have rw6 : Row W3 wn.heap.size 29 #[.int .i64 10, .string ⟨#[]⟩, .int .i64 (s.size : Int), .int .i64 (s.size : Int)] := kb.late _ _ _ _ rw5 hwn; have k0 := rw6.cell 0; have kf0 := rw6.free 0; simp at k0; gi_wp2; rw [Exit.noGoto_normal]; go_end0; exact ⟨⟨_, rfl⟩, .inl ⟨_, rfl, by rw [HI.out]; exact hJ3⟩⟩); (gi_wp2; rw [Exit.noGoto_normal]; go_end0; exact ⟨⟨_, rfl⟩, .inr ⟨_, by rw [HI.out]; exact List.prefix_refl _, hJx⟩⟩)
          · have hpe2 : ((pre.length : Int) == 8192) = false := by simp; omega
            clear hpe
            gi_wp2_with (refine ⟨trivial, ?_⟩; gi_at_call 17; (with_reducible refine (callsIn_wide.2 HN.out).mono ?_); rintro e wn ⟨rfl, aft⟩; have hit : It B wr (wn.alloc (.cells #[.int .i64 10, .string ⟨#[]⟩, .int .i64 (s.size : Int), .int .i64 (s.size : Int)] 29)) := (It.of_after (by omega) rg ow aft).trans (It.of_below ((Below.refl _ wn).alloc (Nat.le_refl _) _)); obtain ⟨fn, tmps, assign, body, hy, hR⟩ := hY _ (⟨10, ⟨#[]⟩, s.size, s.size⟩, 0) wr _ hj hit hlen; simp only [encI, tokA, cast0] at hy)
            all_goals (have rw5 : Row (wn.alloc (.cells #[.int .i64 10, .string ⟨#[]⟩, .int .i64 (s.size : Int), .int .i64 (s.size : Int)] 29)) wn.heap.size 29 #[.int .i64 10, .string ⟨#[]⟩, .int .i64 (s.size : Int), .int .i64 (s.size : Int)] := row_new rfl; have hwn : wr.heap.size ≤ wn.heap.size := (by obtain ⟨_, _, _, kk, _⟩ := aft; exact kk.size); refine hR.mono ?_; rintro e W3 (⟨rfl, hJ3, kb⟩ | ⟨rfl, hJx⟩)); (have rw6 : Row W3 wn.heap.size 29 #[.int .i64 10, .string ⟨#[]⟩, .int .i64 (s.size : Int), .int .i64 (s.size : Int)] := kb.late _ _ _ _ rw5 hwn; have k0 := rw6.cell 0; have kf0 := rw6.free 0; simp at k0; gi_wp2; rw [Exit.noGoto_normal]; go_end0; exact ⟨⟨_, rfl⟩, .inl ⟨_, rfl, by rw [HI.out]; exact hJ3⟩⟩); (gi_wp2; rw [Exit.noGoto_normal]; go_end0; exact ⟨⟨_, rfl⟩, .inr ⟨_, by rw [HI.out]; exact List.prefix_refl _, hJx⟩⟩)
        · have hjs : j < s.size := by omega
          rw [if_neg (by decide), if_neg hj1] at hnr
          cases ht : tokAt s j holes with
          | none =>
            have HC := Lib.hid (capT_bad (most := 8192) (j := j) (pre := pre) (by rw [HP1.out, toks_bad hsk hjs ht]) (by rw [HP2.out, toks_bad hsk hjs ht]) hpm)
            have hI : itemsOf (tokR s) = (pre.map fun t => ((t, 0) : Tok × Int)) ++ [(⟨0, ⟨#[]⟩, j, 0⟩, 3)] := by rw [HR.out, HC.out]; rfl
            have HI := Lib.hid hI
            rw [ht] at hnr
            simp only at hnr
            rw [hnr] at hNX
            unfold tokA at hNX
            have HN := Lib.hid hNX
            clear hI hNX hnr hsk ht
            gi_wp2_with (refine ⟨trivial, ?_⟩; gi_at_call 17; (with_reducible refine (callsIn_wide.2 HN.out).mono ?_); rintro e wn ⟨rfl, aft⟩; have hit : It B wr (wn.alloc (.cells #[.int .i64 0, .string ⟨#[]⟩, .int .i64 (j : Int), .int .i64 0] 29)) := (It.of_after (by omega) rg ow aft).trans (It.of_below ((Below.refl _ wn).alloc (Nat.le_refl _) _)); obtain ⟨fn, tmps, assign, body, hy, hR⟩ := hY _ (⟨0, ⟨#[]⟩, j, 0⟩, 3) wr _ hj hit hlen; simp only [encI, tokA, cast0] at hy)
            all_goals
              refine hR.mono ?_
              rintro e W3 (⟨rfl, hJ3, kb⟩ | ⟨rfl, hJx⟩)
            · gi_wp2
              rw [Exit.noGoto_normal]; go_end0; exact ⟨⟨_, rfl⟩, .inl ⟨_, rfl, by rw [HI.out]; exact hJ3⟩⟩
            · gi_wp2
              rw [Exit.noGoto_normal]; go_end0; exact ⟨⟨_, rfl⟩, .inr ⟨_, by rw [HI.out]; exact List.prefix_refl _, hJx⟩⟩
          | some p =>
            obtain ⟨⟨tk, tx, tl, th⟩, hs2⟩ := p
            have hkd := tokAt_kind ht
            obtain ⟨htl, htb1, htb2⟩ := tokAt_bd hjs ht
            simp only at htl htb1 htb2 hkd
            obtain rfl := htl
            have HS := Lib.hid (toks_step hi hsk hjs ht)
            rw [ht] at hnr
            simp only at hnr
            rw [hnr] at hNX
            unfold tokA at hNX
            have HN := Lib.hid hNX
            obtain ⟨hk10, hh2⟩ := hkd
            have hk1 : (tk != 10) = true := by simpa using hk10
            have hk2 : (tk == 10) = false := by simpa using hk10
            clear hNX hnr hsk ht
            by_cases hpe : pre.length = 8192
            · have HC := Lib.hid (capT_over (most := 8192) (p := toks s 0 []) (pre := pre) (t := ⟨tk, tx, tl, th⟩) (by rw [HP1.out, HS.out]) hpe hk10)
              have hI : itemsOf (tokR s) = (pre.map fun t => ((t, 0) : Tok × Int)) ++ [(⟨0, ⟨#[]⟩, tl, 0⟩, 4)] := by rw [HR.out, HC.out]; rfl
              have HI := Lib.hid hI
              have hpe2 : ((pre.length : Int) == 8192) = true := by simp; omega
              clear hI hpe hk10
              gi_wp2_with (refine ⟨trivial, ?_⟩; gi_at_call 17; (with_reducible refine (callsIn_wide.2 HN.out).mono ?_); rintro e wn ⟨rfl, aft⟩; have hit : It B wr (wn.alloc (.cells #[.int .i64 tk, .string tx, .int .i64 (tl : Int), .int .i64 (th : Int)] 29)) := (It.of_after (by omega) rg ow aft).trans (It.of_below ((Below.refl _ wn).alloc (Nat.le_refl _) _)); obtain ⟨fn, tmps, assign, body, hy, hR⟩ := hY _ (⟨0, ⟨#[]⟩, tl, 0⟩, 4) wr _ hj hit hlen; simp only [encI, tokA, cast0] at hy)
              all_goals
                refine hR.mono ?_
                rintro e W3 (⟨rfl, hJ3, kb⟩ | ⟨rfl, hJx⟩)
              · gi_wp2
                rw [Exit.noGoto_normal]; go_end0; exact ⟨⟨_, rfl⟩, .inl ⟨_, rfl, by rw [HI.out]; exact hJ3⟩⟩
              · gi_wp2
                rw [Exit.noGoto_normal]; go_end0; exact ⟨⟨_, rfl⟩, .inr ⟨_, by rw [HI.out]; exact List.prefix_refl _, hJx⟩⟩
            · have hpe2 : ((pre.length : Int) == 8192) = false := by simp; omega
              have HPre := Lib.hid (items_pre (most := 8192) (p := toks s 0 []) (pre := pre) (t := ⟨tk, tx, tl, th⟩) (by rw [HP1.out, HS.out]) (by omega))
              have hlt8 : pre.length < 8192 := by omega
              clear hpe hk10
              gi_wp2_with (refine ⟨trivial, ?_⟩; gi_at_call 17; (with_reducible refine (callsIn_wide.2 HN.out).mono ?_); rintro e wn ⟨rfl, aft⟩; have hit : It B wr (wn.alloc (.cells #[.int .i64 tk, .string tx, .int .i64 (tl : Int), .int .i64 (th : Int)] 29)) := (It.of_after (by omega) rg ow aft).trans (It.of_below ((Below.refl _ wn).alloc (Nat.le_refl _) _)); obtain ⟨fn, tmps, assign, body, hy, hR⟩ := hY _ (⟨tk, tx, tl, th⟩, 0) wr _ hj hit hlen; simp only [encI, tokA, cast0] at hy)
              all_goals
                have rw5 : Row (wn.alloc (.cells #[.int .i64 tk, .string tx, .int .i64 (tl : Int), .int .i64 (th : Int)] 29)) wn.heap.size 29 #[.int .i64 tk, .string tx, .int .i64 (tl : Int), .int .i64 (th : Int)] := row_new rfl
                have hwn : wr.heap.size ≤ wn.heap.size := by obtain ⟨_, _, _, kk, _⟩ := aft; exact kk.size
                refine hR.mono ?_
                rintro e W3 (⟨rfl, hJ3, kb⟩ | ⟨rfl, hJx⟩)
              · have rw6 : Row W3 wn.heap.size 29 #[.int .i64 tk, .string tx, .int .i64 (tl : Int), .int .i64 (th : Int)] := kb.late _ _ _ _ rw5 hwn
                have k0 := rw6.cell 0
                have kf0 := rw6.free 0
                simp at k0
                gi_wp2
                go_roundw
                case rel =>
                  obtain ⟨hv2, rg2, ow2, kk, _⟩ := aft
                  have hlw := Row.lt rg
                  have hm2 : Mx wn := kk.mx hmx hg0 (fun e => by have := own_ge ow _ e; omega)
                  have hm3 : Mx (wn.alloc (.cells #[.int .i64 tk, .string tx, .int .i64 (tl : Int), .int .i64 (th : Int)] 29)) := hm2.keep ((Below.refl _ wn).alloc (Nat.le_refl _) _)
                  exact ⟨pre ++ [⟨tk, tx, tl, th⟩], th, hs2, hv2, by simp, by simp; omega, htb2, by omega, by rw [HP1.out, HS.out]; simp, by rw [HP2.out, HS.out], scn_kb (Row.alloc rg2 _) kb, own_kb (ow2.alloc _) kb, (hbt.it hit).kb kb, hm3.kb kb, by rw [List.map_append]; exact hJ3⟩
                case measure => simp [intOf]; omega
              · gi_wp2
                rw [Exit.noGoto_normal]
                go_end0
                exact ⟨⟨_, rfl⟩, .inr ⟨_, by rw [HR.out]; exact HPre.out, hJx⟩⟩
end Go.Proofs.YtdlppdoankeilaaDoor
