/- Chapter 2's laws: texts one behind the other, parts of a slice, blank; a step from token to token. -/
import Derived.Test.YtdlppdoankeilaaLaw2
namespace Go.Proofs.Ytdlppdoankeilaa
set_option linter.unusedVariables false
set_option linter.unusedSimpArgs false
set_option linter.unnecessarySimpa false
open Go.RowKit
attribute [local go_sem] cell_alloc_add cell_set_add lt_more
theorem bt_app (x y : ByteArray) (i : Nat) (h : i < x.size + y.size) : bt (x ++ y) i = if i < x.size then bt x i else bt y (i - x.size) := by
  have hd : (x ++ y).data = x.data ++ y.data := ByteArray.data_append
  have hsz : (x ++ y).size = x.size + y.size := ByteArray.size_append
  have hi' : i < (x ++ y).data.size := by show i < (x ++ y).size; omega
  have e : ((x ++ y).data[i]'hi').toNat = bt (x ++ y) i := get_bt (x ++ y) i (by omega)
  have e2 : (x ++ y).data[i]'hi' = (x.data ++ y.data)[i]'(hd ▸ hi') := by simp only [hd]
  rw [← e, e2]
  split
  · rename_i c
    rw [Array.getElem_append_left c]
    exact get_bt x i c
  · rename_i c
    rw [Array.getElem_append_right (by exact Nat.le_of_not_lt c)]
    exact get_bt y (i - x.size) (by omega)
theorem size_app (x y : ByteArray) : (x ++ y).size = x.size + y.size := ByteArray.size_append
theorem run_cut_mid {P : Program} {t e : TypeId} (A : Option Addr) {n c lo hi : Nat} (W : World) (ht : P.underlying t = some (.slice e)) (hs : ∀ W, (sizeOf e).run P W = .ok 1 W) (h1 : lo ≤ hi) (h2 : hi ≤ c) :
    (Instr.slice t (.slice A n c) (some (.int .i64 (lo : Int))) (some (.int .i64 (hi : Int))) none).run P W = .ok (.slice (if c = lo then A else A.map (·.add lo)) (hi - lo) (c - lo)) W := by
  have he : P.elem t = e := by simp [Program.elem, ht]
  have h := run_slice_lh (P := P) (w := W) t A n c (by rw [he]; exact ht) .i64 .i64 (lo : Int) (hi : Int) (by omega) (by omega) (by omega)
  rw [h, he, hs]
  simp [sliced, Result.andThen]
theorem run_cut_to {P : Program} {t e : TypeId} (A : Option Addr) {n c hi : Nat} (W : World) (ht : P.underlying t = some (.slice e)) (hs : ∀ W, (sizeOf e).run P W = .ok 1 W) (h2 : hi ≤ c) :
    (Instr.slice t (.slice A n c) none (some (.int .i64 (hi : Int))) none).run P W = .ok (.slice (if c = 0 then A else A.map (·.add 0)) hi c) W := by
  have he : P.elem t = e := by simp [Program.elem, ht]
  have h := run_slice_h (P := P) (w := W) t A n c (by rw [he]; exact ht) .i64 (hi : Int) (by omega) (by omega)
  rw [h, he, hs]
  simp [sliced, Result.andThen]
/-- Part of a text, read. -/
theorem Rd.mid {w : World} {B : Nat} {A : Option Addr} {s : ByteArray} (h : Rd w B A s.size (byteC s)) {lo hi c : Nat} (h1 : lo ≤ hi) (h2 : hi ≤ s.size) (hc : s.size ≤ c) : Rd w B (if c = lo then A else A.map (·.add lo)) (hi - lo) (byteC (s.extract lo hi)) :=
  (h.cut (k := lo) (m := hi - lo) (by omega) hc).congr fun j hj => by unfold byteC; rw [bt_extract hj h2]
theorem ext_size {s : ByteArray} {lo hi : Nat} (h1 : lo ≤ hi) (h2 : hi ≤ s.size) : (s.extract lo hi).size = hi - lo := by rw [ByteArray.size_extract]; omega
theorem Tokens_n (s : ByteArray) (n : Nat) (hn : n = s.size) (A : Option Addr) (c : Nat) (hs : s.size ≤ 8000) (w : World) (hm : Mx w) (h : Rd w w.heap.size A n (byteC s)) {l : List Tok} (ht : toks s 0 [] = (l, none)) :
    Calls Try.prog 11 #[.slice A n c] w fun e w' => (∃ v, e = .returned (.tuple #[v, .int .i64 0, .int .i64 0]) ∧ w'.ownsRow w.heap.size 33 4 v l.length (toksC l)) ∧ Below w.heap.size w w' := by
  subst hn
  have hR := tokR_ok (by omega) ht
  have hL : tokL s = l := by show (if (tokR s).2.2 = 0 then _ else _) = _; rw [hR]; rfl
  have := Tokens_any s A c (by omega) w hm h
  rw [hR, hL] at this
  exact this
theorem line_xs (g : ByteArray) (j : Nat) (hj : j < g.size + 1) : ((#[] : Array Value).toList ++ firsts (byteC g) g.size ++ firsts (fun _ => Value.int .u8 10) 1)[j]? = some (byteC (g ++ ⟨#[10]⟩) j) := by
  have hl : (firsts (byteC g) g.size).length = g.size := firsts_len _ _
  have h1 : firsts (fun _ => Value.int .u8 10) 1 = [Value.int .u8 10] := rfl
  have hb := bt_app g ⟨#[10]⟩ j (by show j < g.size + 1; exact hj)
  rw [h1]
  simp only [List.nil_append]
  rw [show byteC (g ++ ⟨#[10]⟩) j = .int .u8 (bt (g ++ ⟨#[10]⟩) j : Int) from rfl, hb]
  by_cases hlt : j < g.size
  · rw [if_pos hlt, List.getElem?_append_left (by omega), firsts_at hlt]; rfl
  · obtain rfl : j = g.size := by omega
    rw [if_neg hlt, List.getElem?_append_right (by omega), hl, Nat.sub_self]; rfl
set_option maxRecDepth 100000 in
set_option maxHeartbeats 1000000 in
theorem blank_any (g : ByteArray) (n : Nat) (hn : n = g.size) (A : Option Addr) (c : Nat) (hs : g.size ≤ 4000) (w : World) (hm : Mx w) (h : Rd w w.heap.size A n (byteC g)) (hb : toks (g ++ ⟨#[10]⟩) 0 [] = ([endT (g.size + 1)], none)) :
    Calls Try.prog 19 #[.slice A n c] w fun e w' => e = .returned (.bool true) ∧ Below w.heap.size w w' := by
  subst hn
  have h0 : 0 < w.heap.size := by obtain ⟨y, hy⟩ := hm; exact Nat.lt_of_le_of_lt (Nat.zero_le _) (World.block_lt_of_cell? w ⟨0, 0, none⟩ hy)
  have hsz : (g ++ ⟨#[10]⟩ : ByteArray).size = g.size + 1 := size_app _ _
  have HT := Lib.hid (fun W A' c' (hbl : Below w.heap.size w W) (hr : Rd W W.heap.size A' (g.size + 1) (byteC (g ++ ⟨#[10]⟩))) => Tokens_n (g ++ ⟨#[10]⟩) (g.size + 1) hsz.symm A' c' (by omega) W (hm.below hbl h0) hr hb)
  obtain ⟨i0, hi, hz0, hz1, hz2⟩ := info_parts infoByte
  clear hb
  go_enter Try.func19, Try.ntmps19
  go_wp2_with (first
    | (at_builtin; refine wpList_append_rd _ rfl (.tmp 7) (.tmp 8) _ rfl w.heap.size 5 i0 _ 1 Try.underlying22 hi hz0 hz1 hz2 rfl _ 0 [] rfl (own_new (n := 0) rfl (Nat.le_refl _) (by decide)) _ A g.size c (byteC g) rfl (h.alloc (Nat.le_refl _) _) (byteC_one g) (by simp only [maxLen]; omega) (by omega) (by first | omega | (simp; done) | (simp; omega)) ?_; intro v1 w1 hown1 hg1 hat1; have hb1 : Below w.heap.size w w1 := ((Below.refl _ w).alloc (Nat.le_refl _) _).grown hg1 (by simp) (ob_ge (Nat.le_refl _)); have hz1' := hb1.size; have hv1 : ∀ k, v1.ownBlock = some k → w.heap.size ≤ k := ob_or hat1 (ob_ge (Nat.le_refl _)) (by simp))
    | (at_builtin; refine wpList_append_rd _ rfl (.tmp 9) (.tmp 10) _ rfl w.heap.size 5 i0 _ 1 Try.underlying22 hi hz0 hz1 hz2 rfl v1 _ _ rfl (hown1.alloc _) _ _ 1 1 _ rfl (rd_one w1 5 (.int .u8 10)) (fun _ => rfl) (by simp only [maxLen]; omega) (by omega) (by first | omega | (simp; done) | (simp; omega)) ?_; intro v2 w2 hown2 hg2 hat2; have hb2 : Below w.heap.size w w2 := (hb1.alloc hz1' _).grown hg2 (by simp; omega) hv1; have hz2' := hb2.size; obtain ⟨A2, c2, hv2, hc2, hrd2⟩ := rd_own hown2; subst hv2; have hr2 := hrd2 (byteC (g ++ ⟨#[10]⟩)) (fun j hj => by simpa using line_xs g j (by omega)))
    | (go_at_call 11; (with_reducible refine (HT.out w2 A2 c2 hb2 (by simpa using hr2)).mono ?_); rintro e w3 ⟨⟨v3, rfl, ho3⟩, b3⟩; have z3 := Below.size b3; obtain ⟨A3, c3, rfl, hc3, ht3, hob3⟩ := own_trd ho3))
  all_goals (refine bodyPost_ret (v := .bool true) (by simp [results, Try.results19, go_sem]) rfl ⟨rfl, hb2.trans (b3.mono hz2')⟩)
theorem gap_step {s : ByteArray} {at_ : Nat} {holes : List Bool} {t : Tok} {rest : List Tok} (h : toks s at_ holes = (t :: rest, none)) (hat : at_ ≤ s.size) :
    at_ ≤ t.lo ∧ t.lo ≤ t.hi ∧ t.hi ≤ s.size ∧ skip s at_ = (t.lo, true) ∧ ((t = endT s.size ∧ rest = []) ∨ (t.lo < s.size ∧ t.kind ≠ 10 ∧ ∃ hh, tokAt s t.lo holes = some (t, hh) ∧ toks s t.hi hh = (rest, none))) := by
  have hbd := skip_bd s _ at_ (Nat.le_refl _) hat
  cases e : skip s at_ with
  | mk j ok =>
    rw [e] at hbd
    simp only at hbd
    cases ok with
    | false => rw [toks_rem e] at h; cases h
    | true =>
      by_cases hj : j < s.size
      · cases ht : tokAt s j holes with
        | none => rw [toks_bad e hj ht] at h; cases h
        | some p =>
          have htb := tokAt_bd (t := p.1) (h' := p.2) hj ht
          have hk := tokAt_kind ht
          rw [toks_step (t := p.1) (h' := p.2) hat e hj ht] at h
          injection h with h h0
          injection h with h1 h2
          subst h1
          rw [htb.1]
          exact ⟨hbd.1, by omega, htb.2.2, rfl, .inr ⟨hj, hk.1, p.2, ht, Prod.ext h2 h0⟩⟩
      · rw [toks_end e hj] at h
        injection h with h h0
        injection h with h1 h2
        subst h1
        exact ⟨hat, Nat.le_refl _, Nat.le_refl _, by show (j, true) = (s.size, true); rw [show j = s.size by omega], .inl ⟨rfl, h2.symm⟩⟩
end Go.Proofs.Ytdlppdoankeilaa
