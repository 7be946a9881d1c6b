/- The walks of chapter 2's lex.Scan and lex.Tokens. -/
import Derived.Test.YtdlppdoankeilaaDoorScanF
import Derived.Lib.SliceRun
namespace Go.Proofs.YtdlppdoankeilaaDoor
set_option linter.unusedVariables false
set_option linter.unusedSimpArgs false
set_option linter.unnecessarySimpa false
open Go.RowKit
attribute [local go_sem] cell_alloc_add cell_set_add lt_more
theorem Bt.of_own {W : World} {base : Nat} {s : ByteArray} {v : Value} (h : W.ownsRow base 5 1 v s.size (firsts (byteC s) s.size)) : ∃ A c, v = .slice A s.size c ∧ s.size ≤ c ∧ Bt W W.heap.size A s := by
  obtain ⟨A, c, rfl, hc, hr⟩ := rd_own h
  refine ⟨A, c, rfl, hc, hr _ (fun j hj => firsts_at hj), fun hn ad e => ?_⟩
  rcases h.2 with ⟨h0, h1⟩ | ⟨g, cap, cur, hv, _, hg, _⟩
  · omega
  · injection hv with h1 _ _
    rw [e] at h1
    injection h1 with h1
    subst h1
    exact ⟨_, _, hg⟩
set_option maxRecDepth 100000 in
set_option maxHeartbeats 4000000 in
theorem Clone_any (s : ByteArray) (A : Option Addr) (c : Nat) (hs : s.size ≤ 4000000) (w : World) (h : Rd w w.heap.size A s.size (byteC s)) :
    Calls Tryd.prog 14 #[.slice A s.size c] w fun e w' => (∃ A' c', e = .returned (.slice A' s.size c') ∧ s.size ≤ c' ∧ Bt w' w'.heap.size A' s) ∧ Below w.heap.size w w' := by
  have HN := Lib.hid h
  obtain ⟨i0, hif, hz0, hz1, hz2⟩ := info_parts infoByte
  rcases A with _ | ad
  · have h0 : s.size = 0 := by
      rcases Nat.eq_zero_or_pos s.size with e | e
      · exact e
      · obtain ⟨ad, e, _⟩ := h.addr e; cases e
    have HZ := Lib.hid h0
    have kn := Lib.run_eql_slice_nil (P := Tryd.prog) w 26 5 none s.size c 0 0 Tryd.underlying26
    clear h0 h
    go_enter Tryd.func14, Tryd.ntmps14
    go_wp2
    go_ret
    exact ⟨⟨none, 0, by rw [HZ.out]; rfl, by rw [HZ.out]; exact Nat.le_refl _, fun j hj => absurd hj (by rw [HZ.out]; omega), fun hn => absurd hn (by rw [HZ.out]; decide)⟩, Below.refl _ _⟩
  · clear h
    have kn := Lib.run_eql_slice_nil (P := Tryd.prog) w 26 5 (some ad) s.size c 0 0 Tryd.underlying26
    go_enter Tryd.func14, Tryd.ntmps14
    go_wp2_with (at_builtin; refine wpList_append_rd _ rfl (.tmp 5) (.tmp 6) _ rfl w.heap.size 5 i0 _ 1 Tryd.underlying26 hif hz0 hz1 hz2 rfl _ 0 [] rfl (own_new (n := 0) rfl (Nat.le_refl _) (by decide)) _ (some ad) s.size c (byteC s) rfl (HN.out.alloc (by omega) _) (fun _ => rfl) (by simp only [maxLen]; omega) (by omega) (by simp) ?_; intro v1 w1 hown1 hg1 hat1)
    have hbb : Below w.heap.size w w1 := ((Below.refl _ w).alloc (Nat.le_refl _) _).grown hg1 (by simp) (ob_ge (Nat.le_refl _))
    obtain ⟨A', c', rfl, hc', hbt⟩ := Bt.of_own (by simpa using hown1)
    go_ret
    exact ⟨⟨A', c', rfl, hc', hbt⟩, hbb⟩
set_option maxRecDepth 100000 in
set_option maxHeartbeats 4000000 in
theorem Scan_any (s : ByteArray) (A : Option Addr) (c : Nat) (hs : s.size ≤ 4000000) (w : World) (h : Rd w w.heap.size A s.size (byteC s)) :
    Calls Tryd.prog 7 #[.slice A s.size c] w fun e w' => ∃ A' c', e = .returned (.func (.func 15) #[] #[.pointer (some ⟨w.heap.size, 0, none⟩)]) ∧ s.size ≤ c' ∧ Row w' w.heap.size 26 #[.slice A' s.size c'] ∧ Bt w' w'.heap.size A' s ∧ Below w.heap.size w w' := by
  have HC := Lib.hid (Clone_any s A c hs (w.alloc (.cells #[.slice A s.size c] 26)) ((h.alloc (by omega) _).more (by simp)))
  have rb : Row (w.alloc (.cells #[.slice A s.size c] 26)) w.heap.size 26 #[.slice A s.size c] := row_new rfl
  clear h
  go_enter Tryd.func7, Tryd.ntmps7
  go_wp2_with (go_at_call 14; (with_reducible refine (HC.out).mono ?_); rintro e w1 ⟨⟨A', c', rfl, hc', hbt⟩, b1⟩; have rb1 := rb.below b1 (by simp); have cb1 := rb1.cell 0; have fb1 := rb1.free 0; have zb1 := Below.size b1)
  go_ret
  have rb2 : Row (w1.setCell ⟨w.heap.size, 0, none⟩ (.slice A' s.size c')) w.heap.size 26 #[.slice A' s.size c'] := rb1.put 0 _
  refine ⟨A', c', rfl, hc', rb2, ?_, (by (repeat (first | (with_reducible exact Below.refl _ _) | (with_reducible assumption) | (with_reducible refine Below.setCell ?_ (by first | omega | (simp <;> omega)) _) | (with_reducible refine Below.alloc ?_ (by first | omega | (simp <;> omega)) _) | (with_reducible refine Below.drew ?_) | (with_reducible refine below_drewN ?_ _) | (with_reducible refine Below.trans ?_ (Below.mono (by with_reducible assumption) (by first | omega | (simp <;> omega)))))))⟩
  rw [size_set]
  refine hbt.keep fun k cs fr e => (Below.heap_setCell _ _ _ _ (fun f => ?_)).trans e
  have h2 : w1.heap[w.heap.size]? = _ := rb1
  rw [f] at e
  rw [show (⟨w.heap.size, 0, none⟩ : Addr).block = w.heap.size from rfl, h2] at e
  injection e with e
  injection e with _ e _
  exact absurd e (by decide)
/-- What lex.Tokens answers: the tokens; or none, the byte of an error, the error. -/
def tokL (s : ByteArray) : List Tok := if (tokR s).2.2 = 0 then (tokR s).1 else []
theorem own_non {W W' : World} {base size n : Nat} {e : TypeId} {v : Value} {xs : List Value} {row : Option Nat} (h : W.ownsRow base e size v n xs) (hg : W.grownBy W' row) (hr : ∀ r, row = some r → ∃ o : Obj, W.heap[r]? = some o ∧ o.isCells = false) : W'.ownsRow base e size v n xs := by
  obtain ⟨hl, hh⟩ := h
  refine ⟨hl, ?_⟩
  rcases hh with hh | ⟨b, cap, cur, hv, hb, hc, h3, h4, h5, h6⟩
  · exact .inl hh
  · refine .inr ⟨b, cap, cur, hv, hb, ?_, h3, h4, h5, h6⟩
    rw [hg.block b (Array.getElem?_eq_some_iff.1 hc).1 (fun e => by
      obtain ⟨o, ho, hi⟩ := hr b e.symm
      rw [hc] at ho; injection ho with ho; subst ho; cases hi)]
    exact hc
theorem own_it {B : Nat} {W W' : World} {base size n : Nat} {e : TypeId} {v : Value} {xs : List Value} (h : W.ownsRow base e size v n xs) (k : It B W W') (he : ¬ ownTy e) : W'.ownsRow base e size v n xs := by
  obtain ⟨hl, hh⟩ := h
  refine ⟨hl, ?_⟩
  rcases hh with hh | ⟨b, cap, cur, hv, hb, hc, h3, h4, h5, h6⟩
  · exact .inl hh
  · exact .inr ⟨b, cap, cur, hv, hb, k.obj hc (fun _ _ _ f => by injection f with _ f _; subst f; exact he), h3, h4, h5, h6⟩
theorem row_it {B g : Nat} {W W' : World} {t : TypeId} {cs : Array Value} (h : Row W g t cs) (k : It B W W') (he : ¬ ownTy t) : Row W' g t cs := k.obj h (fun _ _ _ f => by injection f with _ f _; subst f; exact he)
theorem noT1 : ¬ ownTy 29 := by rintro (f | f) <;> exact absurd f (by decide)
theorem noT2 : ¬ ownTy 22 := by rintro (f | f) <;> exact absurd f (by decide)
theorem noT3 : ¬ ownTy 3 := by rintro (f | f) <;> exact absurd f (by decide)
theorem noT4 : ¬ ownTy 23 := by rintro (f | f) <;> exact absurd f (by decide)
/-- Where the loop of lex.Tokens stands. -/
structure TkI (n : Nat) (w : World) (pre : List (Tok × Int)) (W : World) : Prop where
  r0 : Row W n 22 #[.slice none 0 0]
  r1 : Row W (n + 1) 3 #[.int .i64 0]
  r2 : Row W (n + 1 + 1) 23 #[.int .i64 0]
  l : ∃ v, Row W (n + 1 + 1 + 1) 22 #[v] ∧ W.ownsRow (n + 4) 29 4 v pre.length (toksC (pre.map (·.1)))
  ok : ∀ x ∈ pre, x.2 = 0
  b : Below n w W
/-- Where the loop was left, at an error. -/
structure TkX (n : Nat) (w : World) (pre : List (Tok × Int)) (W : World) : Prop where
  e : ∃ p x, pre = p ++ [x] ∧ x.2 ≠ 0 ∧ Row W n 22 #[.slice none 0 0] ∧ Row W (n + 1) 3 #[.int .i64 (x.1.lo : Int)] ∧ Row W (n + 1 + 1) 23 #[.int .i64 x.2]
  b : Below n w W
theorem TkI.own {n B : Nat} {w : World} (hn : n ≤ w.heap.size) (hB : n ≤ B) : OwnFrom B (TkI n w) := fun _ W W' row h hg hr =>
  ⟨row_own h.r0 hg (fun r e => (hr r e).2), row_own h.r1 hg (fun r e => (hr r e).2), row_own h.r2 hg (fun r e => (hr r e).2), by obtain ⟨v, a, b⟩ := h.l; exact ⟨v, row_own a hg (fun r e => (hr r e).2), own_non b hg (fun r e => (hr r e).2)⟩, h.ok, ownFrom_below (β := Unit) hn hB () W W' row h.b hg hr⟩
theorem TkX.own {n B : Nat} {w : World} (hn : n ≤ w.heap.size) (hB : n ≤ B) : OwnFrom B (TkX n w) := fun _ W W' row h hg hr =>
  ⟨by obtain ⟨p, x, e1, e2, a, b, c⟩ := h.e; exact ⟨p, x, e1, e2, row_own a hg (fun r e => (hr r e).2), row_own b hg (fun r e => (hr r e).2), row_own c hg (fun r e => (hr r e).2)⟩, ownFrom_below (β := Unit) hn hB () W W' row h.b hg hr⟩
theorem TkI.it {n B : Nat} {w W W' : World} {pre : List (Tok × Int)} (h : TkI n w pre W) (k : It B W W') (hn : n ≤ B) (hw : n ≤ w.heap.size) : TkI n w pre W' :=
  ⟨row_it h.r0 k noT2, row_it h.r1 k noT3, row_it h.r2 k noT4, by obtain ⟨v, a, b⟩ := h.l; exact ⟨v, row_it a k noT2, own_it b k noT1⟩, h.ok, h.b.trans (k.below hn (Nat.le_trans hw h.b.size))⟩
theorem TkX.it {n B : Nat} {w W W' : World} {pre : List (Tok × Int)} (h : TkX n w pre W) (k : It B W W') (hn : n ≤ B) (hw : n ≤ w.heap.size) : TkX n w pre W' :=
  ⟨by obtain ⟨p, x, e1, e2, a, b, c⟩ := h.e; exact ⟨p, x, e1, e2, row_it a k noT2, row_it b k noT3, row_it c k noT4⟩, h.b.trans (k.below hn (Nat.le_trans hw h.b.size))⟩
theorem Scan1_seq (Bs : Nat) (s : ByteArray) (A : Option Addr) (c : Nat) (hs : s.size ≤ 65536) (hcap : s.size ≤ c) (W0 : World) (hm : Mx W0) (h0 : 1 < W0.heap.size) (hb : Row W0 Bs 26 #[.slice A s.size c]) (hr : Bt W0 W0.heap.size A s) :
    SeqIt Fence.wide (10 - 1) Tryd.prog 15 #[.pointer (some ⟨Bs, 0, none⟩)] encI (fun ys => ys = itemsOf (tokR s)) (fun pre => pre <+: itemsOf (tokR s)) 8194 W0 := fun l J Jx W hW hJ hJx hY h =>
  Scan1_in (10 - 1) (by decide) l Bs s A c hs hcap J Jx W.heap.size hJ hY W (Nat.le_refl _) (hm.below hW h0) ((Row.below hb hW hb.lt).cell 0)
    ⟨(hr.1.below hW).more hW.size, fun hn ad e => by
      obtain ⟨cs, fr, hh⟩ := hr.2 hn ad e
      exact ⟨cs, fr, (hW.block _ (Array.getElem?_eq_some_iff.1 hh).1).trans hh⟩⟩ h
end Go.Proofs.YtdlppdoankeilaaDoor
