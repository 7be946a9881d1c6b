/- Some texts of this claim, put together. -/
import Derived.Laws.BitsAllLaws
import Derived.WalkKit
import Derived.Test.YtpkdhciokiomlaaDoorHBZ3
import Derived.Test.YtpkdhciokiomlaaDoorHBZ5
import Derived.WalkSpells
import Derived.WalkLawsBesides
import Derived.Outline
import Derived.LoopTactic
import Derived.Deep.QuietTactic
import Derived.BigQuiet
import Derived.Test.YtpkdhciokiomlaaDoorHBZ10
namespace Go.Proofs.YtpkdhciokiomlaaDoor
section
set_option linter.unusedVariables false
set_option linter.unusedSimpArgs false
set_option linter.unnecessarySimpa false
open Go.RowKit
theorem wrap0 (v : Nat) (hv : v < 18446744073709551616) : IntKind.i64.wrap (v : Int) = 0 ↔ v = 0 := by
  simp [IntKind.wrap, IntKind.bits, IntKind.signed]
  split <;> omega
theorem bits_not {m : Int} (hm : -9223372036854775808 ≤ m ∧ m ≤ 9223372036854775807) (M : Nat) (hM : M < 18446744073709551616) :
    bits .andNot .i64 m (M : Int) = 0 ↔ (m % 18446744073709551616).toNat &&& (18446744073709551615 - M) = 0 := by
  show IntKind.i64.wrap ((BitVec.ofInt 64 m &&& ~~~BitVec.ofInt 64 (M : Int)).toNat : Int) = 0 ↔ _
  rw [wrap0 _ (by have := (BitVec.ofInt 64 m &&& ~~~BitVec.ofInt 64 (M : Int)).isLt; simpa using this)]
  have h1 : (BitVec.ofInt 64 (M : Int)).toNat = M := by rw [BitVec.toNat_ofInt]; omega
  have h2 : (BitVec.ofInt 64 m).toNat = (m % 18446744073709551616).toNat := by rw [BitVec.toNat_ofInt]; rfl
  rw [BitVec.toNat_and, BitVec.toNat_not, h1, h2]
theorem not1 {m : Int} (hm : -9223372036854775808 ≤ m ∧ m ≤ 9223372036854775807) : (bits .andNot .i64 m 1 == 0) = (m == 0 || m == 1) := by
  have h := bits_not hm 1 (by decide)
  rw [show (18446744073709551615 - 1 : Nat) = 18446744073709551614 by decide, nat_hi64_1] at h
  rw [Bool.eq_iff_iff]
  simp only [beq_iff_eq, Bool.or_eq_true]
  rw [show ((1 : Nat) : Int) = 1 by rfl] at h
  rw [h]
  omega
theorem not7 {m : Int} (hm : -9223372036854775808 ≤ m ∧ m ≤ 9223372036854775807) : (bits .andNot .i64 m 7 == 0) = (decide (0 ≤ m) && decide (m ≤ 7)) := by
  have h := bits_not hm 7 (by decide)
  rw [show (18446744073709551615 - 7 : Nat) = 18446744073709551608 by decide, nat_hi64_3] at h
  rw [Bool.eq_iff_iff]
  simp only [beq_iff_eq, Bool.and_eq_true, decide_eq_true_eq]
  rw [show ((7 : Nat) : Int) = 7 by rfl] at h
  rw [h]
  omega
theorem not4 {m : Int} (hm : -9223372036854775808 ≤ m ∧ m ≤ 9223372036854775807) : (bits .andNot .i64 m 4 == 0) = (m == 0 || m == 4) := by
  have h := bits_not hm 4 (by decide)
  rw [show (18446744073709551615 - 4 : Nat) = 18446744073709551611 by decide] at h
  rw [Bool.eq_iff_iff]
  simp only [beq_iff_eq, Bool.or_eq_true]
  rw [show ((4 : Nat) : Int) = 4 by rfl] at h
  rw [h]
  constructor
  · intro e
    have e7 : (m % 18446744073709551616).toNat &&& 18446744073709551608 = 0 := by
      have : (18446744073709551608 : Nat) = 18446744073709551611 &&& 18446744073709551608 := by decide
      rw [this, ← Nat.and_assoc, e, Nat.zero_and]
    rw [nat_hi64_3] at e7
    have hlt : (m % 18446744073709551616).toNat < 8 := by omega
    generalize hx : (m % 18446744073709551616).toNat = x at *
    have hx2 : x = 0 ∨ x = 1 ∨ x = 2 ∨ x = 3 ∨ x = 4 ∨ x = 5 ∨ x = 6 ∨ x = 7 := by omega
    rcases hx2 with rfl | rfl | rfl | rfl | rfl | rfl | rfl | rfl
    all_goals first | omega | (exfalso; revert e; decide)
  · rintro (rfl | rfl) <;> decide
end
section
set_option linter.unusedVariables false
set_option linter.unusedSimpArgs false
set_option linter.unnecessarySimpa false
open Go.RowKit
def ksV (ks : List Int) (j : Nat) : Value := .int .i64 (ks.getD j 0)
/-- A node lies at an address; all of it below block B. -/
structure NodeAt (W : World) (B : Nat) (ad : Addr) (y : Nd) : Prop where
  blk : ad.block < B
  c0 : W.cell? ad = some (.int .i64 y.k)
  c1 : W.cell? ⟨ad.block, ad.off + 1, none⟩ = some (.string y.x)
  c2 : W.cell? ⟨ad.block, ad.off + 2, none⟩ = some (.int .i64 y.m)
  c4 : W.cell? ⟨ad.block, ad.off + 4, none⟩ = some (.int .i64 y.p)
  wm : -9223372036854775808 ≤ y.m ∧ y.m ≤ 9223372036854775807
  wk : ∀ k ∈ y.ks, -9223372036854775808 ≤ k ∧ k ≤ 9223372036854775807
  c3 : ∃ K kc, W.cell? ⟨ad.block, ad.off + 3, none⟩ = some (.slice K y.ks.length kc) ∧ Rd W B K y.ks.length (ksV y.ks) ∧ y.ks.length ≤ kc ∧ kc ≤ maxLen
/-- A tree's nodes lie at A. -/
def TreeAt (W : World) (B : Nat) (A : Option Addr) (L : List Nd) : Prop := ∀ j, j < L.length → ∃ ad, A = some ad ∧ NodeAt W B (ad.add (j * 5)) (nd L j)
section
variable {W W' : World} {B B' : Nat} {ad : Addr} {A : Option Addr} {y : Nd} {L : List Nd}
theorem NodeAt.keep (h : NodeAt W B ad y) (hk : ∀ p : Addr, p.block < B → W'.cell? p = W.cell? p) : NodeAt W' B ad y := by
  obtain ⟨K, kc, h3, hr, h4, h5⟩ := h.c3
  exact ⟨h.blk, (hk _ h.blk).trans h.c0, (hk ⟨ad.block, ad.off + 1, none⟩ h.blk).trans h.c1, (hk ⟨ad.block, ad.off + 2, none⟩ h.blk).trans h.c2, (hk ⟨ad.block, ad.off + 4, none⟩ h.blk).trans h.c4, h.wm, h.wk, K, kc, (hk ⟨ad.block, ad.off + 3, none⟩ h.blk).trans h3, hr.keep hk, h4, h5⟩
theorem NodeAt.more (h : NodeAt W B ad y) (hB : B ≤ B') : NodeAt W B' ad y := by
  obtain ⟨K, kc, h3, hr, h4, h5⟩ := h.c3
  exact ⟨by have := h.blk; omega, h.c0, h.c1, h.c2, h.c4, h.wm, h.wk, K, kc, h3, hr.more hB, h4, h5⟩
theorem TreeAt.keep (h : TreeAt W B A L) (hk : ∀ p : Addr, p.block < B → W'.cell? p = W.cell? p) : TreeAt W' B A L := fun j hj => by
  obtain ⟨ad, e, hn⟩ := h j hj
  exact ⟨ad, e, hn.keep hk⟩
theorem TreeAt.more (h : TreeAt W B A L) (hB : B ≤ B') : TreeAt W B' A L := fun j hj => by
  obtain ⟨ad, e, hn⟩ := h j hj
  exact ⟨ad, e, hn.more hB⟩
theorem TreeAt.below (h : TreeAt W B A L) (hb : Below B W W') : TreeAt W' B A L := h.keep fun _ hp => hb.cell hp
theorem TreeAt.later (h : TreeAt W W.heap.size A L) (hb : Below W.heap.size W W') : TreeAt W' W'.heap.size A L := (h.below hb).more hb.size
theorem TreeAt.at_ {ad : Addr} (h : TreeAt W B (some ad) L) {j : Nat} (hj : j < L.length) : NodeAt W B (ad.add (j * 5)) (nd L j) := by
  obtain ⟨ad', e, hn⟩ := h j hj
  injection e with e; subst e; exact hn
theorem TreeAt.addr (h : TreeAt W B A L) (hn : 0 < L.length) : ∃ ad, A = some ad ∧ ad.block < B := by
  obtain ⟨ad, e, n⟩ := h 0 hn
  exact ⟨ad, e, by have := n.blk; rwa [block_add] at this⟩
end
/-- What a function value that stands for a place answers, in each later world. -/
abbrev PlaceF (P : Program) (W : World) (F : FuncId) (caps : Array Value) (p : Plc) : Prop :=
  ∀ (W' : World) (A : Option Addr) (L : List Nd) (c i : Nat), Below W.heap.size W W' → TreeAt W' W'.heap.size A L → L.length ≤ c → c ≤ maxLen → i < L.length →
    Calls P F (#[.agg #[.slice A L.length c], .int .i64 (i : Int)] ++ caps) W' fun e W'' => e = .returned (.bool (p L i)) ∧ Below W'.heap.size W' W''
def Place (P : Program) (W : World) (v : Value) (p : Plc) : Prop :=
  ∃ F caps, v = .func (.func F) #[] caps ∧ (∀ args w, (callFunc F args).run P w = .ok (.enter F args) w) ∧ PlaceF P W F caps p
theorem Place.later {P : Program} {W W' : World} {v : Value} {p : Plc} (h : Place P W v p) (hb : Below W.heap.size W W') : Place P W' v p := by
  obtain ⟨F, caps, e, hc, hp⟩ := h
  exact ⟨F, caps, e, hc, fun W2 A L c i hb2 => hp W2 A L c i (hb.trans (hb2.mono hb.size))⟩
theorem all_take {f : Int → Bool} {l : List Int} {j : Nat} (hj : j < l.length) (h : (l.take j).all f = true) (hn : f (l.getD j 0) = true) : (l.take (j + 1)).all f = true := by
  rw [List.take_succ_eq_append_getElem hj, List.all_append, h, Bool.true_and]
  have e : l.getD j 0 = l[j] := by simp [List.getD, hj]
  rw [e] at hn
  simp [hn]
theorem all_bad {f : Int → Bool} {l : List Int} {j : Nat} (hj : j < l.length) (hn : f (l.getD j 0) = false) : l.all f = false := by
  have e : l.getD j 0 = l[j] := by simp [List.getD, hj]
  rw [e] at hn
  rcases Bool.eq_false_or_eq_true (l.all f) with h | h
  · have := List.all_eq_true.1 h _ (List.getElem_mem hj); rw [hn] at this; cases this
  · exact h
theorem rd_lit (w : World) (l : List Int) (cs : Array Value) (t : TypeId) (h : cs = (l.map fun k => Value.int .i64 k).toArray) : Rd (w.alloc (.cells cs t)) (w.alloc (.cells cs t)).heap.size (some ⟨w.heap.size, 0, none⟩) l.length (ksV l) := fun j hj => by
  refine ⟨_, rfl, by simp, ?_⟩
  rw [add_row, World.cell?_alloc_mark, h]
  simp [ksV, hj]
/-- A node's cells at a place of a tree, ready for a walk. -/
theorem node_open {W : World} {B : Nat} {ad : Addr} {y : Nd} (n : NodeAt W B ad y) : ∃ K kc, W.cell? ad = some (.int .i64 y.k) ∧ W.cell? ⟨ad.block, ad.off + 1, none⟩ = some (.string y.x) ∧ W.cell? ⟨ad.block, ad.off + 2, none⟩ = some (.int .i64 y.m) ∧
    W.cell? ⟨ad.block, ad.off + 3, none⟩ = some (.slice K y.ks.length kc) ∧ W.cell? ⟨ad.block, ad.off + 4, none⟩ = some (.int .i64 y.p) ∧ Rd W B K y.ks.length (ksV y.ks) ∧ y.ks.length ≤ kc ∧ kc ≤ maxLen := by
  obtain ⟨K, kc, h3, hr, h4, h5⟩ := n.c3
  exact ⟨K, kc, n.c0, n.c1, n.c2, h3, n.c4, hr, h4, h5⟩
end
section
set_option linter.unusedVariables false
set_option linter.unusedSimpArgs false
set_option linter.unnecessarySimpa false
open Go.RowKit
attribute [local go_sem] cell_alloc_add cell_set_add lt_more
def constB (s : ByteArray) : Bool := inS s.data.toList consts
theorem parts_next {ps : List ByteArray} {q : Nat} {f : ByteArray → Bool} (h : q < ps.length) (ht : (ps.take q).all f = true) (hn : f (ps.getD q ⟨#[]⟩) = true) : (ps.take (q + 1)).all f = true := by
  rw [List.take_succ_eq_append_getElem h, List.all_append, ht, Bool.true_and]
  have e : ps.getD q ⟨#[]⟩ = ps[q] := by simp [List.getD, h]
  rw [e] at hn
  simp [hn]
theorem parts_bad {ps : List ByteArray} {q : Nat} {f : ByteArray → Bool} (h : q < ps.length) (hn : f (ps.getD q ⟨#[]⟩) = false) : ps.all f = false := by
  have e : ps.getD q ⟨#[]⟩ = ps[q] := by simp [List.getD, h]
  rw [e] at hn
  rcases Bool.eq_false_or_eq_true (ps.all f) with h1 | h1
  · have := List.all_eq_true.1 h1 _ (List.getElem_mem h); rw [hn] at this; cases this
  · exact h1
theorem const_eq (s : ByteArray) : constB s = ((s.toList == [110, 117, 108, 108]) || (s.toList == [117, 110, 100, 101, 102, 105, 110, 101, 100]) || (s.toList == [116, 114, 117, 101]) || (s.toList == [102, 97, 108, 115, 101])) := by
  rw [ByteArray.toList_eq]
  unfold constB inS consts
  rw [Bool.eq_iff_iff]
  simp [or_assoc]
set_option maxRecDepth 100000 in
set_option maxHeartbeats 8000000 in
theorem path_any (s : ByteArray) (hz : s.size ≤ 4000000) (w : World) (hm : Mx w) (hw00 : 0 < w.heap.size) :
    Calls Tryd.prog 35 #[.string s] w fun e w' => e = .returned (.bool (dottedB s.data.toList || constB s)) ∧ Below w.heap.size w w' := by
  have HC := Lib.hid (const_eq s)
  have hmx := Lib.hid hm
  obtain ⟨m, hm⟩ := hm
  have hS : Calls Tryd.prog 52 #[.string s, .string ⟨#[46]⟩] w fun e w' => e = .returned (.slice (some ⟨w.heap.size, 0, none⟩) (partsB s).length (partsB s).length) ∧ w' = w.alloc (.cells ((partsB s).map Value.string).toArray 9) := by
    have h := Tryd.strings_Split s ⟨#[46]⟩ m w (by omega) hm (by decide)
    rw [show Lib.countB s ⟨#[46]⟩ + 1 = (partsB s).length from (parts_len s).symm] at h
    exact h
  have hpz : (partsB s).length ≤ 8000000 := by
    have := parts_len s
    have h2 := Lib.countB_le ⟨#[46]⟩ (by decide) s.size s (Nat.le_refl _)
    omega
  have HS := Lib.hid hS
  clear hS
  have HP := Lib.hid (dotted_parts s)
  have HZ := Lib.hid (fun p (hp : p ∈ partsB s) => part_size hp)
  obtain ⟨R, hR⟩ : ∃ R, R = dottedB s.data.toList := ⟨_, rfl⟩
  rw [← hR] at HP ⊢
  clear hR hm
  cases hc : constB s
  · have hC := HC.out
    rw [hc] at hC
    have hC2 := hC.symm
    simp only [Bool.or_eq_false_iff] at hC2
    obtain ⟨⟨⟨e1, e2⟩, e3⟩, e4⟩ := hC2
    rw [Bool.or_false]
    clear hC HC hc
    generalize partsB s = ps at *
    generalize hn : ps.length = n at *
    have HN := Lib.hid hn
    clear hn
    go_enter Tryd.func35, Tryd.ntmps35
    go_wp2_with (first
      | (go_at_call 52; (with_reducible refine HS.out.mono ?_); rintro e w1 ⟨rfl, hw0⟩; have hW1 := Lib.hid hw0; clear hw0)
      | fail)
    have hcell : ∀ q, q < n → w1.cell? ⟨w.heap.size, q, none⟩ = some (.string (ps.getD q ⟨#[]⟩)) := fun q hq => by
      rw [hW1.out, World.cell?_alloc_mark]
      rw [← HN.out] at hq
      simp [hq]
    have bw : Below w.heap.size w w1 := by rw [hW1.out]; (exact bl)
    have hm1 : Mx w1 := hmx.out.below bw hw00
    have HCell := Lib.hid hcell
    clear hW1 hcell e1 e2 e3 e4 HS hmx
    go_loop [14] (fun t => ∃ q : Nat, q ≤ n ∧ t = .int .i64 (q : Int) ∧ Hid ((ps.take q).all (fun b => isName b.data.toList) = true)) (fun t => n - (intOf t).toNat)
    case atStart => exact ⟨0, Nat.zero_le _, rfl, Lib.hid rfl⟩
    case round =>
      obtain ⟨q, hq, rfl, HT⟩ := hrel
      by_cases hlt : q < n
      · have hq2 : q < ps.length := by rw [HN.out]; exact hlt
        have c0 := HCell.out q hlt
        have eK : ps.getD q ⟨#[]⟩ = ps[q] := by simp [List.getD, hq2]
        have hsz := HZ.out (ps.getD q ⟨#[]⟩) (by rw [eK]; exact List.getElem_mem _)
        have HY := Lib.hid (fun e => parts_next (f := fun b => isName b.data.toList) hq2 HT.out e)
        have HB := Lib.hid (fun e => parts_bad (f := fun b => isName b.data.toList) hq2 e)
        clear eK
        generalize ps.getD q ⟨#[]⟩ = x at *
        have HX := Lib.hid (Name_any x (by omega) w1 hm1)
        cases hx : isName x.data.toList
        · have hRf : R = false := by rw [HP.out]; exact HB.out hx
          subst hRf
          go_wp2_with (first
            | (go_at_call 36; (with_reducible refine HX.out.mono ?_); rintro e w9 ⟨rfl, rfl⟩)
            | fail)
          go_ret
          exact ⟨rfl, bw⟩
        · go_wp2_with (first
            | (go_at_call 36; (with_reducible refine HX.out.mono ?_); rintro e w9 ⟨rfl, rfl⟩)
            | fail)
          go_round
          case rel => exact ⟨q + 1, by omega, by go_num, Lib.hid (HY.out hx)⟩
          case measure => simp [intOf]; omega
      · obtain rfl : q = n := by omega
        have hRt : R = true := by
          have := HT.out
          rw [← HN.out, List.take_length] at this
          rw [HP.out]; exact this
        subst hRt
        go_wp2
        go_ret
        exact ⟨rfl, bw⟩
  · have hC := HC.out
    rw [hc] at hC
    rw [Bool.or_true]
    clear HC hc HS
    cases e1 : (s.toList == [110, 117, 108, 108])
    · cases e2 : (s.toList == [117, 110, 100, 101, 102, 105, 110, 101, 100])
      · cases e3 : (s.toList == [116, 114, 117, 101])
        · cases e4 : (s.toList == [102, 97, 108, 115, 101])
          · rw [e1, e2, e3, e4] at hC; cases hC
          · clear hC
            go_enter Tryd.func35, Tryd.ntmps35
            go_wp2
            go_ret
            exact ⟨rfl, Below.refl _ _⟩
        · clear hC
          go_enter Tryd.func35, Tryd.ntmps35
          go_wp2
          go_ret
          exact ⟨rfl, Below.refl _ _⟩
      · clear hC
        go_enter Tryd.func35, Tryd.ntmps35
        go_wp2
        go_ret
        exact ⟨rfl, Below.refl _ _⟩
    · clear hC
      go_enter Tryd.func35, Tryd.ntmps35
      go_wp2
      go_ret
      exact ⟨rfl, Below.refl _ _⟩
end
section
set_option linter.unusedVariables false
set_option linter.unusedSimpArgs false
set_option linter.unnecessarySimpa false
open Go.RowKit
attribute [local go_sem] cell_alloc_add cell_set_add lt_more
def unW : ByteArray := ⟨#[33, 32, 45, 32, 126, 32, 116, 121, 112, 101, 111, 102]⟩
def biW : ByteArray := ⟨#[124, 124, 32, 38, 38, 32, 124, 32, 94, 32, 38, 32, 61, 61, 61, 32, 33, 61, 61, 32, 60, 32, 60, 61, 32, 62, 32, 62, 61, 32, 105, 110, 32, 60, 60, 32, 62, 62, 32, 62, 62, 62, 32, 43, 32, 45, 32, 42, 32, 37]⟩
def asW : ByteArray := ⟨#[61, 32, 43, 61, 32, 45, 61, 32, 42, 61, 32, 37, 61]⟩
theorem emp_eqS (s : ByteArray) : s.toList.isEmpty = s.data.toList.isEmpty := by rw [ByteArray.toList_eq]
theorem not4p {m : Int} (hm : -9223372036854775808 ≤ m ∧ m ≤ 9223372036854775807) : (bits .andNot .i64 m 4 = 0) = (m = 0 ∨ m = 4) := by
  have h := not4 hm
  rw [Bool.eq_iff_iff] at h
  simp only [beq_iff_eq, Bool.or_eq_true] at h
  exact propext h
theorem not7p {m : Int} (hm : -9223372036854775808 ≤ m ∧ m ≤ 9223372036854775807) : (bits .andNot .i64 m 7 = 0) = (0 ≤ m ∧ m ≤ 7) := by
  have h := not7 hm
  rw [Bool.eq_iff_iff] at h
  simp only [beq_iff_eq, Bool.and_eq_true, decide_eq_true_eq] at h
  exact propext h
theorem half0 (m : Int) : (m / 2 = 0) = (m = 0 ∨ m = 1) := propext (by omega)
theorem emp_eqP (s : ByteArray) : (s.toList = []) = (s.data.toList = []) := by rw [ByteArray.toList_eq]
set_option maxRecDepth 100000 in
set_option maxHeartbeats 16000000 in
theorem said_any (k m p : Int) (x : ByteArray) (hx : x.size ≤ 4000000) (hw64 : -9223372036854775808 ≤ m ∧ m ≤ 9223372036854775807) (K : Option Addr) (n kc : Nat) (w : World) (hm : Mx w) (hw00 : 0 < w.heap.size) :
    Calls Tryd.prog 25 #[.agg #[.int .i64 k, .string x, .int .i64 m, .slice K n kc, .int .i64 p]] w fun e w' => e = .returned (.bool (textK k x && numK k m)) ∧ Below w.heap.size w w' := by
  have HT := Lib.hid (show textK k x = if k = 11 ∨ k = 82 then good x else if namesK k = true then isName x.data.toList else if k = 23 then inS x.data.toList unaries else if k = 24 then inS x.data.toList binaries else if k = 26 then inS x.data.toList assigns else if k = 80 then dottedB x.data.toList || constB x else x.data.toList.isEmpty from rfl)
  have HN := Lib.hid (show numK k m = if k = 10 then decide (0 ≤ m) && decide (m ≤ 9007199254740991) else if k = 81 then decide (-9007199254740991 ≤ m) && decide (m ≤ 9007199254740991) else if k = 40 ∨ k = 47 ∨ k = 56 ∨ k = 85 then m == 0 || m == 1 else if k = 44 then m == 0 || m == 4 else if k = 66 then decide (0 ≤ m) && decide (m ≤ 7) else m == 0 from rfl)
  generalize textK k x = R1 at *
  generalize numK k m = R2 at *
  go_enter Tryd.func25, Tryd.ntmps25
  go_upto_region 1 with fail
  obtain ⟨wa, hwa⟩ : ∃ wa : World, wa = w.alloc (.cells #[.int .i64 k, .string x, .int .i64 m, .slice K n kc, .int .i64 p] 35) := ⟨_, rfl⟩
  have a0 : wa.cell? ⟨w.heap.size, 0, none⟩ = some (.int .i64 k) := by rw [hwa]; simp [World.cell?_alloc_mark]
  have a1 : wa.cell? ⟨w.heap.size, 1, none⟩ = some (.string x) := by rw [hwa]; simp [World.cell?_alloc_mark]
  have a2 : wa.cell? ⟨w.heap.size, 2, none⟩ = some (.int .i64 m) := by rw [hwa]; simp [World.cell?_alloc_mark]
  have bx : Below w.heap.size w wa := by rw [hwa]; (exact bl)
  have zx := Below.size bx
  have hma := hm.below bx hw00
  have HGo := Lib.hid (good_any x (by omega) wa)
  have HNa := Lib.hid (Name_any x hx wa hma)
  have HPa := Lib.hid (path_any x hx wa hma (by omega))
  have HA1 := Lib.hid (among_any x ⟨#[33, 32, 45, 32, 126, 32, 116, 121, 112, 101, 111, 102]⟩ unaries hx (by rfl) (by decide) (by decide) wa hma)
  have HA2 := Lib.hid (among_any x ⟨#[124, 124, 32, 38, 38, 32, 124, 32, 94, 32, 38, 32, 61, 61, 61, 32, 33, 61, 61, 32, 60, 32, 60, 61, 32, 62, 32, 62, 61, 32, 105, 110, 32, 60, 60, 32, 62, 62, 32, 62, 62, 62, 32, 43, 32, 45, 32, 42, 32, 37]⟩ binaries hx (by rfl) (by decide) (by decide) wa hma)
  have HA3 := Lib.hid (among_any x ⟨#[61, 32, 43, 61, 32, 45, 61, 32, 42, 61, 32, 37, 61]⟩ assigns hx (by rfl) (by decide) (by decide) wa hma)
  rw [← hwa]
  clear hwa hm hma
  go_wp2_with (first
    | (go_at_call 33; (with_reducible refine HGo.out.mono ?_); rintro e w1 ⟨rfl, b1⟩; have z1 := Below.size b1)
    | (go_at_call 36; (with_reducible refine HNa.out.mono ?_); rintro e w9 ⟨rfl, rfl⟩)
    | (go_at_call 35; (with_reducible refine HPa.out.mono ?_); rintro e w1 ⟨rfl, b1⟩; have z1 := Below.size b1)
    | (go_at_call 34; (with_reducible refine HA1.out.mono ?_); rintro e w9 ⟨rfl, rfl⟩)
    | (go_at_call 34; (with_reducible refine HA2.out.mono ?_); rintro e w9 ⟨rfl, rfl⟩)
    | (go_at_call 34; (with_reducible refine HA3.out.mono ?_); rintro e w9 ⟨rfl, rfl⟩)
    | fail)
  all_goals go_ret
  all_goals (refine ⟨ret_bool ?_, (by (exact bl))⟩; (try simp only [beq_iff_eq, beq_eq_false_iff_ne, bne_iff_ne, bne_eq_false_iff_eq, ne_eq, decide_eq_true_eq, decide_eq_false_iff_not, Bool.and_eq_true, Bool.or_eq_true, Bool.not_eq_true, Bool.not_eq_false, Bool.false_eq_true, Decidable.not_not, Bool.not_eq_eq_eq_not, Bool.not_true, Bool.not_false] at *); rw [HT.out, HN.out]; first | (simp_all [namesK]; done) | (simp only [not4p hw64, not7p hw64, half0, emp_eqP, emp_eqS] at *; first | (simp_all [namesK]; done) | (simp_all [namesK]; omega) | (simp_all [namesK] <;> omega)) | fail)
end
end Go.Proofs.YtpkdhciokiomlaaDoor
