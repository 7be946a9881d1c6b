/- Some texts of this claim, put together. -/
import Derived.Test.YtpkdhciokiomlaaDoorHBZ22
import Derived.Deep.RegionHeld3
namespace Go.Proofs.YtpkdhciokiomlaaDoor
section
set_option linter.unusedVariables false
set_option linter.unusedSimpArgs false
set_option linter.unnecessarySimpa false
open Go.RowKit
attribute [local go_sem] cell_alloc_add cell_set_add lt_more
theorem take_no {l : List Int} {j : Nat} {k : Int} (hj : j < l.length) (h : ¬ k ∈ l.take j) (hne : l.getD j 0 ≠ k) : ¬ k ∈ l.take (j + 1) := by
  rw [List.take_succ_eq_append_getElem hj, List.mem_append, List.mem_singleton]
  have e : l.getD j 0 = l[j] := by simp [List.getD, hj]
  rw [e] at hne
  exact fun x => x.elim h (fun x => hne x.symm)
theorem has_at {l : List Int} {j : Nat} {k : Int} (hj : j < l.length) (hne : l.getD j 0 = k) : k ∈ l := by
  have e : l.getD j 0 = l[j] := by simp [List.getD, hj]
  rw [← hne, e]
  exact List.getElem_mem _
set_option maxRecDepth 100000 in
set_option maxHeartbeats 2000000 in
theorem ofIn_any (A : Option Addr) (L : List Nd) (c i : Nat) (w : World) (h : TreeAt w w.heap.size A L) (hc : L.length ≤ c) (hm : c ≤ maxLen) (hi : i < L.length) (l : List Int) (g kc : Nat) (K : Option Addr) (hg : w.cell? ⟨g, 0, none⟩ = some (.slice K l.length kc)) (hgl : g < w.heap.size) (hl : l.length ≤ 4000000) (hK : Rd w w.heap.size K l.length (ksV l)) :
    Calls Tryd.prog 56 #[.agg #[.slice A L.length c], .int .i64 (i : Int), .pointer (some ⟨g, 0, none⟩)] w fun e w' => e = .returned (.bool (ofP l L i)) ∧ Below w.heap.size w w' := by
  obtain ⟨ad, rfl, hn⟩ := h i hi; have hb2 := hn.blk; have hb1 : ad.block < w.heap.size := (by rw [block_add] at hb2; exact hb2); have c0 := hn.c0; unfold maxLen at hm; obtain ⟨k, hk⟩ : ∃ k, k = (nd L i).k := ⟨_, rfl⟩; rw [← hk] at c0
  have H := Lib.hid (show ofP l L i = decide (k ∈ l) by rw [hk]; simp [ofP])
  clear hk hn h
  rw [H.out]
  go_enter Tryd.func56, Tryd.ntmps56
  go_wp2
  go_loop [10] (fun t => ∃ j : Nat, j ≤ l.length ∧ t = .int .i64 (j : Int) ∧ Hid (¬ k ∈ l.take j)) (fun t => l.length - (intOf t).toNat)
  case atStart => exact ⟨0, Nat.zero_le _, rfl, Lib.hid (by simp)⟩
  case round =>
    obtain ⟨j, hj, rfl, HT⟩ := hrel
    by_cases hlt : j < l.length
    · obtain ⟨ka, hKa, hkb, kcell⟩ := hK j hlt
      subst hKa
      replace kcell : w.cell? (ka.add j) = some (.int .i64 (l.getD j 0)) := kcell
      have HN := Lib.hid (fun hne => take_no hlt HT.out hne)
      have HY := Lib.hid (fun e => has_at (k := k) hlt e)
      generalize l.getD j 0 = x at *
      go_wp2
      · go_ret
        exact ⟨ret_bool (decide_eq_true (HY.out (by (try simp only [beq_iff_eq, beq_eq_false_iff_ne, bne_iff_ne, bne_eq_false_iff_eq, ne_eq, decide_eq_true_eq, decide_eq_false_iff_not, Bool.and_eq_true, Bool.or_eq_true, Bool.not_eq_true, Bool.not_eq_false, Bool.false_eq_true, Decidable.not_not, Bool.not_eq_eq_eq_not, Bool.not_true, Bool.not_false] at *); omega))).symm, (by (exact bl))⟩
      · go_round
        case rel => exact ⟨j + 1, by omega, by go_num, Lib.hid (HN.out (by (try simp only [beq_iff_eq, beq_eq_false_iff_ne, bne_iff_ne, bne_eq_false_iff_eq, ne_eq, decide_eq_true_eq, decide_eq_false_iff_not, Bool.and_eq_true, Bool.or_eq_true, Bool.not_eq_true, Bool.not_eq_false, Bool.false_eq_true, Decidable.not_not, Bool.not_eq_eq_eq_not, Bool.not_true, Bool.not_false] at *); omega))⟩
        case measure => simp [intOf]; omega
    · obtain rfl : j = l.length := by omega
      go_wp2
      go_ret
      exact ⟨ret_bool (by have := HT.out; rw [List.take_length] at this; exact (decide_eq_false this).symm), (by (exact bl))⟩
set_option maxHeartbeats 1000000 in
theorem of_any (l : List Int) (K : Option Addr) (kc : Nat) (w : World) (hl : l.length ≤ 4000000) (hK : Rd w w.heap.size K l.length (ksV l)) :
    Calls Tryd.prog 38 #[.slice K l.length kc] w fun e w' => (∃ v, e = .returned v ∧ Place Tryd.prog w' v (ofP l)) ∧ Below w.heap.size w w' := by
  have hK2 := Lib.hid hK
  clear hK
  go_enter Tryd.func38, Tryd.ntmps38
  go_wp2
  go_ret
  refine ⟨⟨_, rfl, 56, _, rfl, Tryd.call56, fun W' A L c i hb ht hc hm hi => ?_⟩, (by (exact bl))⟩
  have hz := hb.size
  simp at hz
  refine ofIn_any A L c i W' ht hc hm hi l w.heap.size kc K ?_ (by omega) hl ?_
  · rw [hb.cell (by simp)]; simp [World.cell?_alloc_mark]
  · exact ((hK2.out.alloc (Nat.le_refl _) _).below (hb.mono (by simp))).more (by omega)
theorem within_is (b : Bool) (A : Option Addr) (L : List Nd) (c : Nat) (i : Int) (w : World) (hn : L.length ≤ c) (hm : c ≤ maxLen) (hb : inL L i = b) :
    Calls Tryd.prog 26 #[.agg #[.slice A L.length c], .int .i64 i] w fun e w' => e = .returned (.bool b) ∧ Below w.heap.size w w' :=
  (within_any A L.length c i w hn hm).mono fun _ _ ⟨h1, h2⟩ => ⟨h1.trans (by rw [← hb]; rfl), h2⟩
set_option maxRecDepth 100000 in
set_option maxHeartbeats 4000000 in
theorem rowsIn_any (A : Option Addr) (L : List Nd) (c i : Nat) (w : World) (h : TreeAt w w.heap.size A L) (hc : L.length ≤ c) (hm : c ≤ maxLen) (hi : i < L.length) (p : Plc) (v : Value) (g : Nat) (hg : w.cell? ⟨g, 0, none⟩ = some v) (hgl : g < w.heap.size) (hv : Place Tryd.prog w v p) :
    Calls Tryd.prog 57 #[.agg #[.slice A L.length c], .int .i64 (i : Int), .pointer (some ⟨g, 0, none⟩)] w fun e w' => e = .returned (.bool (rowsP p L i)) ∧ Below w.heap.size w w' := by
  have hT := Lib.hid h
  have hm2 := Lib.hid hm
  obtain ⟨ad, rfl, hn⟩ := h i hi; have hb2 := hn.blk; have hb1 : ad.block < w.heap.size := (by rw [block_add] at hb2; exact hb2); have c0 := hn.c0; unfold maxLen at hm; obtain ⟨k, hk⟩ : ∃ k, k = (nd L i).k := ⟨_, rfl⟩; rw [← hk] at c0
  obtain ⟨K, kc, c3, hK, hkk, hkm⟩ := hn.c3
  unfold maxLen at hkm
  have H := Lib.hid (show rowsP p L i = (k == 2 && (nd L i).ks.all fun j => inL L j && p L j) by rw [hk]; rfl)
  clear hk hn h
  generalize (nd L i).ks = ks at *
  obtain ⟨F, caps, rfl, hF, hP0⟩ := hv
  have hP := Lib.hid hP0
  have hK2 := Lib.hid hK
  clear hP0 hK
  rw [H.out]
  clear H
  by_cases hk2 : k = 2
  · subst hk2
    obtain ⟨n, hn⟩ : ∃ n, n = ks.length := ⟨_, rfl⟩
    rw [← hn] at c3 hkk hK2
    have HN := Lib.hid hn
    clear hn
    go_enter Tryd.func57, Tryd.ntmps57
    go_wp2
    go_loopw [22] (fun t wr => ∃ j : Nat, j ≤ n ∧ t = .int .i64 (j : Int) ∧ Hid ((ks.take j).all (fun j => inL L j && p L j) = true) ∧ Below w.heap.size w wr ∧ w.heap.size < wr.heap.size ∧ wr.cell? ⟨w.heap.size, 0, none⟩ = some (.slice (some ad) L.length c)) (fun t _ => n - (intOf t).toNat)
    case atStart => exact ⟨0, Nat.zero_le _, rfl, Lib.hid rfl, (by (exact bl)), by simp, by simp [World.cell?_alloc_mark]⟩
    case round =>
      obtain ⟨j, hj, rfl, HT, hb, hz, hbox⟩ := hrel
      by_cases hlt : j < n
      · obtain ⟨ka, hKa, hkb, kcell⟩ := hK2.out j hlt
        subst hKa
        replace kcell : wr.cell? (ka.add j) = some (.int .i64 (ks.getD j 0)) := (hb.cell (by rw [block_add]; exact hkb)).trans kcell
        have hg2 : wr.cell? ⟨g, 0, none⟩ = some (.func (.func F) #[] caps) := (hb.cell hgl).trans hg
        have HY := Lib.hid (fun e => all_take (f := fun j => inL L j && p L j) (by rw [← HN.out]; exact hlt) HT.out e)
        have HB := Lib.hid (fun e => all_bad (f := fun j => inL L j && p L j) (by rw [← HN.out]; exact hlt) e)
        generalize ks.getD j 0 = x at *
        clear hg
        rcases Bool.eq_false_or_eq_true (inL L x) with hx | hx
        · obtain ⟨xn, rfl, hxn⟩ := inL_nat hx
          go_wp2_with (first
            | (go_at_call 26; (with_reducible refine (within_is true (some ad) L c _ _ hc hm2.out hx).mono ?_); rintro e w1 ⟨rfl, b1⟩; have z1 := Below.size b1; have g1 : w1.cell? ⟨g, 0, none⟩ = some (.func (.func F) #[] caps) := (b1.cell (p := ⟨g, 0, none⟩) (by show g < wr.heap.size; omega)).trans hg2; have x1 : w1.cell? ⟨w.heap.size, 0, none⟩ = some (.slice (some ad) L.length c) := (b1.cell (p := ⟨w.heap.size, 0, none⟩) hz).trans hbox)
            | ((with_reducible refine (hP.out w1 _ L c xn (hb.trans (b1.mono (by omega))) (hT.out.later (hb.trans (b1.mono (by omega)))) hc hm2.out hxn).mono ?_); rintro e w2 ⟨rfl, b2⟩; have z2 := Below.size b2)
            | fail)
          all_goals
            have bw := hb.trans (b1.mono (B' := w.heap.size) (by omega))
            have bw2 := bw.trans (b2.mono (B' := w.heap.size) (by omega))
          · go_ret
            exact ⟨ret_bool (by rw [HB.out (by rw [hx, Bool.true_and]; first | assumption | ((try simp only [beq_iff_eq, beq_eq_false_iff_ne, bne_iff_ne, bne_eq_false_iff_eq, ne_eq, decide_eq_true_eq, decide_eq_false_iff_not, Bool.and_eq_true, Bool.or_eq_true, Bool.not_eq_true, Bool.not_eq_false, Bool.false_eq_true, Decidable.not_not, Bool.not_eq_eq_eq_not, Bool.not_true, Bool.not_false] at *); assumption))]; rfl), bw2⟩
          · go_roundw
            case rel => exact ⟨j + 1, by omega, by go_num, Lib.hid (HY.out (by rw [hx, Bool.true_and]; first | assumption | ((try simp only [beq_iff_eq, beq_eq_false_iff_ne, bne_iff_ne, bne_eq_false_iff_eq, ne_eq, decide_eq_true_eq, decide_eq_false_iff_not, Bool.and_eq_true, Bool.or_eq_true, Bool.not_eq_true, Bool.not_eq_false, Bool.false_eq_true, Decidable.not_not, Bool.not_eq_eq_eq_not, Bool.not_true, Bool.not_false] at *); assumption))), bw2, by omega, (b2.cell (p := ⟨w.heap.size, 0, none⟩) (by show w.heap.size < w1.heap.size; omega)).trans x1⟩
            case measure => simp [intOf]; omega
        · go_wp2_with (first
            | (go_at_call 26; (with_reducible refine (within_is false (some ad) L c _ _ hc hm2.out hx).mono ?_); rintro e w1 ⟨rfl, b1⟩; have z1 := Below.size b1)
            | fail)
          go_ret
          exact ⟨ret_bool (by rw [HB.out (by rw [hx, Bool.false_and])]; rfl), hb.trans (b1.mono (B' := w.heap.size) (by omega))⟩
      · obtain rfl : j = n := by omega
        go_wp2
        go_ret
        refine ⟨ret_bool ?_, hb⟩
        have := HT.out
        rw [HN.out, List.take_length] at this
        rw [this]; rfl
  · have hk2' : (k != 2) = true := by simpa using hk2
    have hk3 : (k == 2) = false := by simpa using hk2
    go_enter Tryd.func57, Tryd.ntmps57
    go_wp2
    go_ret
    exact ⟨ret_bool (by rw [hk3]; rfl), (by (exact bl))⟩
end
section
set_option linter.unusedVariables false
set_option linter.unusedSimpArgs false
set_option linter.unnecessarySimpa false
open Go.RowKit
attribute [local go_sem] cell_alloc_add cell_set_add lt_more
set_option maxRecDepth 100000 in
set_option maxHeartbeats 4000000 in
theorem orIn_any (A : Option Addr) (L : List Nd) (c i : Nat) (w : World) (h : TreeAt w w.heap.size A L) (hc : L.length ≤ c) (hm : c ≤ maxLen) (hi : i < L.length) (p q : Plc) (u v : Value) (g g' : Nat) (hg : w.cell? ⟨g, 0, none⟩ = some u) (hgl : g < w.heap.size) (hu : Place Tryd.prog w u p) (hg' : w.cell? ⟨g', 0, none⟩ = some v) (hgl' : g' < w.heap.size) (hv : Place Tryd.prog w v q) :
    Calls Tryd.prog 58 #[.agg #[.slice A L.length c], .int .i64 (i : Int), .pointer (some ⟨g, 0, none⟩), .pointer (some ⟨g', 0, none⟩)] w fun e w' => e = .returned (.bool (orP p q L i)) ∧ Below w.heap.size w w' := by
  have hT := Lib.hid h
  have hm2 := Lib.hid hm
  obtain ⟨F, caps, rfl, hF, hP0⟩ := hu
  obtain ⟨F', caps', rfl, hF', hP0'⟩ := hv
  have hP := Lib.hid hP0
  have hP' := Lib.hid hP0'
  have H := Lib.hid (show orP p q L i = (p L i || q L i) from rfl)
  clear hP0 hP0' h hm
  rw [H.out]
  clear H
  have bx : Below w.heap.size w (w.alloc (.cells #[.slice A L.length c] 24)) := (by (exact bl))
  go_enter Tryd.func58, Tryd.ntmps58
  go_wp2_with (first
    | ((with_reducible refine (hP.out _ _ L c i bx (hT.out.later bx) hc hm2.out hi).mono ?_); rintro e w1 ⟨rfl, b1⟩; have z1 := Below.size b1; have bw1 := bx.trans (b1.mono (by simp)); have g1 : w1.cell? ⟨g', 0, none⟩ = some (.func (.func F') #[] caps') := (bw1.cell (p := ⟨g', 0, none⟩) hgl').trans hg'; have x1 : w1.cell? ⟨w.heap.size, 0, none⟩ = some (.slice A L.length c) := (b1.cell (p := ⟨w.heap.size, 0, none⟩) (by simp)).trans (by simp [World.cell?_alloc_mark]))
    | ((with_reducible refine (hP'.out w1 _ L c i bw1 (hT.out.later bw1) hc hm2.out hi).mono ?_); rintro e w2 ⟨rfl, b2⟩; have z2 := Below.size b2; have bw2 := bw1.trans (b2.mono (by simp at z1; omega)))
    | fail)
  · go_ret
    exact ⟨ret_bool (by rename_i h; rw [h]; rfl), bw1⟩
  · go_ret
    exact ⟨ret_bool (by rename_i h; rw [Bool.not_eq_true] at h; rw [h]; rfl), bw2⟩
set_option maxHeartbeats 1000000 in
theorem or_any (p q : Plc) (u v : Value) (w : World) (hu : Place Tryd.prog w u p) (hv : Place Tryd.prog w v q) :
    Calls Tryd.prog 41 #[u, v] w fun e w' => (∃ x, e = .returned x ∧ Place Tryd.prog w' x (orP p q)) ∧ Below w.heap.size w w' := by
  have hu2 := Lib.hid hu
  have hv2 := Lib.hid hv
  obtain ⟨F, caps, rfl, _⟩ := hu
  obtain ⟨F', caps', rfl, _⟩ := hv
  go_enter Tryd.func41, Tryd.ntmps41
  go_wp2
  go_ret
  have b0 : Below w.heap.size w ((w.alloc (.cells #[.func (.func F) #[] caps] 59)).alloc (.cells #[.func (.func F') #[] caps'] 59)) := (by (exact bl))
  refine ⟨⟨_, rfl, 58, _, rfl, Tryd.call58, fun W' A L c i hb ht hc hm hi => ?_⟩, b0⟩
  have hz := hb.size
  simp at hz
  refine orIn_any A L c i W' ht hc hm hi p q _ _ w.heap.size (w.heap.size + 1) ?_ (by omega) ((hu2.out.later b0).later hb) ?_ (by omega) ((hv2.out.later b0).later hb)
  · rw [hb.cell (p := ⟨w.heap.size, 0, none⟩) (by simp; omega)]; simp [World.cell?_alloc_mark]
  · rw [hb.cell (p := ⟨w.heap.size + 1, 0, none⟩) (by simp)]; simp [World.cell?_alloc_mark]
set_option maxHeartbeats 1000000 in
theorem rows_any (p : Plc) (u : Value) (w : World) (hu : Place Tryd.prog w u p) :
    Calls Tryd.prog 39 #[u] w fun e w' => (∃ x, e = .returned x ∧ Place Tryd.prog w' x (rowsP p)) ∧ Below w.heap.size w w' := by
  have hu2 := Lib.hid hu
  obtain ⟨F, caps, rfl, _⟩ := hu
  go_enter Tryd.func39, Tryd.ntmps39
  go_wp2
  go_ret
  have b0 : Below w.heap.size w (w.alloc (.cells #[.func (.func F) #[] caps] 59)) := (by (exact bl))
  refine ⟨⟨_, rfl, 57, _, rfl, Tryd.call57, fun W' A L c i hb ht hc hm hi => ?_⟩, b0⟩
  have hz := hb.size
  simp at hz
  refine rowsIn_any A L c i W' ht hc hm hi p _ w.heap.size ?_ (by omega) ((hu2.out.later b0).later hb)
  rw [hb.cell (p := ⟨w.heap.size, 0, none⟩) (by simp)]; simp [World.cell?_alloc_mark]
theorem of_lit (w : World) (l : List Int) (n kc : Nat) (cs : Array Value) (t : TypeId) (hn : l.length = n) (hl : n ≤ 4000000) (h : cs = (l.map fun k => Value.int .i64 k).toArray) :
    Calls Tryd.prog 38 #[.slice (some ⟨w.heap.size, 0, none⟩) n kc] (w.alloc (.cells cs t)).drew fun e w' => (∃ v, e = .returned v ∧ Place Tryd.prog w' v (ofP l)) ∧ Below (w.alloc (.cells cs t)).heap.size (w.alloc (.cells cs t)).drew w' := by
  subst hn
  exact of_any l _ kc _ hl (rd_lit w l cs t h).drew
set_option maxRecDepth 100000 in
set_option maxHeartbeats 4000000 in
theorem isSpot_any (A : Option Addr) (L : List Nd) (c i : Nat) (w : World) (h : TreeAt w w.heap.size A L) (hc : L.length ≤ c) (hm : c ≤ maxLen) (hi : i < L.length) : Calls Tryd.prog 46 #[.agg #[.slice A L.length c], .int .i64 (i : Int)] w fun e w' => e = .returned (.bool (spotP L i)) ∧ Below w.heap.size w w' := by
  have hT := Lib.hid h
  have hm2 := Lib.hid hm
  clear h hm
  have bx : Below w.heap.size w (w.alloc (.cells #[.slice A L.length c] 24)) := (by (exact bl))
  have x0 : (w.alloc (.cells #[.slice A L.length c] 24)).cell? ⟨w.heap.size, 0, none⟩ = some (.slice A L.length c) := by simp [World.cell?_alloc_mark]
  have z0 : w.heap.size < (w.alloc (.cells #[.slice A L.length c] 24)).heap.size := by simp
  go_enter Tryd.func46, Tryd.ntmps46
  go_wp2
  obtain ⟨wo, hwo⟩ : ∃ wo : World, wo = (w.alloc (.cells #[.slice A L.length c] 24)) := ⟨_, rfl⟩
  rw [← hwo] at x0 z0 bx ⊢
  clear hwo
  have ne := World.new_ne wo _ x0
  have HO := Lib.hid (of_lit wo [17, 29, 30] 3 3 #[.int .i64 17, .int .i64 29, .int .i64 30] 3 rfl (by decide) rfl)
  have hb3 : Below w.heap.size w (wo.alloc (.cells #[.int .i64 17, .int .i64 29, .int .i64 30] 3)).drew := (by (exact bl))
  go_region_held3 (fun w' => w'.cell? ⟨w.heap.size, 0, none⟩ = some (.slice A L.length c)) (go_keep) (first
    | (go_at_call 38; (with_reducible refine HO.out.mono ?_); rintro e w1 ⟨⟨v, rfl, F, caps, rfl, hF, hP0⟩, b1⟩; have hP := Lib.hid hP0; clear hP0; have x1 : w1.cell? ⟨w.heap.size, 0, none⟩ = some (.slice A L.length c) := (b1.cell (p := ⟨w.heap.size, 0, none⟩) (by simp; omega)).trans (by go_keep); have bw1 := hb3.trans (b1.mono (B' := w.heap.size) (by simp; omega)))
    | ((with_reducible refine (hP.out w1 _ L c i (Below.refl _ _) (hT.out.later bw1) hc hm2.out hi).mono ?_); rintro e w2 ⟨rfl, b2⟩; have bw2 := bw1.trans (b2.mono (B' := w.heap.size) bw1.size); have x2 : w2.cell? ⟨w.heap.size, 0, none⟩ = some (.slice A L.length c) := (b2.cell (p := ⟨w.heap.size, 0, none⟩) (World.block_lt_of_cell? w1 _ x1)).trans x1)
    | fail)
  go_wp2
  go_ret
  exact ⟨rfl, bw2⟩
end
end Go.Proofs.YtpkdhciokiomlaaDoor
