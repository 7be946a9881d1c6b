/- Some texts of this claim, put together. -/
import Derived.Test.YtjaijlkonkgnmaaGreatDoorHBJ
import Derived.Test.YtjaijlkonkgnmaaGreatDoorHBB
import Derived.Deep.QuietTactic
import Derived.Test.YtjaijlkonkgnmaaGreatDoorHBI
import Derived.Test.YtjaijlkonkgnmaaGreatDoorHBC
namespace Go.Proofs.YtjaijlkonkgnmaaGreatDoor
section
set_option linter.unusedVariables false
set_option linter.unusedSimpArgs false
set_option linter.unnecessarySimpa false
open Go.RowKit
attribute [local go_sem] cell_alloc_add cell_set_add lt_more
theorem ch_last {L : List Nd} {ks : List Int} {a e : Nat} (h : Ch L ks a e) (hn : ks ≠ []) : ∃ k : Nat, ks.getD (ks.length - 1) 0 = (k : Int) ∧ Sp L k e ∧ a ≤ k := by
  induction h with
  | nil a => exact absurd rfl hn
  | @cons ks a m e h0 hf h1 h2 ih1 ih2 =>
    cases ks with
    | nil => cases h2; exact ⟨a, rfl, ⟨h0, hf, h1⟩, Nat.le_refl _⟩
    | cons k ks =>
      obtain ⟨k', e1, e2, e3⟩ := ih2 (by simp)
      have := h1.le
      refine ⟨k', ?_, e2, by omega⟩
      simpa using e1
theorem sp_leaf {L : List Nd} {n e : Nat} (h : Sp L n e) (hn : (nd L n).ks.length = 0) : e = n + 1 := by
  have h2 := h.2.2
  rw [List.eq_nil_of_length_eq_zero hn] at h2
  cases h2; rfl
set_option maxRecDepth 100000 in
set_option maxHeartbeats 4000000 in
theorem end_any (A : Option Addr) (L : List Nd) (N c : Nat) (hN : L.length = N) (hc : N ≤ c) (hm : c ≤ maxLen) (n e : Nat) (hs : Sp L n e) (w : World) (h : TreeAt w w.heap.size A L) : Calls Tryz.prog 34 #[.agg #[.slice A N c], .int .i64 (n : Int)] w fun r w' => r = .returned (.int .i64 (e : Int)) ∧ Below w.heap.size w w' := by
  obtain ⟨wa, hwa⟩ : ∃ wa : World, wa = w.alloc (.cells #[.slice A N c] 24) := ⟨_, rfl⟩
  have bA : Below w.heap.size w wa := by rw [hwa]; exact (by (repeat (first | (with_reducible exact Below.refl _ _) | (with_reducible assumption) | (with_reducible refine Below.setCell ?_ (by first | omega | (simp <;> omega)) _) | (with_reducible refine Below.alloc ?_ (by first | omega | (simp <;> omega)) _) | (with_reducible refine Below.drew ?_) | (with_reducible refine below_drewN ?_ _) | (with_reducible refine Below.trans ?_ (Below.mono (by with_reducible assumption) (by first | omega | (simp <;> omega)))))))
  have rT : Row wa w.heap.size 24 #[.slice A N c] := by rw [hwa]; exact row_new rfl
  have hT := Lib.hid (h.below bA)
  have HN := Lib.hid hN
  have HS := Lib.hid hs
  have hnN : n < N := by have := hs.1; omega
  have t0 := rT.cell 0
  simp at t0
  unfold maxLen at hm
  clear h hs hN rT
  go_enter Tryz.func34, Tryz.ntmps34
  go_upto_region 1 with fail
  rw [← hwa]
  clear hwa
  go_loopw [1] (fun t wr => ∃ q : Nat, q < N ∧ t = .int .i64 (q : Int) ∧ Hid (Sp L q e) ∧ ∃ d, wr = wa.drewN d) (fun t _ => N - (intOf t).toNat)
  case atStart => exact ⟨n, hnN, rfl, HS, 0, rfl⟩
  case round =>
    obtain ⟨q, hq, rfl, HQ, d, rfl⟩ := hrel
    clear hnN HS
    have hqL : q < L.length := by rw [HN.out]; exact hq
    obtain ⟨ad, rfl, hn⟩ := hT.out q hqL
    obtain ⟨K, kc, c0, c1, c2, c3, c4, hK, hkk, hkm⟩ := node_open hn
    have hqi : (q : Int) < (N : Int) := by omega
    have hCL := Lib.hid (fun hne => ch_last HQ.out.2.2 hne)
    have hLE := Lib.hid (fun h0 => sp_leaf HQ.out h0)
    have hSL := Lib.hid (HQ.out.len)
    clear hn c0 c1 c2 c4
    unfold maxLen at hkm
    generalize hks : (nd L q).ks = ks at *
    generalize hMM : ks.length = M at *
    have HM := Lib.hid hMM
    clear hMM hks
    by_cases hM0 : M = 0
    · have he := hLE.out hM0
      subst hM0
      subst he
      have hwr : IntKind.i64.wrap ((q : Int) + 1) = (q : Int) + 1 := by rw [IntKind.wrap_i64]; omega
      go_wp2
      go_ret
      exact ⟨by go_num, bA.trans (by (repeat (first | (with_reducible exact Below.refl _ _) | (with_reducible assumption) | (with_reducible refine Below.setCell ?_ (by first | omega | (simp <;> omega)) _) | (with_reducible refine Below.alloc ?_ (by first | omega | (simp <;> omega)) _) | (with_reducible refine Below.drew ?_) | (with_reducible refine below_drewN ?_ _) | (with_reducible refine Below.trans ?_ (Below.mono (by with_reducible assumption) (by first | omega | (simp <;> omega)))))))⟩
    · obtain ⟨m, rfl⟩ : ∃ m, M = m + 1 := ⟨M - 1, by omega⟩
      obtain ⟨k, ek, hsk, hak⟩ := hCL.out (by intro e0; rw [e0] at HM; have := HM.out; simp at this)
      obtain ⟨kd, hKd, hkb, kcell⟩ := hK m (by omega)
      subst hKd
      rw [Nat.add_sub_cancel] at ek
      replace kcell : wa.cell? (kd.add m) = some (.int .i64 (k : Int)) := by rw [kcell]; show some (Value.int .i64 (ks.getD m 0)) = _; rw [ek]
      have hmi : (m : Int) < ((m + 1 : Nat) : Int) := by omega
      have hwr : IntKind.i64.wrap (((m + 1 : Nat) : Int) - 1) = (m : Int) := by rw [IntKind.wrap_i64]; omega
      have HSK := Lib.hid hsk
      have hkN : k < N := by have := hsk.1; have := HN.out; omega
      clear hsk ek hK hCL hLE
      go_wp2
      go_quiet (fail)
      go_wp2
      exact ⟨⟨k, hkN, by go_num, HSK, ⟨_, World.drewN_drewN _ _ _⟩⟩, by simp [intOf]; omega⟩
end
section
set_option linter.unusedVariables false
set_option linter.unusedSimpArgs false
set_option linter.unnecessarySimpa false
open Go.RowKit
attribute [local go_sem] cell_alloc_add cell_set_add lt_more
/-- The nodes of a span, put to the front. -/
def cutL (L : List Nd) (n e : Nat) : List Nd := ((L.drop n).take (e - n)).map (shN (-(n : Int)))
def subE (L : List Nd) (n : Int) : Int := if (chk L).2 = 0 then (if 0 ≤ n ∧ n < (L.length : Int) then 0 else 1) else (chk L).2
/-- What Sub makes. -/
def SubOf (L : List Nd) (n : Int) (l : List Nd) : Prop := (subE L n ≠ 0 → l = []) ∧ (subE L n = 0 → ∃ e, Sp L n.toNat e ∧ l = cutL L n.toNat e)
theorem TreeAt.sub {W : World} {B : Nat} {ad : Addr} {L : List Nd} (h : TreeAt W B (some ad) L) (n e : Nat) (he : e ≤ L.length) : TreeAt W B (some (ad.add (n * 5))) ((L.drop n).take (e - n)) := fun j hj => by
  have hl : j < e - n ∧ n + j < L.length := by rw [List.length_take, List.length_drop] at hj; omega
  obtain ⟨ad', e1, h1⟩ := h (n + j) hl.2
  injection e1 with e1
  subst e1
  refine ⟨_, rfl, ?_⟩
  rw [add_add, show n * 5 + j * 5 = (n + j) * 5 by omega]
  have : nd ((L.drop n).take (e - n)) j = nd L (n + j : Nat) := by
    have h1 := nd_get (L := (L.drop n).take (e - n)) hj
    rw [List.getElem?_take, if_pos hl.1, List.getElem?_drop, nd_get hl.2] at h1
    exact (Option.some.inj h1).symm
  rw [this]; exact h1
theorem OwnT.nil (W : World) (base : Nat) : OwnT W base (.slice none 0 0) [] := ⟨World.ownsRow_nil _ _ _ _, ⟨(fun p hp => by cases hp), List.Pairwise.nil, (fun p hp => by cases hp)⟩⟩
theorem sub_len {L : List Nd} {n e : Nat} (he : e ≤ L.length) : ((L.drop n).take (e - n)).length = e - n := by rw [List.length_take, List.length_drop]; omega
theorem sub_nd {L : List Nd} {n e : Nat} (j : Nat) {P : Nd → Prop} (h0 : P nd0) (h : ∀ i : Nat, P (nd L i)) : P (nd ((L.drop n).take (e - n)) j) := by
  rcases Nat.lt_or_ge j ((L.drop n).take (e - n)).length with hj | hj
  · have h1 := nd_get (L := (L.drop n).take (e - n)) hj
    have hl : j < e - n ∧ n + j < L.length := by rw [List.length_take, List.length_drop] at hj; omega
    rw [List.getElem?_take, if_pos hl.1, List.getElem?_drop, nd_get hl.2] at h1
    rw [← Option.some.inj h1]
    exact h _
  · rw [nd_nat, List.getD_eq_getElem?_getD, List.getElem?_eq_none hj]; exact h0
set_option maxRecDepth 100000 in
set_option maxHeartbeats 8000000 in
theorem Sub_any (A : Option Addr) (L : List Nd) (N c : Nat) (hN : L.length = N) (hc : N ≤ c) (hm : c ≤ maxLen) (hL : N ≤ 1000000) (hx : ∀ j : Nat, (nd L j).x.size ≤ 4000000) (hks : ∀ j : Nat, (nd L j).ks.length ≤ 1000000000000) (n : Int) (w : World) (h : TreeAt w w.heap.size A L) (hmx : Mx w) (hw00 : 0 < w.heap.size) : Calls Tryz.prog 23 #[.agg #[.slice A N c], .int .i64 n] w fun r w' => (∃ v l, r = .returned (.tuple #[.agg #[v], .int .i64 (subE L n)]) ∧ OwnT w' w.heap.size v l ∧ SubOf L n (l.map (·.1))) ∧ Below w.heap.size w w' := by
  obtain ⟨wa, hwa⟩ : ∃ wa : World, wa = (w.alloc (.cells #[.slice A N c] 24)).alloc (.cells #[.slice none 0 0] 24) := ⟨_, rfl⟩
  have bA : Below w.heap.size w wa := by rw [hwa]; exact (by (repeat (first | (with_reducible exact Below.refl _ _) | (with_reducible assumption) | (with_reducible refine Below.setCell ?_ (by first | omega | (simp <;> omega)) _) | (with_reducible refine Below.alloc ?_ (by first | omega | (simp <;> omega)) _) | (with_reducible refine Below.drew ?_) | (with_reducible refine below_drewN ?_ _) | (with_reducible refine Below.trans ?_ (Below.mono (by with_reducible assumption) (by first | omega | (simp <;> omega)))))))
  have zA : w.heap.size + 1 < wa.heap.size := by rw [hwa]; simp
  have zA0 : w.heap.size < wa.heap.size := by omega
  have rT : Row wa w.heap.size 24 #[.slice A N c] := by rw [hwa]; exact (row_new rfl).alloc _
  have rR : Row wa (w.heap.size + 1) 24 #[.slice none 0 0] := by rw [hwa]; exact row_new (by simp)
  have t0 := rT.cell 0
  simp at t0
  have HC := Lib.hid (fun W (hb : Below w.heap.size w W) => hN ▸ Check_any A L c (by omega) hm (by omega) hx W (h.later hb) (hmx.below hb hw00) (by have := Below.size hb; omega))
  have HWI := Lib.hid (fun W => within_any A N c n W hc hm)
  have HEN := Lib.hid (fun n e hs W (hb : Below w.heap.size w W) => end_any A L N c hN hc hm n e hs W (h.later hb))
  have HMO := Lib.hid (fun n e (he : e ≤ L.length) (hne : n ≤ e) ad (hA : A = some ad) W (hb : Below w.heap.size w W) => moved_any (some (ad.add (n * 5))) ((L.drop n).take (e - n)) (e - n) (sub_len he) (c - n) (-(n : Int)) (by omega) (by omega) (by omega) (fun j => sub_nd j (P := fun y => y.ks.length ≤ 1000000000000) (Nat.zero_le _) hks) W ((hA ▸ h.later hb : TreeAt W W.heap.size (some ad) L).sub n e he))
  have HG := Lib.hid (good_iff (L := L))
  have HSB := Lib.hid (fun l => (show SubOf L n l ↔ _ from Iff.rfl))
  have HSE := Lib.hid (show subE L n = if (chk L).2 = 0 then (if 0 ≤ n ∧ n < (L.length : Int) then 0 else 1) else (chk L).2 from rfl)
  have HAD := Lib.hid (fun h0 => h.addr h0)
  have HN := Lib.hid hN
  rcases hR : chk L with ⟨ra, re⟩
  rw [hR] at HC HG HSE
  simp only at HC HG HSE
  unfold maxLen at hm
  clear h hx hks hmx hN hR
  go_enter Tryz.func23, Tryz.ntmps23
  go_upto_region 1 with fail
  rw [← hwa]
  clear hwa
  by_cases he : re = 0
  · subst he
    rw [if_pos rfl] at HSE
    have HGT := Lib.hid (HG.out.1 rfl)
    by_cases hin : 0 ≤ n ∧ n < (N : Int)
    · have hse : subE L n = 0 := by rw [HSE.out, if_pos (by rw [HN.out]; exact hin)]
      have hwi : (decide (0 ≤ n) && decide (n < (N : Int))) = true := by simp [hin.1, hin.2]
      rw [hwi] at HWI
      obtain ⟨hn1, hn2⟩ := hin
      obtain ⟨i, rfl⟩ : ∃ i : Nat, n = (i : Int) := ⟨n.toNat, by omega⟩
      have hiN : i < N := by omega
      obtain ⟨e, hs⟩ := good_sub HGT.out (by rw [HN.out]; exact hiN)
      have hse1 := hs.lt
      have hse2 := hs.len
      obtain ⟨ad, rfl, hab⟩ := HAD.out (by rw [HN.out]; omega)
      have HE := Lib.hid (HEN.out i e hs)
      have HM := Lib.hid (HMO.out i e hse2 (by omega) ad rfl)
      have HSP := Lib.hid hs
      have heN : e ≤ N := by rw [← HN.out]; exact hse2
      have hec : (e : Int) ≤ (c : Int) := by omega
      have hie : (i : Int) ≤ (e : Int) := by omega
      have hci : ¬ c = i := by omega
      have hneg : IntKind.i64.wrap (-(i : Int)) = -(i : Int) := by rw [IntKind.wrap_i64]; omega
      clear HEN HMO HAD HG hs hwi hse2
      go_upto_region 6 with (first
        | (go_at_call 19; (with_reducible refine (HC.out _ bA).mono ?_); rintro r w1 ⟨rfl, b1⟩; have q1 := bA.trans (b1.mono bA.size); have rT1 := rT.below b1 zA0; have e1 := rT1.cell 0; simp at e1)
        | (go_at_call 33; (with_reducible refine (HWI.out _).mono ?_); rintro r w2 ⟨rfl, b2⟩)
        | fail)
      have q2 := q1.trans (b2.mono q1.size)
      have rT2 := rT1.below b2 rT1.lt
      have rR2 := (rR.below b1 zA).below b2 (by have := b1.size; omega)
      have t2 := rT2.cell 0
      have r2 := rR2.cell 0
      have f2 := rR2.free 0
      simp at t2 r2
      have z2 := Below.size q2
      have l2 := rR2.lt
      have l2' := rT2.lt
      clear rT rR t0 bA zA zA0 rT1 e1 b1 b2 q1 HC HWI
      go_region_law (first
        | (go_simp; go_at_call 34; (with_reducible refine (HE.out _ (by (repeat (first | (with_reducible exact Below.refl _ _) | (with_reducible assumption) | (with_reducible refine Below.setCell ?_ (by first | omega | (simp <;> omega)) _) | (with_reducible refine Below.alloc ?_ (by first | omega | (simp <;> omega)) _) | (with_reducible refine Below.drew ?_) | (with_reducible refine below_drewN ?_ _) | (with_reducible refine Below.trans ?_ (Below.mono (by with_reducible assumption) (by first | omega | (simp <;> omega)))))))).mono ?_); rintro r w3 ⟨rfl, b3⟩; have b3' : Below w2.heap.size w2 w3 := ⟨b3.os, b3.tape, b3.output, b3.size, b3.block⟩; have q3 := q2.trans (b3'.mono z2); have rR3 := rR2.below b3' l2; have rT3 := rT2.below b3' l2'; have t3 := rT3.cell 0; have l3 := rT3.lt; simp at t3; have z3 := Below.size b3')
        | (go_simp; go_at_call 32; (with_reducible refine (HM.out _ q3).mono ?_); rintro r w4 ⟨⟨v4, l4, rfl, hO4, hl4⟩, b4⟩; obtain ⟨A4, c4, rfl, hc4, hm4⟩ := own_slice hO4.row; have rR4 := rR3.below b4 rR3.lt; have l4' := rR4.lt; have r4 := rR4.cell 0; have f4 := rR4.free 0; simp at r4)
        | fail)
      all_goals go_wp2
      all_goals
        have r5 := row_put1 rR4 (.slice A4 l4.length c4)
        have r50 := r5.cell 0
        simp at r50
        refine bodyPost_ret (v := .tuple #[.agg #[.slice A4 l4.length c4], .int .i64 0]) (by simp [results, Tryz.results23, go_sem, r50, f4, l4']) rfl ?_
        rw [hse]
        refine ⟨⟨_, l4, rfl, (hO4.far (by show w.heap.size + 1 < w3.heap.size; omega) _).mono (by omega), ?_⟩, ?_⟩
        · refine ⟨fun h => absurd hse h, fun _ => ⟨e, by rw [Int.toNat_natCast]; exact HSP.out, ?_⟩⟩
          rw [hl4, Int.toNat_natCast]; rfl
        · exact (q3.trans (b4.mono q3.size)).setCell (by show w.heap.size ≤ w.heap.size + 1; omega) _
    · have hse : subE L n = 1 := by rw [HSE.out, if_neg (by rw [HN.out]; exact hin)]
      have hwi : (decide (0 ≤ n) && decide (n < (N : Int))) = false := by simp; omega
      rw [hwi] at HWI
      clear HEN HMO HAD HG
      go_wp2_with (first
        | (go_at_call 19; (with_reducible refine (HC.out _ bA).mono ?_); rintro r w1 ⟨rfl, b1⟩; have q1 := bA.trans (b1.mono bA.size); have rT1 := rT.below b1 zA0; have e1 := rT1.cell 0; simp at e1)
        | (go_at_call 33; (with_reducible refine (HWI.out _).mono ?_); rintro r w2 ⟨rfl, b2⟩; have q2 := q1.trans (b2.mono q1.size); have rR2 := (rR.below b1 zA).below b2 (by have := b1.size; omega); have r2 := rR2.cell 0; have f2 := rR2.free 0; have l2 := rR2.lt; simp at r2)
        | fail)
      have r5 := row_put1 rR2 (.slice none 0 0)
      have r50 := r5.cell 0
      simp at r50
      refine bodyPost_ret (v := .tuple #[.agg #[.slice none 0 0], .int .i64 1]) (by simp [results, Tryz.results23, go_sem, r50, f2, l2]) rfl ?_
      rw [hse]
      exact ⟨⟨_, [], rfl, OwnT.nil _ _, fun _ => rfl, fun h => absurd (hse.symm.trans h) (by decide)⟩, q2.setCell (by show w.heap.size ≤ w.heap.size + 1; omega) _⟩
  · have hse : subE L n = re := by rw [HSE.out, if_neg he]
    have hre : (re != 0) = true := by simpa using he
    clear HEN HMO HAD HG
    go_wp2_with (first
      | (go_at_call 19; (with_reducible refine (HC.out _ bA).mono ?_); rintro r w1 ⟨rfl, b1⟩; have q1 := bA.trans (b1.mono bA.size); have rR1 := rR.below b1 zA; have r1 := rR1.cell 0; have f1 := rR1.free 0; have l1 := rR1.lt; simp at r1)
      | fail)
    have r5 := row_put1 rR1 (.slice none 0 0)
    have r50 := r5.cell 0
    simp at r50
    refine bodyPost_ret (v := .tuple #[.agg #[.slice none 0 0], .int .i64 re]) (by simp [results, Tryz.results23, go_sem, r50, f1, l1]) rfl ?_
    rw [hse]
    exact ⟨⟨_, [], rfl, OwnT.nil _ _, fun _ => rfl, fun h => absurd (hse.symm.trans h) he⟩, q1.setCell (by show w.heap.size ≤ w.heap.size + 1; omega) _⟩
end
section
set_option linter.unusedVariables false
set_option linter.unusedSimpArgs false
set_option linter.unnecessarySimpa false
open Go.RowKit
theorem subOf_det {L : List Nd} {n : Int} {l l' : List Nd} (h : SubOf L n l) (h' : SubOf L n l') : l = l' := by
  by_cases h0 : subE L n = 0
  · obtain ⟨e, h1, h2⟩ := h.2 h0
    obtain ⟨e', h3, h4⟩ := h'.2 h0
    obtain rfl := h1.det h3
    rw [h2, h4]
  · rw [h.1 h0, h'.1 h0]
theorem subOf_len {L : List Nd} {n : Int} {l : List Nd} (h : SubOf L n l) : l.length ≤ L.length := by
  by_cases h0 : subE L n = 0
  · obtain ⟨e, h1, h2⟩ := h.2 h0
    have := h1.len
    rw [h2, cutL, List.length_map, sub_len this]; omega
  · rw [h.1 h0]; exact Nat.zero_le _
end
end Go.Proofs.YtjaijlkonkgnmaaGreatDoor
