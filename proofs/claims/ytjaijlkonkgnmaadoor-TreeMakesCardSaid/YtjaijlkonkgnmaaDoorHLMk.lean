/- The walk of chapter 3's law TreeMakes. -/
import Derived.Test.YtjaijlkonkgnmaaDoorHRMk
import Derived.Test.YtjaijlkonkgnmaaDoorHLt
import Derived.Test.YtjaijlkonkgnmaaDoorHSplW
import Derived.Test.YtjaijlkonkgnmaaDoorHBSB
import Derived.Test.YtjaijlkonkgnmaaDoorHBL
import Derived.Test.YtjaijlkonkgnmaaDoorHBA
import Derived.Deep.RegionLaw
namespace Go.Proofs.YtjaijlkonkgnmaaDoor
set_option linter.unusedVariables false
set_option linter.unusedSimpArgs false
set_option linter.unnecessarySimpa false
open Go.RowKit
attribute [local go_sem] cell_alloc_add cell_set_add lt_more
theorem infoTree : (Tryd.prog.info? 29).map (fun i => (i.zero, i.size, i.bytes)) = some (some (.agg #[.slice none 0 0]), 1, 24) := by kernel_rfl
theorem LentT.grown_tr {W W' : World} {base b n : Nat} {v v8 : Value} {l : List NdV} {xs : List Value} (h : LentT W base v l) (ho : W.ownsRow b 29 1 v8 n xs) (hg : W.grownBy W' v8.ownBlock) : LentT W' base v l := by
  obtain ⟨A, c, e, hr⟩ := h.row
  exact ⟨⟨A, c, e, own_grown hr hg (fun g e e2 => own_two hr ho (by decide) g e2 e)⟩, fun p hp => by
    obtain ⟨K, kc, e, hk⟩ := h.kids p hp
    exact ⟨K, kc, e, own_grown hk hg (fun g e e2 => own_two hk ho (by decide) g e2 e)⟩, h.wide⟩
/-- A row of lent trees. -/
structure LentG (W : World) (base : Nat) (v : Value) (p : Nat) (Ls : List (List Nd)) : Prop where
  len : Ls.length = p
  row : ∃ xs : List Value, W.ownsRow base 29 1 v p xs ∧ ∀ j, j < p → ∃ g c l, xs[j]? = some (.slice (some ⟨g, 0, none⟩) (l : List NdV).length c) ∧ LentT W base (.slice (some ⟨g, 0, none⟩) l.length c) l ∧ l.map (·.1) = Ls.getD j []
theorem LentG.nil (W : World) (base : Nat) : LentG W base (.slice none 0 0) 0 [] := ⟨rfl, [], World.ownsRow_nil _ _ _ _, fun j hj => by omega⟩
theorem LentG.below {W W' : World} {base p : Nat} {v : Value} {Ls : List (List Nd)} (h : LentG W base v p Ls) (hb : Below W.heap.size W W') : LentG W' base v p Ls := by
  obtain ⟨xs, ho, ht⟩ := h.row
  exact ⟨h.len, xs, own_below ho hb, fun j hj => by
    obtain ⟨g, c, l, e, h1, h2⟩ := ht j hj
    exact ⟨g, c, l, e, h1.below hb, h2⟩⟩
theorem LentG.forest {W : World} {base p : Nat} {A : Option Addr} {c : Nat} {Ls : List (List Nd)} (h : LentG W base (.slice A p c) p Ls) : Forest W W.heap.size A Ls := fun j hj => by
  obtain ⟨xs, ho, ht⟩ := h.row
  rw [h.len] at hj
  obtain ⟨g', c', l, e, h1, h2⟩ := ht j hj
  obtain ⟨g, hA, hg1, hg2⟩ := own_form5 ho (by omega)
  subst hA
  obtain ⟨A2, c2, e2, h3, h4, h5, _⟩ := h1.tree
  injection e2 with e21 _ e22
  subst e21 e22
  rw [h2] at h5
  have hl : (Ls.getD j []).length = l.length := by rw [← h2, List.length_map]
  refine ⟨_, some ⟨g', 0, none⟩, c', rfl, hg2, ?_, by rw [hl]; omega, h4, h5⟩
  rw [hl, add_row, Nat.zero_add, ho.cellAt j (by omega), e]
theorem lentG_snoc {W W' : World} {base p : Nat} {v v' : Value} {Ls : List (List Nd)} {xs : List Value} {g c : Nat} {l : List NdV} {K : List Nd} (hlen : Ls.length = p) (ho : W.ownsRow base 29 1 v p xs)
    (ht : ∀ j, j < p → ∃ g c l, xs[j]? = some (.slice (some ⟨g, 0, none⟩) (l : List NdV).length c) ∧ LentT W base (.slice (some ⟨g, 0, none⟩) l.length c) l ∧ l.map (·.1) = Ls.getD j []) (hl : LentT W base (.slice (some ⟨g, 0, none⟩) l.length c) l) (hK : l.map (·.1) = K)
    (ho' : W'.ownsRow base 29 1 v' (p + 1) (xs ++ [.slice (some ⟨g, 0, none⟩) l.length c])) (hg : W.grownBy W' v.ownBlock) : LentG W' base v' (p + 1) (Ls ++ [K]) := by
  have hx : xs.length = p := by have := ho.1; simpa using this
  refine ⟨by simp [hlen], _, ho', fun j hj => ?_⟩
  rcases Nat.lt_or_ge j p with h1 | h1
  · obtain ⟨A', c', l', e, h3, h4⟩ := ht j h1
    refine ⟨A', c', l', by rw [List.getElem?_append_left (by omega)]; exact e, h3.grown_tr ho hg, ?_⟩
    rw [List.getD_eq_getElem?_getD, List.getElem?_append_left (by rw [hlen]; exact h1), ← List.getD_eq_getElem?_getD]; exact h4
  · obtain rfl : j = p := by omega
    refine ⟨g, c, l, by rw [List.getElem?_append_right (by omega), hx, Nat.sub_self]; rfl, hl.grown_tr ho hg, ?_⟩
    rw [List.getD_eq_getElem?_getD, List.getElem?_append_right (by rw [hlen]; exact Nat.le_refl _), hlen, Nat.sub_self]
    exact hK
theorem mkA_len : ∀ (Ls : List (List Nd)) (ks : List Int) (acc : List Nd), (mkA ks acc Ls).2.length ≤ acc.length + sumL Ls ∧ (mkA ks acc Ls).1.length ≤ ks.length + Ls.length
  | [], ks, acc => by rw [mkA_nil]; exact ⟨Nat.le_add_right _ _, Nat.le_add_right _ _⟩
  | l :: ls, ks, acc => by
    by_cases h : l.length = 0
    · rw [mkA_skip h, sumL_cons, List.length_cons]
      have := mkA_len ls ks acc
      omega
    · rw [mkA_step h, sumL_cons, List.length_cons]
      have := mkA_len ls (ks ++ [((acc.length + 1 : Nat) : Int)]) (acc ++ l.map (shN ((acc.length + 1 : Nat) : Int)))
      rw [List.length_append, List.length_append, List.length_map] at this
      simp at this ⊢
      omega
theorem mkA_ks {B : Nat} : ∀ (Ls : List (List Nd)) (ks : List Int) (acc : List Nd), (∀ z ∈ acc, z.ks.length ≤ B) → (∀ l ∈ Ls, ∀ z ∈ l, z.ks.length ≤ B) → ∀ z ∈ (mkA ks acc Ls).2, z.ks.length ≤ B
  | [], ks, acc, h, _ => h
  | l :: ls, ks, acc, h, hl => by
    by_cases h0 : l.length = 0
    · rw [mkA_skip h0]
      exact mkA_ks ls ks acc h (fun m hm => hl m (by simp [hm]))
    · rw [mkA_step h0]
      refine mkA_ks ls _ _ (fun z hz => ?_) (fun m hm => hl m (by simp [hm]))
      rcases List.mem_append.1 hz with hz | hz
      · exact h z hz
      · obtain ⟨u, hu, rfl⟩ := List.mem_map.1 hz
        show (u.ks.map _).length ≤ B
        rw [List.length_map]
        exact hl l (by simp) u hu
theorem sum_le {n : Nat} : ∀ (Ls : List (List Nd)), (∀ l ∈ Ls, l.length ≤ n) → sumL Ls ≤ n * Ls.length
  | [], _ => by simp [sumL]
  | l :: ls, h => by
    rw [sumL_cons, List.length_cons, Nat.mul_succ]
    have := sum_le ls (fun m hm => h m (by simp [hm]))
    have := h l (by simp)
    omega
/-- What is made of small trees is small. -/
theorem mk_small {y : Nd} {Ls : List (List Nd)} (hN : Ls.length ≤ 20) (h : ∀ j, j < Ls.length → wt (Ls.getD j []) ≤ 3000) : sumL Ls ≤ 60000 ∧ (∀ q, q < Ls.length → ∀ j : Nat, (nd (Ls.getD q []) j).ks.length ≤ 1000000000000) ∧ (mkL y Ls).length ≤ 1000000 ∧ ∀ z ∈ mkL y Ls, z.ks.length ≤ 1000000000000 := by
  have hm : ∀ l ∈ Ls, wt l ≤ 3000 := fun l hl => by
    obtain ⟨j, hj, e⟩ := List.getElem_of_mem hl
    have := h j hj
    rw [List.getD_eq_getElem?_getD, List.getElem?_eq_getElem hj] at this
    rw [← e]; exact this
  have hs : sumL Ls ≤ 60000 := by
    have := sum_le (n := 3000) Ls (fun l hl => by have := wt_len l; have := hm l hl; omega)
    have : 3000 * Ls.length ≤ 3000 * 20 := Nat.mul_le_mul_left _ hN
    omega
  have hl := mkA_len Ls [] []
  refine ⟨hs, fun q hq j => by have := wt_nd (Ls.getD q []) j; have := h q hq; omega, ?_, ?_⟩
  · show ((mkA [] [] Ls).2.length + 1) ≤ _
    simp at hl
    omega
  · intro z hz
    rcases List.mem_cons.1 hz with rfl | hz
    · show (mkA [] [] Ls).1.length ≤ _
      simp at hl
      omega
    · refine mkA_ks Ls [] [] (fun z hz => by cases hz) (fun l hl z hz => ?_) z hz
      obtain ⟨j, hj, e⟩ := List.getElem_of_mem hz
      have h1 := nd_get hj
      rw [List.getElem?_eq_getElem hj, e] at h1
      have := wt_nd l j
      have := hm l hl
      rw [← Option.some.inj h1] at *
      omega
theorem take_snoc {Ls : List (List Nd)} {q : Nat} (h : q < Ls.length) : Ls.take (q + 1) = Ls.take q ++ [Ls.getD q []] := by
  rw [List.take_succ_eq_append_getElem h]; simp [List.getD, h]
set_option maxRecDepth 100000 in
set_option maxHeartbeats 16000000 in
theorem TreeMakes_any (y : Nd) (S0 : Option Addr) (n0 c0 : Nat) (Ls : List (List Nd)) (N : Nat) (hN : Ls.length = N) (K : Option Addr) (c : Nat) (hc : N ≤ c) (hm : c ≤ maxLen) (hx : ∀ q, q < N → ∀ j : Nat, (nd (Ls.getD q []) j).ks.length ≤ 1000000000000000 ∧ (nd (Ls.getD q []) j).x.size ≤ 1000000000000000) (hym : -9223372036854775808 ≤ y.m ∧ y.m ≤ 9223372036854775807) (w : World) (h : Forest w w.heap.size K Ls) (hmx : Mx w) (hw00 : 0 < w.heap.size) : Calls Tryd.prog 3 #[.agg #[.int .i64 y.k, .string y.x, .int .i64 y.m, .slice S0 n0 c0, .int .i64 y.p], .slice K N c] w fun e w' => e = .returned (.bool true) ∧ Below w.heap.size w w' := by
  have hX := Lib.hid hmx
  have hF := Lib.hid h
  have HN := Lib.hid hN
  have HX := Lib.hid hx
  have HSM := Lib.hid (fun (z : Nd) (h20 : N ≤ 20) (h : ∀ j, j < N → wt (Ls.getD j []) ≤ 3000) => mk_small (y := z) (by rw [hN]; exact h20) (by rw [hN]; exact h))
  have HMA := Lib.hid (fun n0 A8 c8 (hc8 : N ≤ c8) (hm8 : c8 ≤ maxLen) (h1 : sumL Ls ≤ 60000) (h2 : N ≤ 20) h3 W hf => Make_any y S0 n0 c0 Ls N hN A8 c8 hc8 hm8 (by omega) (by omega) h3 hym W hf)
  have HRA := Lib.hid (fun n0 (h1 : sumL Ls ≤ 60000) (h2 : N ≤ 20) h3 W (hb : Below w.heap.size w W) => rMake_any y S0 n0 c0 Ls N hN K c hc hm (by omega) (by omega) h3 hym W (h.later hb))
  obtain ⟨i0, hi0, iz0, iz1, iz2⟩ := info_parts infoTree
  obtain ⟨k, x, m, ks, p⟩ := y
  have HM0 := Lib.hid (HSM.out ⟨k, x, m, ks, p⟩)
  simp only at HMA HRA HM0 ⊢
  generalize mkL ⟨k, x, m, ks, p⟩ Ls = RL at *
  unfold maxLen at hm
  obtain ⟨wa, hwa⟩ : ∃ wa : World, wa = w.alloc (.cells #[.int .i64 k, .string x, .int .i64 m, .slice S0 n0 c0, .int .i64 p] 24) := ⟨_, rfl⟩
  have bA : Below w.heap.size w wa := by rw [hwa]; exact (by (repeat (first | (with_reducible exact Below.refl _ _) | (with_reducible assumption) | (with_reducible refine Below.setCell ?_ (by first | omega | (simp <;> omega)) _) | (with_reducible refine Below.alloc ?_ (by first | omega | (simp <;> omega)) _) | (with_reducible refine Below.drew ?_) | (with_reducible refine below_drewN ?_ _) | (with_reducible refine Below.trans ?_ (Below.mono (by with_reducible assumption) (by first | omega | (simp <;> omega)))))))
  have zA : w.heap.size < wa.heap.size := by rw [hwa]; simp
  have rT : Row wa w.heap.size 24 #[.int .i64 k, .string x, .int .i64 m, .slice S0 n0 c0, .int .i64 p] := by rw [hwa]; exact row_new rfl
  clear h hN hx hym hmx HSM
  go_enter Tryd.func3, Tryd.ntmps3
  go_upto_region 1 with fail
  rw [← hwa]
  clear hwa
  by_cases h20 : 20 < N
  · have h20' : (20 : Int) < (N : Int) := by omega
    go_wp2
    go_ret
    exact ⟨rfl, bA⟩
  · have h20' : ¬ (20 : Int) < (N : Int) := by omega
    go_wp2
    go_loopw [5, 6] (fun v t wr => ∃ q : Nat, t = .int .i64 (q : Int) ∧ q ≤ N ∧ Hid (LentG wr (w.heap.size + 1) v q (Ls.take q)) ∧ Hid (∀ j, j < q → wt (Ls.getD j []) ≤ 3000) ∧ Row wr w.heap.size 24 #[.int .i64 k, .string x, .int .i64 m, .slice S0 n0 c0, .int .i64 p] ∧ Below w.heap.size w wr) (fun _ t _ => N - (intOf t).toNat)
    case atStart => exact ⟨0, rfl, Nat.zero_le _, Lib.hid (LentG.nil _ _), Lib.hid (fun j hj => by omega), rT, bA⟩
    case round =>
      obtain ⟨q, rfl, hq, HG, HWT, rT, hb⟩ := hrel
      clear bA zA h20'
      generalize hwo : wr = wo at *
      clear hwo
      have hz := Below.size hb
      have lT := rT.lt
      obtain ⟨xs0, ho0, -⟩ := HG.out.row
      obtain ⟨A8, c8, hv8, hc8, hm8⟩ := own_slice ho0
      subst hv8
      clear ho0 xs0
      by_cases hlt : q < N
      · have hqL : q < Ls.length := by rw [HN.out]; exact hlt
        obtain ⟨ad, A, c1, rfl, hab, hcell, hl1, hl2, hTr⟩ := hF.out q hqL
        have HCW := Lib.hid (fun W (hb2 : Below w.heap.size w W) => (hb2.cell (by rw [block_add]; exact hab)).trans hcell)
        have hcw := HCW.out wo hb
        have hado : ad.block < wo.heap.size := by omega
        have HTK := Lib.hid (take_snoc hqL)
        have hxq := HX.out q hlt
        have HGR := Lib.hid (fun W (hb : Below w.heap.size w W) => great_any A (Ls.getD q []) c1 hl1 hl2 hxq W ((hTr.below hb).more hb.size))
        have HLE := Lib.hid (fun (hw : wt (Ls.getD q []) ≤ 3000) W (hb : Below w.heap.size w W) => lent_any A (Ls.getD q []) (Ls.getD q []).length rfl c1 hl1 hl2 (by have := wt_len (Ls.getD q []); omega) (fun j => by have := wt_nd (Ls.getD q []) j; omega) W ((hTr.below hb).more hb.size))
        have hqi : (q : Int) < (N : Int) := by omega
        clear hcell hTr hxq
        by_cases hg : 3000 < wt (Ls.getD q [])
        · rw [decide_eq_true hg] at HGR
          generalize Ls.getD q [] = Lq at *
          generalize Lq.length = nq at *
          go_wp2_with (first
            | (go_at_call 8; (with_reducible refine (HGR.out _ hb).mono ?_); rintro e w1 ⟨rfl, b1⟩)
            | fail)
          go_ret
          exact ⟨rfl, hb.trans (b1.mono hz)⟩
        · rw [decide_eq_false hg] at HGR
          have HLE := Lib.hid (HLE.out (by omega))
          have HW2 := Lib.hid (show ∀ j, j < q + 1 → wt (Ls.getD j []) ≤ 3000 from fun j hj => by
            rcases Nat.lt_or_ge j q with h | h
            · exact HWT.out j h
            · obtain rfl : j = q := by omega
              omega)
          clear hg
          generalize Ls.getD q [] = Lq at *
          generalize hnq : Lq.length = nq at *
          have HNQ := Lib.hid hnq
          clear hnq
          go_wp2_with (first
            | (go_at_call 8; (with_reducible refine (HGR.out _ hb).mono ?_); rintro e w1 ⟨rfl, b1⟩; have q1 := hb.trans (b1.mono hz); have hcw1 := HCW.out w1 q1; have hado1 : ad.block < w1.heap.size := (by have := b1.size; omega))
            | (go_at_call 9; (with_reducible refine (HLE.out _ q1).mono ?_); rintro r w2 ⟨⟨v2, l2, rfl, hT2, hl2'⟩, b2⟩; obtain ⟨A2, c2, hv2, hc2, hm2, -, g2, hg2, -⟩ := hT2.tree; subst hg2; subst hv2; have q2 := q1.trans (b2.mono q1.size); have b12 := b1.trans (b2.mono b1.size); obtain ⟨xs8, ho8, ht8⟩ := (HG.out.below b12).row; have HO8 := Lib.hid ho8; have HT8 := Lib.hid ht8; have hge := own_ge ho8; have hz2 := q2.size; clear ho8 ht8)
            | (at_builtin; refine wpList_append_rd _ rfl (.tmp 24) (.tmp 30) _ rfl (w.heap.size + 1) 29 i0 _ 24 Tryd.underlying25 hi0 iz0 iz1 iz2 rfl (.slice A8 q c8) q xs8 rfl (HO8.out.alloc _) _ _ 1 1 _ rfl (rd_one w2 29 (.slice (some ⟨g2, 0, none⟩) l2.length c2)) (fun _ => rfl) (by unfold maxLen; omega) (by omega) (by simp; omega) ?_; intro v9 w9 own9 hg9 hob9)
            | fail)
          have hlen8 : (Ls.take q).length = q := by rw [List.length_take, HN.out]; omega
          refine ⟨⟨q + 1, by go_num, by omega, Lib.hid ?_, HW2, ?_, ?_⟩, by simp [intOf]; omega⟩
          · rw [HTK.out]
            have hTa : LentT (w2.alloc (.cells #[.slice (some ⟨g2, 0, none⟩) l2.length c2] 29)) (w.heap.size + 1) (.slice (some ⟨g2, 0, none⟩) l2.length c2) l2 := (hT2.below ((Below.refl _ _).alloc (Nat.le_refl _) _)).mono (by have := b1.size; omega)
            exact lentG_snoc (W := w2.alloc (.cells #[.slice (some ⟨g2, 0, none⟩) l2.length c2] 29)) hlen8 (HO8.out.alloc _) (fun j hj => by
              obtain ⟨A', c', l', h1, h2, h3⟩ := HT8.out j hj
              exact ⟨A', c', l', h1, h2.below ((Below.refl _ _).alloc (Nat.le_refl _) _), h3⟩) hTa hl2' own9 hg9
          · exact row_grown ((rT.below b12 lT).alloc _) hg9 (fun e => by have := hge _ e; omega)
          · exact (q2.alloc (by omega) _).grown hg9 (by simp; omega) (fun k hk => by have := hge k hk; omega)
      · obtain rfl : q = N := by omega
        have HG := Lib.hid (show LentG wo (w.heap.size + 1) (.slice A8 q c8) q Ls from by
          have := HG.out
          rw [List.take_of_length_le (by rw [HN.out]; exact Nat.le_refl _)] at this
          exact this)
        obtain ⟨hs1, hs2, hs3, hs4⟩ := HM0.out (by omega) HWT.out
        rw [HN.out] at hs2
        have HS4 := Lib.hid hs4
        have HMK := Lib.hid (fun W (hb2 : Below wo.heap.size wo W) => HMA.out n0 A8 c8 hc8 hm8 hs1 (by omega) hs2 W (HG.out.below hb2).forest)
        have HRK := Lib.hid (fun W hb => HRA.out n0 hs1 (by omega) hs2 W hb)
        clear HMA HRA HM0 hs1 hs2 hs4
        have s0 := rT.cell 0
        have s1 := rT.cell 1
        have s2 := rT.cell 2
        have s3 := rT.cell 3
        have s4 := rT.cell 4
        simp at s0 s1 s2 s3 s4
        by_cases hn0 : 3000 < n0
        · have hn0' : (3000 : Int) < (n0 : Int) := by omega
          go_wp2
          go_ret
          exact ⟨rfl, hb⟩
        · have hn0' : ¬ (3000 : Int) < (n0 : Int) := by omega
          go_upto_region 13 with (first
            | (go_at_call 10; (with_reducible refine (HMK.out _ (Below.refl _ _)).mono ?_); rintro r w1 ⟨⟨v1, l1, rfl, hO1, hl1⟩, b1⟩; obtain ⟨A1, c1, hv1, hc1, hm1⟩ := own_slice hO1.row; subst hv1)
            | fail)
          obtain ⟨w2, hw2⟩ : ∃ w2 : World, w2 = w1.alloc (.cells #[.slice A1 l1.length c1] 29) := ⟨_, rfl⟩
          obtain ⟨gX, hgX⟩ : ∃ gX, gX = w1.heap.size := ⟨_, rfl⟩
          rw [← hw2, ← hgX]
          have b02 : Below wo.heap.size wo w2 := by rw [hw2]; exact b1.alloc b1.size _
          have rX2 : Row w2 gX 29 #[.slice A1 l1.length c1] := by rw [hw2]; exact row_new hgX
          have hO2 : OwnT w2 wo.heap.size (.slice A1 l1.length c1) l1 := by rw [hw2]; exact hO1.below ((Below.refl _ _).alloc (Nat.le_refl _) _)
          have hw12 : w1.heap.size ≤ w2.heap.size := by rw [hw2]; simp
          have rT2 := rT.below b02 lT
          have q2 := hb.trans (b02.mono hz)
          have HOW := Lib.hid (And.intro (own_lt hO1.row) hO1.kids.lt)
          have HO2 := Lib.hid hO2
          have HL1 := Lib.hid hl1
          clear hO1 hO2 hl1 hw2 hgX b1 s0 s1 s2 s3 s4
          have lX2 := rX2.lt
          have lT2 := rT2.lt
          have s0 := rT2.cell 0
          have s1 := rT2.cell 1
          have s2 := rT2.cell 2
          have s3 := rT2.cell 3
          have s4 := rT2.cell 4
          simp at s0 s1 s2 s3 s4
          go_upto_region 14 with (first
            | (go_at_call 11; (with_reducible refine (HRK.out _ q2).mono ?_); rintro r w3 ⟨⟨v3, l3, rfl, hO3, hl3⟩, b3⟩; obtain ⟨A3, c3, hv3, hc3, hm3⟩ := own_slice hO3.row; subst hv3)
            | fail)
          obtain ⟨w4, hw4⟩ : ∃ w4 : World, w4 = w3.alloc (.cells #[.slice A3 l3.length c3] 29) := ⟨_, rfl⟩
          obtain ⟨gW, hgW⟩ : ∃ gW, gW = w3.heap.size := ⟨_, rfl⟩
          rw [← hw4, ← hgW]
          have b24 : Below w2.heap.size w2 w4 := by rw [hw4]; exact b3.alloc b3.size _
          have rW4 : Row w4 gW 29 #[.slice A3 l3.length c3] := by rw [hw4]; exact row_new hgW
          have hO4 : OwnT w4 w2.heap.size (.slice A3 l3.length c3) l3 := by rw [hw4]; exact hO3.below ((Below.refl _ _).alloc (Nat.le_refl _) _)
          have hgW2 : w2.heap.size ≤ gW := by rw [hgW]; exact b3.size
          have rX4 := rX2.below b24 lX2
          have rT4 := rT2.below b24 lT2
          have b04 := b02.trans (b24.mono b02.size)
          have HO4 := Lib.hid hO4
          have HL3 := Lib.hid hl3
          clear hO3 hO4 hl3 hw4 hgW b3 s0 s1 s2 s3 s4
          have lX4 := rX4.lt
          have lT4 := rT4.lt
          have lW4 := rW4.lt
          have x4 := rX4.cell 0
          have e4 := rW4.cell 0
          simp at x4 e4
          have hll : l3.length = l1.length := by
            have h1 := congrArg List.length HL1.out
            have h3 := congrArg List.length HL3.out
            rw [List.length_map] at h1 h3
            omega
          have hl1m : l1.length ≤ 1000000 := by
            have h1 := congrArg List.length HL1.out
            rw [List.length_map] at h1
            omega
          have hO24 := HO2.out.below b24
          obtain ⟨Aa, ca, ea, _, _, hTa⟩ := hO24.tree
          injection ea with ea1 _ ea3
          subst ea1 ea3
          obtain ⟨Ab, cb, eb, _, _, hTb⟩ := HO4.out.tree
          injection eb with eb1 _ eb3
          subst eb1 eb3
          rw [HL1.out] at hTa
          rw [HL3.out] at hTb
          rw [hll] at hc3 rW4
          have HRN := Lib.hid (show RL.length = l1.length from by rw [← HL1.out, List.length_map])
          have HTR := Lib.hid (trees_any A1 A3 RL l1.length c1 c3 HRN.out hc1 hc3 hm1 hm3 w4 hTa hTb)
          have HO24 := Lib.hid hO24
          have HK1 := Lib.hid (show ∀ p ∈ l1, p.1.ks.length ≤ 1000000000000 from fun p hp => HS4.out p.1 (by rw [← HL1.out]; exact List.mem_map_of_mem hp))
          have HLL := Lib.hid hll
          rw [hll] at e4
          clear hO24 hTa hTb hs3 HS4 hll
          go_upto_region 17 with (first
            | (go_at_call 12; (with_reducible refine HTR.out.mono ?_); rintro r w5 ⟨rfl, b5⟩; have b05 := b04.trans (b5.mono b04.size); have rX5 := rX4.below b5 lX4; have x5 := rX5.cell 0; simp at x5; have hO5 := HO24.out.below b5)
            | (go_at_call 13; (with_reducible refine (spoil_win A1 l1 l1.length c1 rfl hl1m wo.heap.size HK1.out w5 hO5 b05.size w2.heap.size (by have := b24.size; have := b5.size; omega) (fun g e => by have := HOW.out.1 g e; omega) (fun p hp g e => by have := HOW.out.2 p hp g e; omega)).mono ?_); rintro r w6 ⟨⟨v6, rfl⟩, hw6⟩)
            | fail)
          have b25 := b24.trans (b5.mono b24.size)
          have b06 := b05.trans hw6.b
          have hO6 : OwnT w6 w2.heap.size (.slice A3 l3.length c3) l3 := (HO4.out.below b5).stand hw6 (Nat.le_refl _)
          have rW6 : Row w6 gW 29 #[.slice A3 l1.length c3] := (hw6.hi gW hgW2 (by have := b5.size; omega)).trans (rW4.below b5 lW4)
          have rT6 := rT.below b06 lT
          have HG6 := Lib.hid (show LentG w6 (w.heap.size + 1) (.slice A8 q c8) q Ls from HG.out.below b06)
          have q6 := hb.trans (b06.mono hz)
          have HO6 := Lib.hid hO6
          have z6 := q6.size
          have lW6 := rW6.lt
          have lT6 := rT6.lt
          clear hO6 hw6 b25 b05 b04 b02 b24 q2 hgW2 rX2 rX4 rX5 rW4 rT2 rT4 x4 x5 e4 lX2 lX4 lT2 lT4 lW4 HO2 HO4 HO24 HTR HOW HK1 b5 hw12 hO5
          have b06' := b06
          go_wp2
          go_loopw [9] (fun t wr => ∃ j : Nat, t = .int .i64 (j : Int) ∧ j ≤ q ∧ Below w6.heap.size w6 wr) (fun t _ => q - (intOf t).toNat)
          case atStart => exact ⟨0, rfl, Nat.zero_le _, Below.refl _ _⟩
          case round =>
            obtain ⟨j, rfl, hj, bi⟩ := hrel
            generalize hwi : wr = wi at *
            clear hwi
            have zi := Below.size bi
            have qi := q6.trans (bi.mono z6)
            have zqi := qi.size
            by_cases hlt : j < q
            · have hjL : j < Ls.length := by rw [HN.out]; exact hlt
              obtain ⟨xs, ho, ht⟩ := HG6.out.row
              obtain ⟨gq, cq, lq, hxj, hTq, hlq⟩ := ht j hlt
              obtain ⟨g8, rfl, hg81, hg82⟩ := own_form5 ho (by omega)
              have c8j : wi.cell? ⟨g8, j, none⟩ = some (.slice (some ⟨gq, 0, none⟩) lq.length cq) := (bi.cell (p := ⟨g8, j, none⟩) hg82).trans ((ho.cellAt j (by omega)).trans hxj)
              have hg8i : g8 < wi.heap.size := by omega
              obtain ⟨ad, A, c1, rfl, hab, hcell, hk1, hk2, hTr⟩ := hF.out j hjL
              have kcell : wi.cell? (ad.add j) = some (.slice A (Ls.getD j []).length c1) := (qi.cell (by rw [block_add]; exact hab)).trans hcell
              have hadi : ad.block < wi.heap.size := by omega
              have hwj := HWT.out j hlt
              have hnq : lq.length = (Ls.getD j []).length := by rw [← hlq, List.length_map]
              have HBQ := Lib.hid (fun W (hb2 : Below wi.heap.size wi W) => back_any lq (Ls.getD j []) hlq gq lq.length cq (w.heap.size + 1) rfl (by have := wt_len (Ls.getD j []); omega) (fun p hp => by
                have h1 : p.1 ∈ Ls.getD j [] := by rw [← hlq]; exact List.mem_map_of_mem hp
                obtain ⟨i, hi, hi2⟩ := List.getElem_of_mem h1
                have h3 := nd_get hi
                rw [List.getElem?_eq_getElem hi] at h3
                have := wt_nd (Ls.getD j []) i
                rw [← Option.some.inj h3, hi2] at this
                omega) A c1 (by rw [hnq]; exact hk1) hk2 W (hTq.below (bi.trans (hb2.mono zi))) ((hTr.below (qi.trans (hb2.mono zqi))).more (by have := hb2.size; omega)))
              rw [← hnq] at kcell
              have hji : (j : Int) < (q : Int) := by omega
              clear ho ht hxj hTq hlq hcell hTr hwj hnq hk1 hk2
              generalize lq.length = nq at *
              go_upto_region 20 with fail
              go_region_law (first
                | (go_simp; go_at_call 14; (with_reducible refine (HBQ.out _ (by (repeat (first | (with_reducible exact Below.refl _ _) | (with_reducible assumption) | (with_reducible refine Below.setCell ?_ (by first | omega | (simp <;> omega)) _) | (with_reducible refine Below.alloc ?_ (by first | omega | (simp <;> omega)) _) | (with_reducible refine Below.drew ?_) | (with_reducible refine below_drewN ?_ _) | (with_reducible refine Below.trans ?_ (Below.mono (by with_reducible assumption) (by first | omega | (simp <;> omega)))))))).mono ?_); rintro r w7 ⟨rfl, b7⟩)
                | fail)
              all_goals go_wp2
              all_goals exact ⟨⟨j + 1, by go_num, by omega, Below.trans (b := _) (by exact bi) (Below.mono (B := wi.heap.size) (Below.trans (b := _) (by (repeat (first | (with_reducible exact Below.refl _ _) | (with_reducible assumption) | (with_reducible refine Below.setCell ?_ (by first | omega | (simp <;> omega)) _) | (with_reducible refine Below.alloc ?_ (by first | omega | (simp <;> omega)) _) | (with_reducible refine Below.drew ?_) | (with_reducible refine below_drewN ?_ _) | (with_reducible refine Below.trans ?_ (Below.mono (by with_reducible assumption) (by first | omega | (simp <;> omega))))))) (b7.mono (by simp))) zi)⟩, by simp [intOf]; omega⟩
            · obtain rfl : j = q := by omega
              have rTi := rT6.below bi lT6
              have rWi := rW6.below bi lW6
              have lTi := rTi.lt
              have lWi := rWi.lt
              have s0 := rTi.cell 0
              have s1 := rTi.cell 1
              have s2 := rTi.cell 2
              have s3 := rTi.cell 3
              have s4 := rTi.cell 4
              have e0 := rWi.cell 0
              simp at s0 s1 s2 s3 s4 e0
              have b0i := b06.trans (bi.mono b06.size)
              have zwo := b0i.size
              have HTW := Lib.hid (show ∀ W, Below wi.heap.size wi W → TreeAt W W.heap.size A3 RL from fun W hb2 => by
                obtain ⟨Ab, cb, eb, _, _, hTb⟩ := ((HO6.out.below bi).below hb2).tree
                injection eb with eb1 _ eb3
                subst eb1 eb3
                rw [HL3.out] at hTb
                exact hTb)
              go_upto_region 22 with fail
              go_region_law (first
                | (go_simp; go_at_call 10; (with_reducible refine (HMK.out _ (b0i.trans (Below.mono (B := wi.heap.size) (by (repeat (first | (with_reducible exact Below.refl _ _) | (with_reducible assumption) | (with_reducible refine Below.setCell ?_ (by first | omega | (simp <;> omega)) _) | (with_reducible refine Below.alloc ?_ (by first | omega | (simp <;> omega)) _) | (with_reducible refine Below.drew ?_) | (with_reducible refine below_drewN ?_ _) | (with_reducible refine Below.trans ?_ (Below.mono (by with_reducible assumption) (by first | omega | (simp <;> omega))))))) zwo))).mono ?_); rintro r w7 ⟨⟨v7, l7, rfl, hO7, hl7⟩, b7⟩; obtain ⟨A7, c7, hv7, hc7, hm7, hT7⟩ := hO7.tree; subst hv7; rw [hl7] at hT7; have hl7' : l7.length = l1.length := (by have := congrArg List.length hl7; rw [List.length_map] at this; rw [this, HRN.out]); rw [hl7'] at hc7 ⊢; have b17 : Below wi.heap.size wi w7 := Below.trans (b := _) (by (repeat (first | (with_reducible exact Below.refl _ _) | (with_reducible assumption) | (with_reducible refine Below.setCell ?_ (by first | omega | (simp <;> omega)) _) | (with_reducible refine Below.alloc ?_ (by first | omega | (simp <;> omega)) _) | (with_reducible refine Below.drew ?_) | (with_reducible refine below_drewN ?_ _) | (with_reducible refine Below.trans ?_ (Below.mono (by with_reducible assumption) (by first | omega | (simp <;> omega))))))) (b7.mono (by simp)); have rW7 := rWi.below b17 lWi; have e7 := rW7.cell 0; simp at e7; have z7 := b17.size; have q7 := qi.trans (b17.mono zqi))
                | (go_simp; go_at_call 12; (with_reducible refine (trees_any A7 A3 RL l1.length c7 c3 HRN.out hc7 hc3 hm7 hm3 _ hT7 (HTW.out _ b17)).mono ?_); rintro r w8 ⟨rfl, b8⟩; have q8 := q7.trans (b8.mono q7.size))
                | (go_simp; go_at_call 15; (with_reducible refine (known_any _ (hX.out.below (B := w.heap.size) q8 hw00) (by have := Below.size q8; omega)).mono ?_); rintro r w9 ⟨rfl, b9⟩)
                | fail)
              all_goals go_wp2
              all_goals go_ret
              all_goals exact ⟨rfl, q8.trans (b9.mono q8.size)⟩
end Go.Proofs.YtjaijlkonkgnmaaDoor
