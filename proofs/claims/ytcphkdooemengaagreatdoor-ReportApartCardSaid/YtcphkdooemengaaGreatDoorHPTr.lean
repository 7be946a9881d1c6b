/- The walk of the program's Tree (a tree's text). -/
import Derived.Test.YtcphkdooemengaaGreatDoorHBZ8
import Derived.Test.YtcphkdooemengaaGreatDoorHBZ12
import Derived.Test.YtcphkdooemengaaGreatDoorHW8
import Derived.Test.YtcphkdooemengaaGreatDoorHBZ14
import Derived.Test.YtcphkdooemengaaGreatDoorHBZ19
import Derived.OwnWalkIn
import Derived.Deep.RegionWith
namespace Go.Proofs.YtcphkdooemengaaGreatDoor
set_option linter.unusedVariables false
set_option linter.unusedSimpArgs false
set_option linter.unnecessarySimpa false
open Go.RowKit
attribute [local go_sem] cell_alloc_add cell_set_add lt_more Oper.semAt_some
theorem rd_one1 (w : World) (a : ByteArray) : Rd (w.alloc (.cells #[.string a] 9)) (w.alloc (.cells #[.string a] 9)).heap.size (some ⟨w.heap.size, 0, none⟩) 1 (fun j => .string ([a].getD j ⟨#[]⟩)) := fun j hj =>
  ⟨_, rfl, by simp, by
    obtain rfl : j = 0 := by omega
    rw [add_row, (row_new rfl : Row _ _ 9 #[.string a]).cell]; rfl⟩
theorem after {WY Wc W' : World} (h : Below WY.heap.size WY Wc) (k : Below Wc.heap.size Wc W') : Below WY.heap.size WY W' := h.trans (k.mono h.size)
theorem keepD_heap {A : Option Addr} {n : Nat} {W W' : World} (h : ∀ ad, A = some ad → W'.heap[ad.block]? = W.heap[ad.block]?) : KeepD A n W W' := fun j _ ad v e hv =>
  (World.cell?_of_block (w := W) (a := ad.add j) (by rw [block_add]; exact h ad e)).trans hv
theorem rowsB_size (s : ByteArray) : (rowsB [s]).size = s.size + 1 := by
  show (rowsL [s]).toArray.size = _
  rw [rows_one]; simp
theorem rows_any1 (s : ByteArray) (W' : World) (hz : s.size ≤ 1000000) : Calls Tryz.prog 19 #[.slice (some ⟨W'.heap.size, 0, none⟩) 1 1] (W'.alloc (.cells #[.string s] 9)) fun e w' => e = .returned (.string (rowsB [s])) ∧ Below (W'.alloc (.cells #[.string s] 9)).heap.size (W'.alloc (.cells #[.string s] 9)) w' :=
  rowsB_any [s] 1 rfl (some ⟨W'.heap.size, 0, none⟩) 1 (W'.alloc (.cells #[.string s] 9)) (rd_one1 W' s) (by rw [rows_one]; simp; omega)
/-- Where the loop of Tree stands. -/
def TrI (nb : Nat) (w1 : World) (L : List Nd) (D : List Int) {N : Nat} (A1 : Option Addr) (oD : Nat → Option Obj) (pre : List (Fin N)) (W : World) : Prop :=
  Lib.IsBuilderF 42 5 nb nb (Lib.byteCells (linesN L D pre)) W ∧ Below nb w1 W ∧ ∀ ad, A1 = some ad → W.heap[ad.block]? = oD ad.block ∧ ad.block < W.heap.size
theorem one32 : (⟨#[32]⟩ : ByteArray).size = 1 := rfl
theorem cells_line {s : ByteArray} {T : List UInt8} (h : s.data.toList ++ [10] = T) : Lib.strCells (rowsB [s]) = Lib.byteCells T := by
  rw [Lib.strCells_eq]
  congr 1
  show (rowsL [s]).toArray.toList = _
  rw [rows_one, h]
theorem tr_fin {nb : Nat} {w1 W W7 W8 : World} {L : List Nd} {D : List Int} {N : Nat} {A1 : Option Addr} {oD : Nat → Option Obj} {pre : List (Fin N)} {x : Fin N} {bs : List Value}
    (hI : Lib.IsBuilderF 42 5 nb nb bs W) (hB : Below nb w1 W) (hDD : ∀ ad, A1 = some ad → W.heap[ad.block]? = oD ad.block ∧ ad.block < W.heap.size) (hA : ∀ ad, A1 = some ad → nb < ad.block ∧ ∃ cs fr, oD ad.block = some (.cells cs 3 fr)) (hn1 : nb ≤ w1.heap.size)
    (kW : Below W.heap.size W W7) (b8 : Below nb W7 W8) (j8 : Lib.OthersKept 5 (some nb) W7 W8) (h8 : Lib.IsBuilderF 42 5 nb nb (Lib.byteCells (linesN L D (pre ++ [x]))) W8) :
    KeepsOthers W W8 ∧ KeepD A1 N W W8 ∧ TrI nb w1 L D A1 oD (pre ++ [x]) W8 := by
  obtain ⟨cs7, hbk7⟩ := bld_block (bld_keep hI kW)
  have hz : nb ≤ W.heap.size := Nat.le_trans hn1 hB.size
  have hD8 : ∀ ad, A1 = some ad → W8.heap[ad.block]? = W.heap[ad.block]? := fun ad e1 => by
    obtain ⟨h1, h2⟩ := hDD ad e1
    obtain ⟨h3, cs, fr, h4⟩ := hA ad e1
    have h5 : W7.heap[ad.block]? = some (.cells cs 3 fr) := (kW.block _ h2).trans (h1.trans h4)
    exact (j8 ad.block _ h5 (fun e => by injection e with e; omega) (fun c fz e => by injection e with _ e _; exact absurd e (by decide))).trans (h1.trans h4).symm
  have s1 := kW.size
  have s2 := b8.size
  exact ⟨(keeps_below kW).trans (others_keep j8 b8 hbk7), keepD_heap hD8, h8, hB.trans ((kW.mono hz).trans b8), fun ad e => ⟨(hD8 ad e).trans (hDD ad e).1, by have := (hDD ad e).2; omega⟩⟩
set_option maxRecDepth 100000 in
set_option maxHeartbeats 8000000 in
theorem Tree_in (A : Option Addr) (L : List Nd) (c : Nat) (hc : L.length ≤ c) (hm : c ≤ maxLen) (hL : L.length ≤ 2500) (hx : ∀ j : Nat, (nd L j).x.size ≤ 2500) (w : World) (h : TreeAt w w.heap.size A L) (hmx : Mx w) (hw00 : 0 < w.heap.size) (hT : Tab w) (hZ : Tz w) :
    CallsIn Fence.wide 10 Tryz.prog 7 #[.agg #[.slice A L.length c]] w fun r w' => r = .returned (.tuple #[.string (treeT L), .int .i64 (chk L).2]) ∧ Below w.heap.size w w' := by
  obtain ⟨wa, hwa⟩ : ∃ wa : World, wa = w.alloc (.cells #[.slice A L.length c] 24) := ⟨_, rfl⟩
  have bA : Below w.heap.size w wa := by rw [hwa]; exact (by (exact bl))
  have zA : w.heap.size + 1 ≤ wa.heap.size := by rw [hwa]; simp
  have r0 : Row wa w.heap.size 24 #[.slice A L.length c] := by rw [hwa]; exact row_new rfl
  have HC := Lib.hid (Check_any A L c hc hm (by omega) (fun j => by have := hx j; omega) wa (h.later bA) (hmx.below bA hw00) (by omega))
  have HW := Lib.hid (fun W (hb : Below w.heap.size w W) => Walk_any A L c hc hm (by omega) (fun j => by have := hx j; omega) W (h.later hb) (hmx.below hb hw00) (by have := Below.size hb; omega))
  have hTR := Lib.hid h
  have HX := Lib.hid hx
  have HKB0 := Lib.hid (fun h (j : Nat) (hj : j < L.length) => kind_bd (L := L) h hj)
  have HTT0 := Lib.hid (show treeT L = if (chk L).2 = 0 then ⟨(linesT (pairsT L)).toArray⟩ else ⟨#[]⟩ from rfl)
  have HALL0 := Lib.hid (fun h => linesN_all (L := L) h rfl)
  have HDN := Lib.hid (fun h => (show depsL L = deepL L from if_pos h))
  have HGT := Lib.hid (good_iff (L := L))
  have t0 := r0.cell 0
  simp at t0
  rcases hR : chk L with ⟨ra, re⟩
  rw [hR] at HC HTT0 HKB0 HALL0 HGT HDN
  simp only at HC HTT0 HKB0 HALL0 HGT HDN ⊢
  clear h hmx hx
  refine callsIn_of_wp_marks Tryz.func7 rfl trivial ?_ rfl
  simp only [Tryz.ntmps7, List.size_toArray, List.length_cons, List.length_nil, Nat.reduceAdd, Nat.reduceSub, Array.replicate_succ, Array.replicate_zero, List.push_toArray, List.append_toArray, List.nil_append, List.cons_append]
  gi_upto_region 1 with fail
  rw [← hwa]
  clear hwa
  by_cases he : re = 0
  · subst he
    have HKB := Lib.hid (fun j hj => HKB0.out rfl j hj)
    have HALL := Lib.hid (HALL0.out rfl)
    have hTT := HTT0.out
    rw [if_pos rfl] at hTT
    have HTT := Lib.hid hTT
    have HD := Lib.hid (HDN.out rfl)
    have HGD := Lib.hid (HGT.out.1 rfl)
    have hdl := deepL_len L
    rw [← HD.out] at hdl
    clear hTT HDN HGT HKB0 HALL0 HTT0
    have HDB := Lib.hid (show ∀ j, j < L.length → 0 ≤ (depsL L).getD j 0 ∧ (depsL L).getD j 0 ≤ 2500 from fun j hj => by
      rw [HD.out]
      have e1 := dp_pos HGD.out hj
      have e2 := dp_le HGD.out j j (Nat.le_refl _) hj
      exact ⟨e1, by have : dp L j ≤ 2500 := by omega
                    exact this⟩)
    have HMB := Lib.hid (show ∀ j : Nat, j < L.length → -9223372036854775808 ≤ (nd L j).m ∧ (nd L j).m ≤ 9223372036854775807 from fun j hj => by
      obtain ⟨ad, _, n⟩ := hTR.out j hj
      exact n.wm)
    clear HD HGD
    generalize depsL L = D at *
    generalize hNL : L.length = N at *
    have HN := Lib.hid hdl
    have HL := Lib.hid hNL
    clear hdl hNL
    gi_upto_region 5 with (first
      | (refine ⟨trivial, ?_⟩; gi_at_call 13; (with_reducible refine (callsIn_wide.2 HC.out).mono ?_); rintro e w1 ⟨rfl, b1⟩)
      | fail)
    have q1 := bA.trans (b1.mono (by omega))
    have r1 := r0.below b1 (by omega)
    have rT0 : w1.cell? ⟨w.heap.size, 0, none⟩ = some (.slice A N c) := r1.cell 0
    obtain ⟨w2, hw2⟩ : ∃ w2 : World, w2 = w1.alloc (.cells #[.pointer none, .slice none 0 0] 42) := ⟨_, rfl⟩
    obtain ⟨nb, hnb⟩ : ∃ nb, nb = w1.heap.size := ⟨_, rfl⟩
    rw [← hw2, ← hnb]
    have iB : Lib.IsBuilderF 42 5 nb nb [] w2 := by rw [hw2, hnb]; exact Lib.IsBuilderF.of (Lib.fresh_isBuilder 42 5 w1)
    have q2 : Below w.heap.size w w2 := by rw [hw2]; exact q1.alloc q1.size _
    have n2 : Below nb w1 w2 := by rw [hw2, hnb]; exact (Below.refl _ _).alloc (Nat.le_refl _) _
    have r2 : Row w2 w.heap.size 24 #[.slice A N c] := by rw [hw2]; exact r1.alloc _
    have hnw : w.heap.size < nb := by rw [hnb]; exact r1.lt
    have hn2 : nb < w2.heap.size := by rw [hw2, hnb]; simp
    have hn1 : nb ≤ w1.heap.size := by omega
    have t2 := r2.cell 0
    simp at t2
    have HW2 := Lib.hid (HW.out w2 q2)
    clear hw2 hnb r0 t0 bA zA b1 r1 HW HC
    gi_wp2_with (refine ⟨trivial, ?_⟩; gi_at_call 14; (with_reducible refine (callsIn_wide.2 HW2.out).mono ?_); rintro e W0 ⟨⟨rfl, v, rD, hown⟩, b0⟩)
    have hrd : RdD W0 (match v with | .slice A _ _ => A | _ => none) D := by
      obtain ⟨A1, c1, rfl, _, _⟩ := own_slice hown
      exact rdD_own hown
    have hge := own_ge hown
    have hlt := own_lt hown
    have hty := fun g (e : v.ownBlock = some g) => own_type hown e
    obtain ⟨A1, c1, rfl, hc1, hm1⟩ := own_slice hown
    simp only at hrd
    have hz0 := Below.size b0
    have hA1 : ∀ ad, A1 = some ad → nb < ad.block ∧ ad.block < W0.heap.size ∧ ∃ cs fr, W0.heap[ad.block]? = some (.cells cs 3 fr) := fun ad e => by
      subst e
      exact ⟨by have := hge ad.block rfl; omega, hlt ad.block rfl, hty ad.block rfl⟩
    have HA := Lib.hid hA1
    have cD := rD.cell 0
    simp at cD
    have hI0 : TrI nb w1 L D A1 (fun k => W0.heap[k]?) ([] : List (Fin N)) W0 := ⟨bld_keep iB b0, n2.trans (b0.mono (by omega)), fun ad e => ⟨rfl, (HA.out ad e).2.1⟩⟩
    have bW := q2.trans (b0.mono q2.size)
    obtain ⟨gD, hgD⟩ : ∃ gD, gD = w2.heap.size + 1 := ⟨_, rfl⟩
    rw [← hgD] at cD ⊢
    have hnD : nb < W0.heap.size := by omega
    have rT1 : w1.cell? ⟨w.heap.size, 0, none⟩ = some (.slice A N c) := rT0
    clear rT0 iB q2 n2 r2 hn2 t2 HW2 b0 hown hge hlt hty hA1 hgD rD hz0
    apply wpIn_rangeFunc_ownF (F := Fence.wide) (n := 10) rfl (by decide) (gf := 28) (lb := #[.pointer (some ⟨gD, 0, none⟩)]) rfl trivial (enters_of Tryz.func28 (by kernel_rfl) rfl)
      (Walk1_stops (10 - 1) (by decide) gD D N HN.out (by omega) A1 c1 (by rw [← HN.out]; exact hc1) hm1 W0 (by rw [← HN.out]; exact cD) hrd (fun ad e => (HA.out ad e).2.1)) keepD_t (keepD_b (w := W0)) (Below.refl _ _) (fun _ => rfl)
      (fun pre W => TrI nb w1 L D A1 (fun k => W0.heap[k]?) pre W)
      (fun _ _ _ => False)
      (fun p W W' row hs hg hr => ⟨bld_own hs.1 hg (fun r e => (hr r e).2), hs.2.1.grown hg (Nat.le_trans hn1 hs.2.1.size) (fun r e => by have := (hr r e).1; omega), fun ad e => by
        obtain ⟨h1, h2⟩ := hs.2.2 ad e
        obtain ⟨_, _, cs, fr, h3⟩ := HA.out ad e
        have hne : ad.block ∉ row := fun e2 => by
          obtain ⟨_, o, h4, h5⟩ := hr ad.block e2
          rw [h1] at h4
          have h4' : W0.heap[ad.block]? = some o := h4
          rw [h3] at h4'
          injection h4' with h4
          subst h4
          cases h5
        exact ⟨(hg.block ad.block h2 (fun e2 => hne e2.symm)).trans h1, Nat.lt_of_lt_of_le h2 hg.size⟩⟩)
      (fun _ _ _ _ _ hs _ _ => hs)
      hI0 _
    case hassign =>
      intro l x W K hK
      dsimp only [encD]
      gi_wp2
      exact hK
    case hstop =>
      rintro Dd cc pre W hD hpre h
      exact h.elim
    case hdone =>
      rintro Dd xs W hD rfl ⟨hI, hB, hDD⟩ hK
      rw [HALL.out] at hI
      have hDl : Dd < W.heap.size := (Array.getElem?_eq_some_iff.1 hK).1
      have hDn : some Dd ≠ some nb := fun e => by injection e; omega
      have HS := Lib.hid (Tryz.Builder_String_any_k nb nb (linesT (pairsT L)) W hI (by have := hB.size; omega))
      rw [← HTT.out] at HS
      have bWW := q1.trans (hB.mono (B' := w.heap.size) (by omega))
      gi_wp2_with (refine ⟨trivial, ?_⟩; gi_at_call 20; (with_reducible refine (callsIn_wide.2 HS.out).mono ?_); rintro e w6 ⟨rfl, h6, b6, k6⟩)
      have y6 := k6 Dd _ hK hDn (fun _ _ e => nomatch e)
      refine ⟨by simp, .inl ⟨_, _, rfl, run_takeDeferred y6, ?_⟩⟩
      exact ⟨.tuple #[.string (treeT L), .int .i64 0], by simp [results, Tryz.f7, go_sem], rfl, (bWW.trans (b6.mono (by omega))).trans (belowK_b (w := w) (Nat.le_refl _) _ Dd _ _ (by have := bWW.size; have := hB.size; have := q1.size; omega) y6 rfl rfl)⟩
    case hbody =>
      rintro l pre x W ⟨hI, hB, hDD⟩ hlen
      have hxN := x.2
      have hz := hB.size
      have hdb := HDB.out x.1 hxN
      have hpl := linesN_len (n := N) (B := 2500) HX.out HDB.out HKB.out HMB.out pre
      have hpl2 : pre.length * (8 * 2500 + 50) ≤ 2500 * (8 * 2500 + 50) := Nat.mul_le_mul_right _ (by omega)
      have HLS := Lib.hid (linesN_snoc L D pre x)
      have hxL : x.1 < L.length := by rw [HL.out]; exact hxN
      obtain ⟨ad, rfl, hn⟩ := hTR.out x.1 hxL
      have bWw := q1.trans (hB.mono (B' := w.heap.size) (by omega))
      have hn' := hn.keep (W' := W) (fun p hp => bWw.cell hp)
      have hbq : (ad.add (x.1 * 5)).block < W.heap.size := Nat.lt_of_lt_of_le hn.blk bWw.size
      have hba : ad.block < W.heap.size := by rw [block_add] at hbq; exact hbq
      obtain ⟨K, kc, c0, c1', c2, c3, c4, -, hkk, hkm⟩ := node_open hn'
      have hkb := HKB.out x.1 hxN
      have hxq := HX.out x.1
      have hmb := hn.wm
      have hbt : w.heap.size < W.heap.size := by have := q1.size; omega
      have rt : W.cell? ⟨w.heap.size, 0, none⟩ = some (.slice (some ad) N c) := (hB.cell (p := ⟨w.heap.size, 0, none⟩) hnw).trans rT1
      have htab := hT.later bWw hT.2
      have htz := hZ.later bWw hZ.2
      have hxi : (x.1 : Int) < (N : Int) := by omega
      simp only [List.getD_eq_getElem?_getD] at hdb HLS
      obtain ⟨d, hd⟩ : ∃ d : Nat, D[x.1]?.getD 0 = (d : Int) := ⟨(D[x.1]?.getD 0).toNat, by omega⟩
      rw [hd, Int.toNat_natCast] at HLS
      rw [hd] at hdb ⊢
      clear hn hn' hd
      generalize nd L (x.1 : Nat) = y at *
      obtain ⟨yk, yx, ym, yks, yp⟩ := y
      simp only at c0 c1' c2 c3 c4 hkb hxq hmb
      obtain ⟨WY, hWY⟩ : ∃ WY : World, WY = W.alloc (.cells #[.int .i64 yk, .string yx, .int .i64 ym, .slice K yks.length kc, .int .i64 yp] 36) := ⟨_, rfl⟩
      have bY : Below W.heap.size W WY := by rw [hWY]; exact (Below.refl _ _).alloc (Nat.le_refl _) _
      obtain ⟨gY, hgY⟩ : ∃ gY, gY = W.heap.size := ⟨_, rfl⟩
      have rY : Row WY gY 36 #[.int .i64 yk, .string yx, .int .i64 ym, .slice K yks.length kc, .int .i64 yp] := by rw [hWY]; exact row_new hgY
      have lY := rY.lt
      have HIK := Lib.hid (fun W' (hb : Below WY.heap.size WY W') => itoa_any yk (by omega) (by omega) W' ((htab.keep bY).keep hb))
      have HIM := Lib.hid (fun W' (hb : Below WY.heap.size WY W') => itoa_any ym hmb.1 hmb.2 W' ((htab.keep bY).keep hb))
      have HQ := Lib.hid (fun W' (hb : Below WY.heap.size WY W') => Quote_any yx (by omega) W' ((htz.keep bY).keep hb))
      have HRP := Lib.hid (fun W' => repeat2_any d (by omega) W')
      have HRW := Lib.hid (fun (s : ByteArray) W' (hz : s.size ≤ 1000000) => rows_any1 s W' hz)
      have HWS := Lib.hid (fun (s : ByteArray) W' (hb : Below WY.heap.size WY W') (hz : s.size ≤ 1000000) => wStr_any nb nb _ (rowsB [s]) W' (bld_keep hI (after bY hb)) (by rw [Lib.byteCells_length, rowsB_size]; omega) (by have := (after bY hb).size; omega))
      have y0 := rY.cell 0
      have y1 := rY.cell 1
      have y2 := rY.cell 2
      simp at y0 y1 y2
      have z0 := spaces_size (2 * d)
      have z1 := digits_le (n := yk) (by omega) (by omega)
      have z2 := digits_le (n := ym) hmb.1 hmb.2
      have z3 := quote_le yx
      have L00 := Lib.hid (fun h1 h2 => line_00 (d := d) (k := yk) (m := ym) (x := yx) (ks := yks) (p := yp) h1 h2)
      have L10 := Lib.hid (fun h1 h2 => line_10 (d := d) (k := yk) (m := ym) (x := yx) (ks := yks) (p := yp) h1 h2)
      have L01 := Lib.hid (fun h1 h2 => line_01 (d := d) (k := yk) (m := ym) (x := yx) (ks := yks) (p := yp) h1 h2)
      have L11 := Lib.hid (fun h1 h2 => line_11 (d := d) (k := yk) (m := ym) (x := yx) (ks := yks) (p := yp) h1 h2)
      generalize spaces (2 * d) = sp at *
      generalize digits yk = dk at *
      generalize digits ym = dm at *
      generalize quoteB yx = qx at *
      have f1 : (9223372036854775807 < sp.size + dk.size) = False := eq_false (by omega)
      by_cases hx0 : yx = ⟨#[]⟩
      · subst hx0
        have hs0 : (⟨#[]⟩ : ByteArray).size = 0 := rfl
        by_cases hm0 : ym = 0
        · subst hm0
          have HCL := Lib.hid (cells_line (L00.out hs0 rfl))
          gi_upto_region 9 with fail
          rw [← hWY, ← hgY]
          clear hWY hgY c0 c1' c2 c3 c4
          gi_region_with (first | (refine ⟨trivial, ?_⟩; gi_at_call 15; (with_reducible refine (CallsIn.inRound l (callsIn_wide.2 (HRP.out _))).mono ?_); rintro e w4 ⟨rfl, b4⟩; have k4 := after (WY := WY) (by exact bl) b4; have zk4 := Below.size k4; have r4 := rY.below k4 lY; have y40 := r4.cell 0; have y41 := r4.cell 1; have y42 := r4.cell 2; have l4 := r4.lt; simp at y40 y41 y42) | (refine ⟨trivial, ?_⟩; gi_at_call 16; (with_reducible refine (CallsIn.inRound l (callsIn_wide.2 (HIK.out _ (by exact bl)))).mono ?_); rintro e w5 ⟨rfl, b5⟩; have k5 := after (WY := WY) (by exact bl) b5; have zk5 := Below.size k5; have r5 := rY.below k5 lY; have y50 := r5.cell 0; have y51 := r5.cell 1; have y52 := r5.cell 2; have l5 := r5.lt; simp at y50 y51 y52) | fail)
          all_goals gi_wp2_with (first | (refine ⟨trivial, ?_⟩; gi_at_call 19; (with_reducible refine (CallsIn.inRound l (callsIn_wide.2 (HRW.out _ _ (by simp only [ByteArray.size_append, one32]; omega)))).mono ?_); rintro e w7 ⟨rfl, b7⟩; have k7 := after (WY := WY) (by exact bl) b7) | (refine ⟨trivial, ?_⟩; gi_at_call 18; (with_reducible refine (CallsIn.inRound l (callsIn_wide.2 (HWS.out _ _ (by exact bl) (by simp only [ByteArray.size_append, one32]; omega)))).mono ?_); rintro e w8 ⟨rfl, h8, b8, j8⟩) | fail)
          all_goals exact tr_fin hI hB hDD (fun ad e => ⟨(HA.out ad e).1, (HA.out ad e).2.2⟩) hn1 (after bY k7) b8 j8 (by have hh := h8; rw [HCL.out] at hh; rw [HLS.out, Lib.byteCells_append]; exact .inr hh)
        · have hm1 : (ym != 0) = true := by simpa using hm0
          have f2 : (9223372036854775807 < 1 + dm.size) = False := eq_false (by omega)
          have f3 : (9223372036854775807 < sp.size + dk.size + (1 + dm.size)) = False := eq_false (by omega)
          have HCL := Lib.hid (cells_line (L01.out hs0 hm0))
          gi_upto_region 9 with fail
          rw [← hWY, ← hgY]
          clear hWY hgY c0 c1' c2 c3 c4
          gi_region_with (first | (refine ⟨trivial, ?_⟩; gi_at_call 15; (with_reducible refine (CallsIn.inRound l (callsIn_wide.2 (HRP.out _))).mono ?_); rintro e w4 ⟨rfl, b4⟩; have k4 := after (WY := WY) (by exact bl) b4; have zk4 := Below.size k4; have r4 := rY.below k4 lY; have y40 := r4.cell 0; have y41 := r4.cell 1; have y42 := r4.cell 2; have l4 := r4.lt; simp at y40 y41 y42) | (refine ⟨trivial, ?_⟩; gi_at_call 16; (with_reducible refine (CallsIn.inRound l (callsIn_wide.2 (HIK.out _ (by exact bl)))).mono ?_); rintro e w5 ⟨rfl, b5⟩; have k5 := after (WY := WY) (by exact bl) b5; have zk5 := Below.size k5; have r5 := rY.below k5 lY; have y50 := r5.cell 0; have y51 := r5.cell 1; have y52 := r5.cell 2; have l5 := r5.lt; simp at y50 y51 y52) | fail)
          all_goals gi_wp2_with (first | (refine ⟨trivial, ?_⟩; gi_at_call 16; (with_reducible refine (CallsIn.inRound l (callsIn_wide.2 (HIM.out _ (by exact bl)))).mono ?_); rintro e w9 ⟨rfl, b9⟩; have k9 := after (WY := WY) (by exact bl) b9; have zk9 := Below.size k9; have r9 := rY.below k9 lY; have y90 := r9.cell 0; have y91 := r9.cell 1; have y92 := r9.cell 2; have l9 := r9.lt; simp at y90 y91 y92) | (refine ⟨trivial, ?_⟩; gi_at_call 19; (with_reducible refine (CallsIn.inRound l (callsIn_wide.2 (HRW.out _ _ (by simp only [ByteArray.size_append, one32]; omega)))).mono ?_); rintro e w7 ⟨rfl, b7⟩; have k7 := after (WY := WY) (by exact bl) b7) | (refine ⟨trivial, ?_⟩; gi_at_call 18; (with_reducible refine (CallsIn.inRound l (callsIn_wide.2 (HWS.out _ _ (by exact bl) (by simp only [ByteArray.size_append, one32]; omega)))).mono ?_); rintro e w8 ⟨rfl, h8, b8, j8⟩) | fail)
          all_goals exact tr_fin hI hB hDD (fun ad e => ⟨(HA.out ad e).1, (HA.out ad e).2.2⟩) hn1 (after bY k7) b8 j8 (by have hh := h8; rw [HCL.out] at hh; rw [HLS.out, Lib.byteCells_append]; exact .inr hh)
      · have hs0 : yx.size ≠ 0 := fun h => hx0 (size_zero h)
        have hxt := text_full hs0
        have f2 : (9223372036854775807 < 1 + qx.size) = False := eq_false (by omega)
        have f3 : (9223372036854775807 < sp.size + dk.size + (1 + qx.size)) = False := eq_false (by omega)
        by_cases hm0 : ym = 0
        · subst hm0
          have HCL := Lib.hid (cells_line (L10.out hs0 rfl))
          gi_upto_region 9 with fail
          rw [← hWY, ← hgY]
          clear hWY hgY c0 c1' c2 c3 c4
          gi_region_with (first | (refine ⟨trivial, ?_⟩; gi_at_call 15; (with_reducible refine (CallsIn.inRound l (callsIn_wide.2 (HRP.out _))).mono ?_); rintro e w4 ⟨rfl, b4⟩; have k4 := after (WY := WY) (by exact bl) b4; have zk4 := Below.size k4; have r4 := rY.below k4 lY; have y40 := r4.cell 0; have y41 := r4.cell 1; have y42 := r4.cell 2; have l4 := r4.lt; simp at y40 y41 y42) | (refine ⟨trivial, ?_⟩; gi_at_call 16; (with_reducible refine (CallsIn.inRound l (callsIn_wide.2 (HIK.out _ (by exact bl)))).mono ?_); rintro e w5 ⟨rfl, b5⟩; have k5 := after (WY := WY) (by exact bl) b5; have zk5 := Below.size k5; have r5 := rY.below k5 lY; have y50 := r5.cell 0; have y51 := r5.cell 1; have y52 := r5.cell 2; have l5 := r5.lt; simp at y50 y51 y52) | fail)
          all_goals gi_wp2_with (first | (refine ⟨trivial, ?_⟩; gi_at_call 17; (with_reducible refine (CallsIn.inRound l (callsIn_wide.2 (HQ.out _ (by exact bl)))).mono ?_); rintro e w6 ⟨rfl, b6⟩; have k6 := after (WY := WY) (by exact bl) b6; have zk6 := Below.size k6; have r6 := rY.below k6 lY; have y60 := r6.cell 0; have y61 := r6.cell 1; have y62 := r6.cell 2; have l6 := r6.lt; simp at y60 y61 y62) | (refine ⟨trivial, ?_⟩; gi_at_call 19; (with_reducible refine (CallsIn.inRound l (callsIn_wide.2 (HRW.out _ _ (by simp only [ByteArray.size_append, one32]; omega)))).mono ?_); rintro e w7 ⟨rfl, b7⟩; have k7 := after (WY := WY) (by exact bl) b7) | (refine ⟨trivial, ?_⟩; gi_at_call 18; (with_reducible refine (CallsIn.inRound l (callsIn_wide.2 (HWS.out _ _ (by exact bl) (by simp only [ByteArray.size_append, one32]; omega)))).mono ?_); rintro e w8 ⟨rfl, h8, b8, j8⟩) | fail)
          all_goals exact tr_fin hI hB hDD (fun ad e => ⟨(HA.out ad e).1, (HA.out ad e).2.2⟩) hn1 (after bY k7) b8 j8 (by have hh := h8; rw [HCL.out] at hh; rw [HLS.out, Lib.byteCells_append]; exact .inr hh)
        · have hm1 : (ym != 0) = true := by simpa using hm0
          have f4 : (9223372036854775807 < 1 + dm.size) = False := eq_false (by omega)
          have f5 : (9223372036854775807 < sp.size + dk.size + (1 + qx.size) + (1 + dm.size)) = False := eq_false (by omega)
          have HCL := Lib.hid (cells_line (L11.out hs0 hm0))
          gi_upto_region 9 with fail
          rw [← hWY, ← hgY]
          clear hWY hgY c0 c1' c2 c3 c4
          gi_region_with (first | (refine ⟨trivial, ?_⟩; gi_at_call 15; (with_reducible refine (CallsIn.inRound l (callsIn_wide.2 (HRP.out _))).mono ?_); rintro e w4 ⟨rfl, b4⟩; have k4 := after (WY := WY) (by exact bl) b4; have zk4 := Below.size k4; have r4 := rY.below k4 lY; have y40 := r4.cell 0; have y41 := r4.cell 1; have y42 := r4.cell 2; have l4 := r4.lt; simp at y40 y41 y42) | (refine ⟨trivial, ?_⟩; gi_at_call 16; (with_reducible refine (CallsIn.inRound l (callsIn_wide.2 (HIK.out _ (by exact bl)))).mono ?_); rintro e w5 ⟨rfl, b5⟩; have k5 := after (WY := WY) (by exact bl) b5; have zk5 := Below.size k5; have r5 := rY.below k5 lY; have y50 := r5.cell 0; have y51 := r5.cell 1; have y52 := r5.cell 2; have l5 := r5.lt; simp at y50 y51 y52) | fail)
          all_goals gi_wp2_with (first | (refine ⟨trivial, ?_⟩; gi_at_call 17; (with_reducible refine (CallsIn.inRound l (callsIn_wide.2 (HQ.out _ (by exact bl)))).mono ?_); rintro e w6 ⟨rfl, b6⟩; have k6 := after (WY := WY) (by exact bl) b6; have zk6 := Below.size k6; have r6 := rY.below k6 lY; have y60 := r6.cell 0; have y61 := r6.cell 1; have y62 := r6.cell 2; have l6 := r6.lt; simp at y60 y61 y62) | (refine ⟨trivial, ?_⟩; gi_at_call 16; (with_reducible refine (CallsIn.inRound l (callsIn_wide.2 (HIM.out _ (by exact bl)))).mono ?_); rintro e w9 ⟨rfl, b9⟩; have k9 := after (WY := WY) (by exact bl) b9; have zk9 := Below.size k9; have r9 := rY.below k9 lY; have y90 := r9.cell 0; have y91 := r9.cell 1; have y92 := r9.cell 2; have l9 := r9.lt; simp at y90 y91 y92) | (refine ⟨trivial, ?_⟩; gi_at_call 19; (with_reducible refine (CallsIn.inRound l (callsIn_wide.2 (HRW.out _ _ (by simp only [ByteArray.size_append, one32]; omega)))).mono ?_); rintro e w7 ⟨rfl, b7⟩; have k7 := after (WY := WY) (by exact bl) b7) | (refine ⟨trivial, ?_⟩; gi_at_call 18; (with_reducible refine (CallsIn.inRound l (callsIn_wide.2 (HWS.out _ _ (by exact bl) (by simp only [ByteArray.size_append, one32]; omega)))).mono ?_); rintro e w8 ⟨rfl, h8, b8, j8⟩) | fail)
          all_goals exact tr_fin hI hB hDD (fun ad e => ⟨(HA.out ad e).1, (HA.out ad e).2.2⟩) hn1 (after bY k7) b8 j8 (by have hh := h8; rw [HCL.out] at hh; rw [HLS.out, Lib.byteCells_append]; exact .inr hh)
  · have h7 : (re != 0) = true := by simpa using he
    have hTT := HTT0.out
    rw [if_neg he] at hTT
    have HTT := Lib.hid hTT
    clear hTT HTT0
    gi_wp2_with (first
      | (refine ⟨trivial, ?_⟩; gi_at_call 13; (with_reducible refine (callsIn_wide.2 HC.out).mono ?_); rintro e w1 ⟨rfl, b1⟩)
      | fail)
    exact ⟨.tuple #[.string ⟨#[]⟩, .int .i64 re], by simp [results, Tryz.f7, go_sem], by rw [HTT.out], bA.trans (b1.mono bA.size)⟩
end Go.Proofs.YtcphkdooemengaaGreatDoor
