/- Some texts of this claim, put together. -/
import Derived.Test.YtpkdhciokiomlaaDoorHBZ12
import Derived.Test.YtpkdhciokiomlaaDoorHBZ21
import Derived.Test.YtpkdhciokiomlaaDoorHBZ13
import Derived.OwnWalk
import Derived.RangeFuncNested
import Derived.RangeFuncBound
import Derived.RangeFuncCalls
import Derived.RangeFuncLeaves
import Derived.Shelf.Abstract
import Derived.Shelf.RegionOpen
import Derived.OwnWalkIn
import Derived.TacticsInMore
import Derived.LoopNIn
import Derived.LoopIn
import Derived.Sort.CutIn
namespace Go.Proofs.YtpkdhciokiomlaaDoor
section
set_option linter.unusedVariables false
set_option linter.unusedSimpArgs false
set_option linter.unnecessarySimpa false
open Go.RowKit
attribute [local go_sem] cell_alloc_add cell_set_add lt_more
theorem intsC_at {l : List Int} {j : Nat} (h : j < l.length) : (intsC l)[j]? = some (.int .i64 (l.getD j 0)) := ksV_get h
theorem intsC_set (l : List Int) (j : Nat) (z : Int) : (intsC l).set j (.int .i64 z) = intsC (l.set j z) := by simp [intsC, List.map_set]
theorem intsC_zero (n : Nat) : (madeCells (Value.int .i64 0).cells (n * 1)).toList = intsC (List.replicate n 0) := by
  rw [Nat.mul_one]
  show (madeCells #[Value.int .i64 0] n).toList = _
  rw [toList_madeCells_one]; simp [intsC]
theorem take_next {ks : List Int} {j : Nat} (h : j < ks.length) : ks.take (j + 1) = ks.take j ++ [ks.getD j 0] := by
  rw [List.take_succ_eq_append_getElem h]; simp [List.getD, h]
set_option maxRecDepth 100000 in
set_option maxHeartbeats 16000000 in
theorem Walk_any (A : Option Addr) (L : List Nd) (c : Nat) (hc : L.length ≤ c) (hm : c ≤ maxLen) (hL : L.length ≤ 2000000) (hx : ∀ j : Nat, (nd L j).x.size ≤ 4000000) (w : World) (h : TreeAt w w.heap.size A L) (hmx : Mx w) (hw00 : 0 < w.heap.size) :
    Calls Tryd.prog 14 #[.agg #[.slice A L.length c]] w fun e w' => (e = .returned (.func (.func 22) #[] #[.pointer (some ⟨w.heap.size + 1, 0, none⟩)]) ∧ ∃ v, Row w' (w.heap.size + 1) 33 #[v] ∧ w'.ownsRow (w.heap.size + 2) 3 1 v (depsL L).length (intsC (depsL L))) ∧ Below w.heap.size w w' := by
  obtain ⟨wa, hwa⟩ : ∃ wa : World, wa = (w.alloc (.cells #[.slice A L.length c] 24)).alloc (.cells #[.slice none 0 0] 33) := ⟨_, rfl⟩
  have bA : Below w.heap.size w wa := by rw [hwa]; exact (by (exact bl))
  have zA : w.heap.size + 1 < wa.heap.size := by rw [hwa]; simp
  have rT : Row wa w.heap.size 24 #[.slice A L.length c] := by rw [hwa]; exact (row_new rfl).alloc _
  have rD : Row wa (w.heap.size + 1) 33 #[.slice none 0 0] := by rw [hwa]; exact row_new (by simp)
  have HC := Lib.hid (Check_any A L c hc hm (by omega) hx wa (h.later bA) (hmx.below bA hw00) (by omega))
  have HD := Lib.hid (show depsL L = if (chk L).2 = 0 then deepL L else [] from rfl)
  have HG := Lib.hid (fun e => (good_iff (L := L)).1 e)
  have hT := Lib.hid h
  have hm2 := Lib.hid hm
  obtain ⟨i0, hi0, iz0, iz1, iz2⟩ := info_parts infoInt
  clear h hmx
  unfold maxLen at hm
  generalize chk L = R at *
  obtain ⟨ra, re⟩ := R
  simp only at HC HD HG
  have t0 := rT.cell 0
  simp at t0
  by_cases h0 : re = 0
  · subst h0
    have hs := HG.out rfl
    have HS := Lib.hid hs
    have hD := HD.out
    rw [if_pos rfl] at hD
    have HDD := Lib.hid hD
    clear HG HD hD hs
    go_enter Tryd.func14, Tryd.ntmps14
    go_upto_region 2 with fail
    rw [← hwa]
    clear hwa
    go_upto_region 4 with (first
      | (go_at_call 9; (with_reducible refine HC.out.mono ?_); rintro e w1 ⟨rfl, b1⟩; have q1 := bA.trans (b1.mono (by omega)); have rT1 := rT.below b1 (by omega); have rD1 := rD.below b1 (by omega); have z1 := Below.size b1)
      | fail)
    have t1 := rT1.cell 0
    have d1 := rD1.cell 0
    have f1 := rD1.free 0
    simp at t1 d1
    have l1 := rD1.lt
    go_upto_region 5 with (first
      | (at_make; refine wpList_make_full _ rfl _ _ 33 rfl (w.heap.size + 2) 3 i0 _ 1 Tryd.underlying33 hi0 iz0 iz1 .i64 .i64 _ _ L.length rfl rfl rfl rfl (by rw [iz2]; omega) (by unfold maxLen; omega) (by omega) ?_; intro w2 hown2 hg2; have rD2 := row_grown rD1 hg2 (by simp); have rT2 := row_grown rT1 hg2 (by simp); have d2 := rD2.cell 0; have f2 := rD2.free 0; have l2 := rD2.lt; simp at d2)
      | fail)
    rw [intsC_zero] at hown2
    have b2 : Below w.heap.size w w2 := q1.grown hg2 (by omega) (fun k hk => by cases hk)
    obtain ⟨g, hg⟩ : ∃ g, g = w1.heap.size := ⟨_, rfl⟩
    rw [← hg] at hown2 ⊢
    obtain ⟨w3, hw3⟩ : ∃ w3, w3 = w2.setCell ⟨w.heap.size + 1, 0, none⟩ (.slice (some ⟨g, 0, none⟩) L.length L.length) := ⟨_, rfl⟩
    have hown3 : w3.ownsRow (w.heap.size + 2) 3 1 (.slice (some ⟨g, 0, none⟩) L.length L.length) L.length (intsC (List.replicate L.length 0)) := by
      rw [hw3]; exact ownsRow_setCell_below hown2 (by show w.heap.size + 1 < _; omega) _
    have rD3 : Row w3 (w.heap.size + 1) 33 #[.slice (some ⟨g, 0, none⟩) L.length L.length] := by rw [hw3]; exact row_put1 rD2 _
    have rT3 : Row w3 w.heap.size 24 #[.slice A L.length c] := by rw [hw3]; exact rT2.far (by simp) _
    have b3 : Below w.heap.size w w3 := by rw [hw3]; exact b2.setCell (by show w.heap.size ≤ w.heap.size + 1; omega) _
    have hgg : w.heap.size + 2 ≤ g := by omega
    try rw [← hw3]
    clear hw3 hg hown2 rD2 rT2 d2 f2 l2 b2 hg2 rD1 rT1 t1 d1 f1 l1 b1 q1 z1 rT rD t0
    have t3 := rT3.cell 0
    simp at t3
    go_wp2
    go_loopw [24] (fun t wr => ∃ q : Nat, q ≤ L.length ∧ t = .int .i64 (q : Int) ∧ Row wr (w.heap.size + 1) 33 #[.slice (some ⟨g, 0, none⟩) L.length L.length] ∧ wr.ownsRow (w.heap.size + 2) 3 1 (.slice (some ⟨g, 0, none⟩) L.length L.length) L.length (intsC (deepG L q)) ∧ Below w.heap.size w wr) (fun t _ => L.length - (intOf t).toNat)
    case atStart => exact ⟨0, Nat.zero_le _, rfl, rD3, hown3, b3⟩
    case round =>
      obtain ⟨q, hq, rfl, rD, hown, hb⟩ := hrel
      clear rD3 hown3 b3 rT3 t3
      generalize hwo : wr = wo at *
      clear hwo
      have hz := Below.size hb
      have ld := rD.lt
      by_cases hlt : q < L.length
      · obtain ⟨ad, rfl, hn⟩ := hT.out q hlt
        have hn2 := hn.keep (W' := wo) (fun p hp => hb.cell hp)
        have hb1 := hn2.blk
        have hbq : (ad.add (q * 5)).block < wo.heap.size := Nat.lt_of_lt_of_le hb1 hz
        have hba : ad.block < wo.heap.size := by rw [block_add] at hbq; exact hbq
        obtain ⟨K0, kc0, c0, c1, c2, c3, c4, hK0, hkk, hkm⟩ := node_open hn2
        have HK := Lib.hid (hK0)
        have HGK := Lib.hid (fun k hk => good_kid HS.out hlt k hk)
        have HDV := Lib.hid (show deepG L (q + 1) = setK (deepG L q) (nd L q).ks ((deepG L q).getD q 0 + 1) from rfl)
        have hdp0 : 0 ≤ (deepG L q).getD q 0 := by rw [← dp_at HS.out (by omega)]; exact dp_pos HS.out hlt
        have hdp1 : (deepG L q).getD q 0 ≤ q := by rw [← dp_at HS.out (by omega)]; exact dp_le HS.out q q (Nat.le_refl _) hlt
        have HLEN := Lib.hid (deepG_len L q)
        have HO := Lib.hid hown
        clear hn hn2 hK0 hown
        generalize nd L q = y at *
        obtain ⟨k, x, m, ks, p⟩ := y
        simp only at c0 c1 c2 c3 c4 hkk HGK HDV HK
        unfold maxLen at hkm
        generalize hMM : ks.length = M at *
        have HMM := Lib.hid hMM
        clear hMM
        generalize hdd : (deepG L q).getD q 0 = d at *
        have Hdd := Lib.hid hdd
        clear hdd
        go_wp2
        go_loopw [32] (fun t wi => ∃ j : Nat, j ≤ M ∧ t = .int .i64 (j : Int) ∧ Row wi (w.heap.size + 1) 33 #[.slice (some ⟨g, 0, none⟩) L.length L.length] ∧ wi.ownsRow (w.heap.size + 2) 3 1 (.slice (some ⟨g, 0, none⟩) L.length L.length) L.length (intsC (setK (deepG L q) (ks.take j) (d + 1))) ∧ Below w.heap.size wo wi) (fun t _ => M - (intOf t).toNat)
        case atStart => exact ⟨0, Nat.zero_le _, rfl, rD.alloc _, HO.out.alloc _, (Below.refl _ _).alloc (by omega) _⟩
        case round =>
          obtain ⟨j, hj, rfl, rDi, hoi, bi⟩ := hrel
          generalize hwi : wr = wi at *
          clear hwi
          have zi := Below.size bi
          have ldi := rDi.lt
          have e0 := rDi.cell 0
          simp at e0
          by_cases hjl : j < M
          · have hjk : j < ks.length := by rw [HMM.out]; exact hjl
            obtain ⟨kd, hKd, hkb, kcell0⟩ := HK.out j hjl
            subst hKd
            have kcell : wi.cell? (kd.add j) = some (.int .i64 (ks.getD j 0)) := (bi.cell (by rw [block_add]; exact hkb)).trans kcell0
            have HTK := Lib.hid (take_next hjk)
            obtain ⟨jn, hju, hj1, hj2⟩ := HGK.out _ (getD_mem hjk)
            rw [hju] at kcell HTK
            clear kcell0 hju
            have HLI := Lib.hid (show (setK (deepG L q) (ks.take j) (d + 1)).length = L.length by rw [setK_len, HLEN.out])
            have hgq : (setK (deepG L q) (ks.take j) (d + 1)).getD q 0 = d := by
              rw [setK_out _ _ _ _ (fun k hk => by
                obtain ⟨j', e1, e2, e3⟩ := HGK.out k (List.mem_of_mem_take hk)
                omega), Hdd.out]
            have cq := (hoi.cellAt q (by omega)).trans (intsC_at (by rw [HLI.out]; exact hlt))
            rw [hgq] at cq
            have cj := (hoi.cellAt jn (by omega)).trans (intsC_at (by rw [HLI.out]; exact hj2))
            have fj := hoi.frozenAt jn
            have hst := hoi.stored jn (.int .i64 (d + 1))
            rw [intsC_set] at hst
            have HST := Lib.hid hst.1
            have hg2 := (own_lt hoi) g rfl
            have hji : (jn : Int) < (L.length : Int) := by omega
            have hqi : (q : Int) < (L.length : Int) := by omega
            have hwr : IntKind.i64.wrap (d + 1) = d + 1 := by rw [IntKind.wrap_i64]; omega
            clear hst hoi hgq
            generalize (setK (deepG L q) (ks.take j) (d + 1)).getD jn 0 = dj at *
            go_wp2
            go_region
            all_goals go_wp2
            all_goals
              refine ⟨⟨j + 1, by omega, by go_num, rDi.far (by simp; omega) _, ?_, (bi.setCell (p := ⟨g, jn, none⟩) (by show w.heap.size ≤ g; omega) (.int .i64 (d + 1))).drew⟩, by simp [intOf]; omega⟩
              rw [HTK.out, setK_snoc, Int.toNat_natCast]
              exact HST.out
          · obtain rfl : j = M := by omega
            have HOI := Lib.hid hoi
            clear hoi
            go_wp2
            refine ⟨⟨q + 1, by omega, by go_num, rDi, ?_, hb.trans bi⟩, by simp [intOf]; omega⟩
            have := HOI.out
            rw [← HMM.out, List.take_length, ← HDV.out] at this
            exact this
      · obtain rfl : q = L.length := by omega
        have HO := Lib.hid hown
        clear hown
        go_wp2
        go_ret
        refine ⟨⟨rfl, _, rD, ?_⟩, hb⟩
        rw [HDD.out]
        have := HO.out
        show World.ownsRow _ _ _ _ _ (deepG L L.length).length (intsC (deepG L L.length))
        rw [deepG_len]
        exact this
  · have hre : (re == 0) = false := by simpa using h0
    have hD := HD.out
    rw [if_neg h0] at hD
    have HDD := Lib.hid hD
    clear HG HD hD
    go_enter Tryd.func14, Tryd.ntmps14
    go_upto_region 2 with fail
    rw [← hwa]
    clear hwa
    go_wp2_with (first
      | (go_at_call 9; (with_reducible refine HC.out.mono ?_); rintro e w1 ⟨rfl, b1⟩; have q1 := bA.trans (b1.mono (by omega)); have rT1 := rT.below b1 (by omega); have rD1 := rD.below b1 (by omega); have z1 := Below.size b1)
      | fail)
    go_ret
    refine ⟨⟨rfl, _, rD1, ?_⟩, q1⟩
    rw [HDD.out]
    exact World.ownsRow_nil _ _ _ _
end
section
set_option linter.unusedVariables false
set_option linter.unusedSimpArgs false
set_option linter.unnecessarySimpa false
open Go.RowKit
attribute [local go_sem] cell_alloc_add cell_set_add lt_more Oper.semAt_some
/-- These numbers lie at A. -/
def RdD (W : World) (A : Option Addr) (D : List Int) : Prop := ∀ j, j < D.length → ∃ ad, A = some ad ∧ W.cell? (ad.add j) = some (.int .i64 (D.getD j 0))
set_option maxRecDepth 100000 in
set_option maxHeartbeats 4000000 in
theorem Walk1_call (F : FuncId) (caps : Array Value) (Bs : Nat) (D : List Int) (n : Nat) (hn : D.length = n) (hnb : n ≤ 2000000) (A : Option Addr) (c : Nat) (hnc : n ≤ c) (hcm : c ≤ maxLen) (J Jx : Nat → World → Prop)
    (hF : ∀ args w, (callFunc F args).run Tryd.prog w = .ok (.enter F args) w) (hJR : ∀ q W, J q W → RdD W A D)
    (hY : ∀ q W, q < n → J q W → Calls Tryd.prog F (#[.int .i64 (q : Int), .int .i64 (D.getD q 0)] ++ caps) W fun e W' => (e = .returned (.bool true) ∧ J (q + 1) W') ∨ (e = .returned (.bool false) ∧ Jx (q + 1) W'))
    (W : World) (hc : W.cell? ⟨Bs, 0, none⟩ = some (.slice A n c)) (h0 : J 0 W) :
    Calls Tryd.prog 22 #[.func (.func F) #[] caps, .pointer (some ⟨Bs, 0, none⟩)] W fun e W' => (∃ v, e = .returned v) ∧ (J n W' ∨ (∃ q, 0 < q ∧ q ≤ n ∧ Jx q W')) := by
  have HN := Lib.hid hn
  have HR := Lib.hid hJR
  clear hn hJR
  unfold maxLen at hcm
  go_enter Tryd.func22, Tryd.ntmps22
  go_wp2
  go_loopw [7] (fun t wr => ∃ q : Nat, q ≤ n ∧ t = .int .i64 (q : Int) ∧ J q wr) (fun t _ => n - (intOf t).toNat)
  case atStart => exact ⟨0, Nat.zero_le _, rfl, h0⟩
  case round =>
    obtain ⟨q, hq, rfl, hj⟩ := hrel
    by_cases hlt : q < n
    · obtain ⟨ad, rfl, hcell⟩ := HR.out q wr hj q (by rw [HN.out]; exact hlt)
      have HYq := Lib.hid (hY q wr hlt hj)
      generalize D.getD q 0 = d at *
      go_wp2_with (first
        | ((with_reducible refine HYq.out.mono ?_); rintro e W3 (⟨rfl, hJ3⟩ | ⟨rfl, hJx3⟩))
        | fail)
      · exact ⟨⟨q + 1, by omega, by go_num, hJ3⟩, by simp [intOf]; omega⟩
      · refine bodyPost_ret (results_none rfl _ _ _) rfl ?_
        exact ⟨⟨_, rfl⟩, .inr ⟨q + 1, by omega, by omega, hJx3⟩⟩
    · obtain rfl : q = n := by omega
      go_wp2
      go_end0
      exact ⟨⟨_, rfl⟩, .inl hj⟩
def encD (D : List Int) (n : Nat) (x : Fin n) : Array Value := #[.int .i64 (x.1 : Int), .int .i64 (D.getD x.1 0)]
/-- The numbers stand. -/
def KeepD (A : Option Addr) (n : Nat) (W W' : World) : Prop := ∀ j, j < n → ∀ ad v, A = some ad → W.cell? (ad.add j) = some v → W'.cell? (ad.add j) = some v
theorem keepD_t {A : Option Addr} {n : Nat} {W1 W2 W3 : World} (h : KeepD A n W1 W2) (k : KeepD A n W2 W3) : KeepD A n W1 W3 := fun j hj ad v e hv => k j hj ad v e (h j hj ad v e hv)
theorem rdD_keep {W W' : World} {A : Option Addr} {D : List Int} {n : Nat} (h : RdD W A D) (hn : D.length = n) (k : KeepD A n W W') : RdD W' A D := fun j hj => by
  obtain ⟨ad, e, hc⟩ := h j hj
  exact ⟨ad, e, k j (by omega) ad _ e hc⟩
theorem cell_keptA {W W' : World} {row : Option Nat} {p : Addr} {v : Value} (hv : W.cell? p = some v) (hg : W.grownBy W' row) (hr : ∀ r, row = some r → ∃ o : Obj, W.heap[r]? = some o ∧ o.isCells = false) : W'.cell? p = some v := by
  have hlt := World.block_lt_of_cell? W p hv
  refine (World.cell?_of_block (hg.block p.block hlt (fun e => ?_))).trans hv
  obtain ⟨o, ho, hi⟩ := hr _ e.symm
  unfold World.cell? at hv
  rw [ho] at hv
  cases o <;> simp [Obj.isCells] at hi hv
theorem keepD_b {A : Option Addr} {n : Nat} {w : World} (W : World) (l : Nat) (o o' : Obj) (_ : w.heap.size ≤ l) (h : W.heap[l]? = some o) (ho : o.isCells = false) (_ : o.isWalk = false) : KeepD A n W (W.putObj l o') := fun j hj ad v e hv =>
  cell_keptA hv (grownBy_putObj' _ l o') (fun r e => by cases e; exact ⟨_, h, ho⟩)
theorem keepD_below {A : Option Addr} {n B : Nat} {W W' : World} (h : Below B W W') (hA : ∀ ad, A = some ad → ad.block < B) : KeepD A n W W' := fun j hj ad v e hv =>
  (h.cell (by rw [block_add]; exact hA ad e)).trans hv
set_option maxRecDepth 100000 in
set_option maxHeartbeats 4000000 in
theorem Walk1_in (m : Nat) (hm1 : 1 ≤ m) (l Bs : Nat) (D : List Int) (n : Nat) (hn : D.length = n) (hnb : n ≤ 2000000) (A : Option Addr) (c : Nat) (hnc : n ≤ c) (hcm : c ≤ maxLen) (J Jx : List (Fin n) → World → Prop)
    (hY : ∀ pre x W, J pre W → pre.length < n → YieldAt Fence.wide (m - 1) Tryd.prog l (encD D n x) W fun e W' =>
      (e = .returned (.bool true) ∧ J (pre ++ [x]) W' ∧ KeepD A n W W') ∨ (e = .returned (.bool false) ∧ Jx (pre ++ [x]) W'))
    (W : World) (hc : W.cell? ⟨Bs, 0, none⟩ = some (.slice A n c)) (hr : RdD W A D) (h0 : J [] W) :
    CallsIn Fence.wide m Tryd.prog 22 #[.func (.yield l) #[] #[], .pointer (some ⟨Bs, 0, none⟩)] W fun e W' => (∃ v, e = .returned v) ∧
      ((∃ ys, ys = fins n n ∧ J ys W') ∨ (∃ pre, (∃ q, 0 < q ∧ q ≤ n ∧ pre = fins n q) ∧ Jx pre W')) := by
  have HN := Lib.hid hn
  clear hn
  unfold maxLen at hcm
  refine callsIn_of_wp Tryd.func22 rfl trivial ?_ rfl
  simp only [Tryd.ntmps22, List.size_toArray, List.length_cons, List.length_nil, Nat.reduceAdd, Nat.reduceSub, Array.replicate_succ, Array.replicate_zero, List.push_toArray, List.append_toArray, List.nil_append, List.cons_append]
  gi_wp2
  gi_loopw [7] (fun t wr => ∃ q : Nat, q ≤ n ∧ t = .int .i64 (q : Int) ∧ J (fins n q) wr ∧ RdD wr A D) (fun t _ => n - (intOf t).toNat)
  case atStart => exact ⟨0, Nat.zero_le _, rfl, h0, hr⟩
  case round =>
    obtain ⟨q, hq, rfl, hj, hrd⟩ := hrel
    by_cases hlt : q < n
    · have hrd2 := Lib.hid hrd
      obtain ⟨ad, rfl, hcell⟩ := hrd q (by rw [HN.out]; exact hlt)
      obtain ⟨fn, tmps, assign, body, hy, hR⟩ := hY (fins n q) ⟨q, hlt⟩ wr hj (by rw [fins_len q hq]; exact hlt)
      dsimp only [encD] at hy
      clear hrd
      generalize D.getD q 0 = d at *
      gi_wp2
      all_goals
        refine hR.mono ?_
        rintro e W3 (⟨rfl, hJ3, hk3⟩ | ⟨rfl, hJx3⟩)
        · have hrd3 := rdD_keep hrd2.out HN.out hk3
          gi_wp2
          go_roundw
          case rel => exact ⟨q + 1, by omega, by go_num, by rw [fins_step hlt]; exact hJ3, hrd3⟩
          case measure => simp [intOf]; omega
        · gi_wp2
          refine bodyPost_ret (results_none rfl _ _ _) rfl ?_
          exact ⟨⟨_, rfl⟩, .inr ⟨fins n (q + 1), ⟨q + 1, by omega, by omega, rfl⟩, by rw [fins_step hlt]; exact hJx3⟩⟩
    · obtain rfl : q = n := by omega
      gi_wp2
      go_end0
      exact ⟨⟨_, rfl⟩, .inl ⟨_, rfl, hj⟩⟩
theorem Walk1_stops (m : Nat) (hm1 : 1 ≤ m) (Bs : Nat) (D : List Int) (n : Nat) (hn : D.length = n) (hnb : n ≤ 2000000) (A : Option Addr) (c : Nat) (hnc : n ≤ c) (hcm : c ≤ maxLen) (w : World) (hc : w.cell? ⟨Bs, 0, none⟩ = some (.slice A n c)) (hr : RdD w A D) (hA : ∀ ad, A = some ad → ad.block < w.heap.size) :
    SeqStopsK Fence.wide m Tryd.prog 22 #[.pointer (some ⟨Bs, 0, none⟩)] (encD D n) (KeepD A n) (fun ys => ys = fins n n) (fun pre => ∃ q, 0 < q ∧ q ≤ n ∧ pre = fins n q) n w := fun l J Jx W hW _ _ hY h0 =>
  Walk1_in m hm1 l Bs D n hn hnb A c hnc hcm J Jx hY W ((hW.cell (p := ⟨Bs, 0, none⟩) (World.block_lt_of_cell? w _ hc)).trans hc) (rdD_keep hr hn (keepD_below hW hA)) h0
end
section
set_option linter.unusedVariables false
set_option linter.unusedSimpArgs false
set_option linter.unnecessarySimpa false
open Go.RowKit
theorem max_run {P : Program} {w : World} (ts : Array TypeId) (t : TypeId) (k k' : IntKind) (x y : Int) : (Builtin.max_ ts t #[.int k x, .int k' y]).run P w = .ok (.int k (max x y)) w := by
  rw [run_max_int2]; congr 2; simp only [Int.max_def]; split <;> split <;> omega
attribute [local go_sem high] max_run
attribute [local go_sem] cell_alloc_add cell_set_add lt_more Oper.semAt_some
/-- The greatest of the first q numbers; 0, if none is greater. -/
def maxD (D : List Int) : Nat → Int
  | 0 => 0
  | q + 1 => max (maxD D q) (D.getD q 0)
def maxF (D : List Int) (n : Nat) (l : List (Fin n)) : Int := l.foldl (fun m x => max m (D.getD x.1 0)) 0
theorem maxF_snoc (D : List Int) (n : Nat) (l : List (Fin n)) (x : Fin n) : maxF D n (l ++ [x]) = max (maxF D n l) (D.getD x.1 0) := by simp [maxF]
theorem maxF_fins (D : List Int) (n : Nat) : ∀ q, q ≤ n → maxF D n (fins n q) = maxD D q
  | 0, _ => rfl
  | q + 1, h => by rw [fins_step (by omega), maxF_snoc, maxF_fins D n q (by omega)]; rfl
/-- How deep the deepest node stands. -/
def depthL (L : List Nd) : Int := maxD (depsL L) (depsL L).length
theorem rdD_own {W : World} {base : Nat} {D : List Int} {A : Option Addr} {c : Nat} (h : W.ownsRow base 3 1 (.slice A D.length c) D.length (intsC D)) : RdD W A D := fun j hj => by
  have hr : Rd W W.heap.size A D.length (ksV D) := Rd.of_own h (fun j hj => ksV_get hj)
  obtain ⟨ad, e, _, hcell⟩ := hr j hj
  exact ⟨ad, e, hcell⟩
end
end Go.Proofs.YtpkdhciokiomlaaDoor
