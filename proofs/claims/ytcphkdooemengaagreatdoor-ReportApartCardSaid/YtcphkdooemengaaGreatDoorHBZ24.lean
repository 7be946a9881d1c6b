/- Some texts of this claim, put together. -/
import Derived.Test.YtcphkdooemengaaGreatDoorHR14
import Derived.Test.YtcphkdooemengaaGreatDoorHBZ5
import Derived.Test.YtcphkdooemengaaGreatDoorHBZ19
namespace Go.Proofs.YtcphkdooemengaaGreatDoor
section
set_option linter.unusedVariables false
set_option linter.unusedSimpArgs false
set_option linter.unnecessarySimpa false
open Go.RowKit
attribute [local go_sem] cell_alloc_add cell_set_add lt_more
set_option maxRecDepth 100000 in
set_option maxHeartbeats 8000000 in
theorem rLook_any (A : Option Addr) (L : List Nd) (c : Nat) (hc : L.length ≤ c) (hm : c ≤ maxLen) (hL : L.length ≤ 1000000000000) (hx : ∀ j : Nat, (nd L j).x.size ≤ 4000000000) : ∀ (f i : Nat) (w : World), TreeAt w w.heap.size A L → i < L.length → L.length - i ≤ f →
    Calls Tryz.prog 45 #[.agg #[.slice A L.length c], .int .i64 (i : Int)] w fun e w' => e = .returned (.tuple #[.int .i64 (look L f i).1, .int .i64 ((look L f i).2 : Int)]) ∧ Below w.heap.size w w' := by
  intro f
  induction f with
  | zero => intro i w _ hi hf; omega
  | succ f ih =>
    intro i w h hi hf
    have hT := Lib.hid h
    have hm2 := Lib.hid hm
    have IH := Lib.hid ih
    clear ih
    obtain ⟨ad, rfl, hn⟩ := h i hi
    have hb2 := hn.blk
    have hb1 : ad.block < w.heap.size := (by rw [block_add] at hb2; exact hb2)
    obtain ⟨K0, kc0, c0, c1, c2, c3, c4, hK0, hkk, hkm⟩ := node_open hn
    have bx : Below w.heap.size w (w.alloc (.cells #[.slice (some ad) L.length c] 24)) := (by (exact bl))
    have HF := Lib.hid (rFits_any (some ad) L c i _ (h.later bx) hc hm hL hi (hx i))
    have HS := Lib.hid (show look L (f + 1) i = if fitsB L (i : Int) = false then ((i : Int), i + 1) else lookK (look L f) i (nd L i).ks (i + 1) from rfl)
    have HIN := Lib.hid (fun e => fits_in (L := L) (i := (i : Int)) e)
    unfold maxLen at hm hkm
    clear h hn c0 c1 c2 c4
    generalize hR : look L (f + 1) i = R at *
    clear hR
    generalize (nd L i).ks = ks at *
    generalize fitsB L i = bf at *
    cases bf
    · have hR := HS.out
      rw [if_pos rfl] at hR
      subst hR
      go_enter Tryz.func45, Tryz.ntmps45
      go_wp2_with (first
        | (go_at_call 66; (with_reducible refine HF.out.mono ?_); rintro e w1 ⟨rfl, b1⟩; have q1 := bx.trans (b1.mono bx.size))
        | fail)
      go_ret2
      exact ⟨rfl, q1⟩
    · have hR := HS.out
      rw [if_neg (by simp)] at hR
      have HR := Lib.hid (show lookK (look L f) i (ks.drop 0) (i + 1) = R from hR.symm)
      have hin := Lib.hid (HIN.out rfl)
      clear HS hR HIN
      generalize hM : ks.length = M at *
      have HM := Lib.hid hM
      clear hM
      go_enter Tryz.func45, Tryz.ntmps45
      go_wp2_with (first
        | (go_at_call 66; (with_reducible refine HF.out.mono ?_); rintro e w1 ⟨rfl, b1⟩; have q1 := bx.trans (b1.mono bx.size); have x1 : w1.cell? ⟨w.heap.size, 0, none⟩ = some (.slice (some ad) L.length c) := (b1.cell (p := ⟨w.heap.size, 0, none⟩) (by simp)).trans (by simp [World.cell?_alloc_mark]))
        | fail)
      have l1 := World.block_lt_of_cell? w1 _ x1
      simp only at l1
      go_loopw [6, 7] (fun nx t wr => ∃ q x : Nat, q ≤ M ∧ t = .int .i64 (q : Int) ∧ nx = .int .i64 (x : Int) ∧ i < x ∧ Hid (lookK (look L f) i (ks.drop q) x = R) ∧ Below w1.heap.size w1 wr) (fun _ t _ => M - (intOf t).toNat)
      case atStart => exact ⟨0, i + 1, Nat.zero_le _, rfl, by go_num, Nat.lt_succ_self i, HR, Below.refl _ _⟩
      case round =>
        obtain ⟨q, x, hq, rfl, rfl, hix, HT, hb⟩ := hrel
        have bw := q1.trans (hb.mono q1.size)
        have e0 := (hb.cell (p := ⟨w.heap.size, 0, none⟩) l1).trans x1
        have e3 := (bw.cell (p := ⟨(ad.add (i * 5)).block, (ad.add (i * 5)).off + 3, none⟩) hb2).trans c3
        have hz := Below.size bw
        by_cases hlt : q < M
        · obtain ⟨kd, hKd, hkb, kcell0⟩ := hK0 q hlt
          subst hKd
          have kcell : wr.cell? (kd.add q) = some (.int .i64 (ks.getD q 0)) := (bw.cell (by rw [block_add]; exact hkb)).trans kcell0
          have hq2 : q < ks.length := by rw [HM.out]; exact hlt
          have eK : ks.getD q 0 = ks[q] := by simp [List.getD, hq2]
          have hu := hin.out (ks.getD q 0) (by rw [eK]; exact List.getElem_mem _)
          have hT0 := HT.out
          rw [List.drop_eq_getElem_cons hq2, ← eK] at hT0
          have HT2 := Lib.hid hT0
          clear hT0 eK kcell0
          generalize ks.getD q 0 = u at *
          by_cases hux : u = (x : Int)
          · subst hux
            have hxl : x < L.length := (inL_iff.1 hu).2 |> fun h => by omega
            have hT3 := HT2.out
            unfold lookK at hT3
            rw [if_neg (by simp)] at hT3
            have HT3 := Lib.hid hT3
            have HI := Lib.hid (IH.out x wr ((hT.out).later bw) hxl (by omega))
            have hgt := look_gt L f x
            clear hT3 HT2 HT
            generalize look L f x = gx at *
            obtain ⟨bad, en⟩ := gx
            simp only at HT3 HI hgt
            by_cases hbad : 0 ≤ bad
            · have hR2 := HT3.out
              rw [if_pos hbad] at hR2
              subst hR2
              go_wp2_with (first
                | (go_at_call 45; (with_reducible refine HI.out.mono ?_); rintro e w2 ⟨rfl, b2⟩; have q2 := bw.trans (b2.mono bw.size))
                | fail)
              go_ret2
              exact ⟨rfl, q2⟩
            · have hR2 := HT3.out
              rw [if_neg hbad] at hR2
              have HR2 := Lib.hid hR2
              clear hR2 HT3
              go_wp2_with (first
                | (go_at_call 45; (with_reducible refine HI.out.mono ?_); rintro e w2 ⟨rfl, b2⟩; have q2 := hb.trans (b2.mono hb.size))
                | fail)
              exact ⟨⟨q + 1, en, by omega, by go_num, rfl, by omega, HR2, q2⟩, by simp [intOf]; omega⟩
          · have hne : (u != (x : Int)) = true := by simpa using hux
            have hT3 := HT2.out
            unfold lookK at hT3
            rw [if_pos hux] at hT3
            subst hT3
            go_wp2
            go_ret2
            exact ⟨rfl, bw⟩
        · obtain rfl : q = M := by omega
          have hR := HT.out
          rw [List.drop_of_length_le (by rw [HM.out]; exact Nat.le_refl _)] at hR
          have hR2 : R = (-1, x) := hR.symm
          subst hR2
          go_wp2
          go_ret2
          exact ⟨rfl, bw⟩
set_option maxRecDepth 100000 in
set_option maxHeartbeats 8000000 in
theorem rCheck_any (A : Option Addr) (L : List Nd) (c : Nat) (hc : L.length ≤ c) (hm : c ≤ maxLen) (hL : L.length ≤ 1000000000000) (hx : ∀ j : Nat, (nd L j).x.size ≤ 4000000000) (w : World) (h : TreeAt w w.heap.size A L) :
    Calls Tryz.prog 26 #[.agg #[.slice A L.length c]] w fun e w' => e = .returned (.tuple #[.int .i64 (chk L).1, .int .i64 (chk L).2]) ∧ Below w.heap.size w w' := by
  have bx : Below w.heap.size w (w.alloc (.cells #[.slice A L.length c] 24)) := (by (exact bl))
  have H := Lib.hid (show chk L = if L.length = 0 then (0, 7) else if 0 ≤ (look L L.length 0).1 then ((look L L.length 0).1, 7) else if (look L L.length 0).2 < L.length then (((look L L.length 0).2 : Int), 7) else (-1, 0) from rfl)
  generalize chk L = R at *
  by_cases h0 : L.length = 0
  · have hR := H.out
    rw [if_pos h0] at hR
    subst hR
    have h0' : ((L.length : Int) == 0) = true := beq_iff_eq.2 (by omega)
    clear h h0 H
    go_enter Tryz.func26, Tryz.ntmps26
    go_wp2
    go_ret2
    exact ⟨rfl, bx⟩
  · have HL := Lib.hid (rLook_any A L c hc hm hL hx L.length 0 _ (h.later bx) (by omega) (by omega))
    have hR := H.out
    rw [if_neg h0] at hR
    have HR := Lib.hid hR
    have h0' : ((L.length : Int) == 0) = false := beq_eq_false_iff_ne.2 (by omega)
    have HL2 := HL.out
    rw [show ((0 : Nat) : Int) = 0 from rfl] at HL2
    have HL3 := Lib.hid HL2
    clear h hR H HL HL2
    generalize look L L.length 0 = g at *
    obtain ⟨bad, en⟩ := g
    simp only at HR HL3
    unfold maxLen at hm
    by_cases hbad : 0 ≤ bad
    · have hR := HR.out
      rw [if_pos hbad] at hR
      subst hR
      go_enter Tryz.func26, Tryz.ntmps26
      go_wp2_with (first
        | (go_at_call 45; (with_reducible refine HL3.out.mono ?_); rintro e w2 ⟨rfl, b2⟩; have q2 := bx.trans (b2.mono bx.size))
        | fail)
      go_ret2
      exact ⟨rfl, q2⟩
    · have hR := HR.out
      rw [if_neg hbad] at hR
      by_cases hen : en < L.length
      · rw [if_pos hen] at hR
        subst hR
        go_enter Tryz.func26, Tryz.ntmps26
        go_wp2_with (first
          | (go_at_call 45; (with_reducible refine HL3.out.mono ?_); rintro e w2 ⟨rfl, b2⟩; have q2 := bx.trans (b2.mono bx.size); have x2 : w2.cell? ⟨w.heap.size, 0, none⟩ = some (.slice A L.length c) := (b2.cell (p := ⟨w.heap.size, 0, none⟩) (by simp)).trans (by simp [World.cell?_alloc_mark]))
          | fail)
        go_ret2
        exact ⟨rfl, q2⟩
      · rw [if_neg hen] at hR
        subst hR
        go_enter Tryz.func26, Tryz.ntmps26
        go_wp2_with (first
          | (go_at_call 45; (with_reducible refine HL3.out.mono ?_); rintro e w2 ⟨rfl, b2⟩; have q2 := bx.trans (b2.mono bx.size); have x2 : w2.cell? ⟨w.heap.size, 0, none⟩ = some (.slice A L.length c) := (b2.cell (p := ⟨w.heap.size, 0, none⟩) (by simp)).trans (by simp [World.cell?_alloc_mark]))
          | fail)
        go_ret2
        exact ⟨rfl, q2⟩
def goodT (L : List Nd) : Bool := decide ((chk L).2 = 0)
set_option maxRecDepth 100000 in
set_option maxHeartbeats 2000000 in
theorem rGoodT_any (A : Option Addr) (L : List Nd) (c : Nat) (hc : L.length ≤ c) (hm : c ≤ maxLen) (hL : L.length ≤ 1000000000000) (hx : ∀ j : Nat, (nd L j).x.size ≤ 4000000000) (w : World) (h : TreeAt w w.heap.size A L) :
    Calls Tryz.prog 11 #[.agg #[.slice A L.length c]] w fun e w' => e = .returned (.bool (goodT L)) ∧ Below w.heap.size w w' := by
  have bx : Below w.heap.size w (w.alloc (.cells #[.slice A L.length c] 24)) := (by (exact bl))
  have HC := Lib.hid (rCheck_any A L c hc hm hL hx _ (h.later bx))
  have H := Lib.hid (show goodT L = decide ((chk L).2 = 0) from rfl)
  clear h
  generalize goodT L = R at *
  generalize chk L = g at *
  obtain ⟨a, e0⟩ := g
  simp only at H HC
  go_enter Tryz.func11, Tryz.ntmps11
  go_wp2_with (first
    | (go_at_call 26; (with_reducible refine HC.out.mono ?_); rintro e w2 ⟨rfl, b2⟩; have q2 := bx.trans (b2.mono bx.size))
    | fail)
  go_ret
  exact ⟨ret_bool (by rw [H.out]; rw [Bool.eq_iff_iff]; simp), q2⟩
end
section
set_option linter.unusedVariables false
set_option linter.unusedSimpArgs false
set_option linter.unnecessarySimpa false
open Go.RowKit
attribute [local go_sem] cell_alloc_add cell_set_add lt_more
set_option maxRecDepth 100000 in
set_option maxHeartbeats 16000000 in
theorem rDepths_any (A : Option Addr) (L : List Nd) (c : Nat) (hc : L.length ≤ c) (hm : c ≤ maxLen) (hL : L.length ≤ 2000000) (hx : ∀ j : Nat, (nd L j).x.size ≤ 4000000) (w : World) (h : TreeAt w w.heap.size A L) :
    Calls Tryz.prog 21 #[.agg #[.slice A L.length c]] w fun e w' => (∃ v, e = .returned v ∧ w'.ownsRow (w.heap.size + 1) 3 1 v (depsL L).length (intsC (depsL L)) ∧ ((chk L).2 ≠ 0 → v = .slice none 0 0)) ∧ Below w.heap.size w w' := by
  obtain ⟨wa, hwa⟩ : ∃ wa : World, wa = w.alloc (.cells #[.slice A L.length c] 24) := ⟨_, rfl⟩
  have bA : Below w.heap.size w wa := by rw [hwa]; exact (by (exact bl))
  have zA : w.heap.size < wa.heap.size := by rw [hwa]; simp
  have rT : Row wa w.heap.size 24 #[.slice A L.length c] := by rw [hwa]; exact row_new rfl
  have HC := Lib.hid (rGoodT_any A L c hc hm (by omega) (fun j => by have := hx j; omega) wa (h.later bA))
  have HD := Lib.hid (show depsL L = if (chk L).2 = 0 then deepL L else [] from rfl)
  have HG := Lib.hid (fun e => (good_iff (L := L)).1 e)
  have HGD := Lib.hid (show goodT L = decide ((chk L).2 = 0) from rfl)
  have hT := Lib.hid h
  obtain ⟨i0, hi0, iz0, iz1, iz2⟩ := info_parts infoInt
  clear h
  unfold maxLen at hm
  generalize (chk L).2 = re at *
  have t0 := rT.cell 0
  simp at t0
  by_cases h0 : re = 0
  · subst h0
    have hs := HG.out rfl
    have HS := Lib.hid hs
    have hD := HD.out
    rw [if_pos rfl] at hD
    have HDD := Lib.hid hD
    have hgd := HGD.out
    rw [hgd, decide_eq_true rfl] at HC
    clear HG HD hD hs hgd HGD
    go_enter Tryz.func21, Tryz.ntmps21
    go_upto_region 1 with fail
    rw [← hwa]
    clear hwa
    go_upto_region 4 with (first
      | (go_at_call 11; (with_reducible refine HC.out.mono ?_); rintro e w1 ⟨rfl, b1⟩; have q1 := bA.trans (b1.mono (by omega)); have rT1 := rT.below b1 zA; have z1 := Below.size b1; have t1 := rT1.cell 0; simp at t1)
      | (at_make; refine wpList_make_full _ rfl _ _ 34 rfl (w.heap.size + 1) 3 i0 _ 1 Tryz.underlying34 hi0 iz0 iz1 .i64 .i64 _ _ L.length rfl rfl rfl rfl (by rw [iz2]; omega) (by unfold maxLen; omega) (by omega) ?_; intro w2 hown2 hg2; have rT2 := row_grown rT1 hg2 (by simp))
      | fail)
    rw [intsC_zero] at hown2
    have b2 : Below w.heap.size w w2 := q1.grown hg2 (by omega) (fun k hk => by cases hk)
    obtain ⟨g, hg⟩ : ∃ g, g = w1.heap.size := ⟨_, rfl⟩
    rw [← hg] at hown2 ⊢
    have hgg : w.heap.size + 1 ≤ g := by omega
    clear hg hg2 rT1 t1 b1 q1 z1 rT t0
    go_wp2
    go_loopw [4] (fun t wr => ∃ q : Nat, q ≤ L.length ∧ t = .int .i64 (q : Int) ∧ Row wr w.heap.size 24 #[.slice A L.length c] ∧ wr.ownsRow (w.heap.size + 1) 3 1 (.slice (some ⟨g, 0, none⟩) L.length L.length) L.length (intsC (deepG L q)) ∧ Below w.heap.size w wr) (fun t _ => L.length - (intOf t).toNat)
    case atStart => exact ⟨0, Nat.zero_le _, rfl, rT2, hown2, b2⟩
    case round =>
      obtain ⟨q, hq, rfl, rT, hown, hb⟩ := hrel
      clear rT2 hown2 b2
      generalize hwo : wr = wo at *
      clear hwo
      have hz := Below.size hb
      have lt := rT.lt
      have t0 := rT.cell 0
      simp at t0
      by_cases hlt : q < L.length
      · obtain ⟨ad, rfl, hn⟩ := hT.out q hlt
        have hb1 := hn.blk
        have hbq : (ad.add (q * 5)).block < wo.heap.size := Nat.lt_of_lt_of_le hb1 hz
        have hba : ad.block < wo.heap.size := by rw [block_add] at hbq; exact hbq
        obtain ⟨K0, kc0, c0, c1, c2, c3, c4, hK0, hkk, hkm⟩ := node_open hn
        have HK := Lib.hid (hK0)
        have HGK := Lib.hid (fun k hk => good_kid HS.out hlt k hk)
        have HDV := Lib.hid (show deepG L (q + 1) = setK (deepG L q) (nd L q).ks ((deepG L q).getD q 0 + 1) from rfl)
        have hdp0 : 0 ≤ (deepG L q).getD q 0 := by rw [← dp_at HS.out (by omega)]; exact dp_pos HS.out hlt
        have hdp1 : (deepG L q).getD q 0 ≤ q := by rw [← dp_at HS.out (by omega)]; exact dp_le HS.out q q (Nat.le_refl _) hlt
        have HLEN := Lib.hid (deepG_len L q)
        have HO := Lib.hid hown
        have HC3 := Lib.hid c3
        clear hn hK0 hown c0 c1 c2 c3 c4
        generalize nd L q = y at *
        obtain ⟨k, x, m, ks, p⟩ := y
        simp only at HC3 hkk HGK HDV HK
        unfold maxLen at hkm
        generalize hMM : ks.length = M at *
        have HMM := Lib.hid hMM
        clear hMM
        generalize hdd : (deepG L q).getD q 0 = d at *
        have Hdd := Lib.hid hdd
        clear hdd
        have hqi : (q : Int) < (L.length : Int) := by omega
        go_wp2
        go_loopw [5] (fun t wi => ∃ j : Nat, j ≤ M ∧ t = .int .i64 (j : Int) ∧ Row wi w.heap.size 24 #[.slice (some ad) L.length c] ∧ wi.ownsRow (w.heap.size + 1) 3 1 (.slice (some ⟨g, 0, none⟩) L.length L.length) L.length (intsC (setK (deepG L q) (ks.take j) (d + 1))) ∧ Below w.heap.size wo wi) (fun t _ => M - (intOf t).toNat)
        case atStart => exact ⟨0, Nat.zero_le _, rfl, rT, HO.out, Below.refl _ _⟩
        case round =>
          obtain ⟨j, hj, rfl, rTi, hoi, bi⟩ := hrel
          generalize hwi : wr = wi at *
          clear hwi t0
          have zi := Below.size bi
          have lti := rTi.lt
          have e0 := rTi.cell 0
          simp at e0
          have c3 : wi.cell? ⟨(ad.add (q * 5)).block, (ad.add (q * 5)).off + 3, none⟩ = some (.slice K0 M kc0) := ((hb.trans bi).cell (p := ⟨(ad.add (q * 5)).block, (ad.add (q * 5)).off + 3, none⟩) hb1).trans HC3.out
          by_cases hjl : j < M
          · have hjk : j < ks.length := by rw [HMM.out]; exact hjl
            obtain ⟨kd, hKd, hkb, kcell0⟩ := HK.out j hjl
            subst hKd
            have kcell : wi.cell? (kd.add j) = some (.int .i64 (ks.getD j 0)) := ((hb.trans bi).cell (by rw [block_add]; exact hkb)).trans kcell0
            have HTK := Lib.hid (take_next hjk)
            obtain ⟨jn, hju, hj1, hj2⟩ := HGK.out _ (getD_mem hjk)
            rw [hju] at kcell HTK
            clear kcell0 hju
            have HLI := Lib.hid (show (setK (deepG L q) (ks.take j) (d + 1)).length = L.length by rw [setK_len, HLEN.out])
            have hgq : (setK (deepG L q) (ks.take j) (d + 1)).getD q 0 = d := by
              rw [setK_out _ _ _ _ (fun k hk => by
                obtain ⟨j', e1, e2, e3⟩ := HGK.out k (List.mem_of_mem_take hk)
                omega), Hdd.out]
            have cq := (hoi.cellAt q (by omega)).trans (intsC_at (by rw [HLI.out]; exact hlt))
            rw [hgq] at cq
            have cj := (hoi.cellAt jn (by omega)).trans (intsC_at (by rw [HLI.out]; exact hj2))
            have fj := hoi.frozenAt jn
            have hst := hoi.stored jn (.int .i64 (d + 1))
            rw [intsC_set] at hst
            have HST := Lib.hid hst.1
            have hg2 := (own_lt hoi) g rfl
            have hji : (jn : Int) < (L.length : Int) := by omega
            have hjM : (j : Int) < (M : Int) := by omega
            have hwr : IntKind.i64.wrap (d + 1) = d + 1 := by rw [IntKind.wrap_i64]; omega
            clear hst hoi hgq
            generalize (setK (deepG L q) (ks.take j) (d + 1)).getD jn 0 = dj at *
            go_wp2
            go_region
            all_goals go_wp2
            all_goals
              refine ⟨⟨j + 1, by omega, by go_num, rTi.far (by simp; omega) _, ?_, (bi.setCell (p := ⟨g, jn, none⟩) (by show w.heap.size ≤ g; omega) (.int .i64 (d + 1))).drew⟩, by simp [intOf]; omega⟩
              rw [HTK.out, setK_snoc, Int.toNat_natCast]
              exact HST.out
          · obtain rfl : j = M := by omega
            have HOI := Lib.hid hoi
            clear hoi
            go_wp2
            refine ⟨⟨q + 1, by omega, by go_num, rTi, ?_, hb.trans bi⟩, by simp [intOf]; omega⟩
            have := HOI.out
            rw [← HMM.out, List.take_length, ← HDV.out] at this
            exact this
      · obtain rfl : q = L.length := by omega
        have HO := Lib.hid hown
        clear hown
        go_wp2
        go_ret
        refine ⟨⟨_, rfl, ?_, fun h => absurd rfl h⟩, hb⟩
        rw [HDD.out]
        have := HO.out
        show World.ownsRow _ _ _ _ _ (deepG L L.length).length (intsC (deepG L L.length))
        rw [deepG_len]
        exact this
  · have hD := HD.out
    rw [if_neg h0] at hD
    have HDD := Lib.hid hD
    have hgd := HGD.out
    rw [hgd, decide_eq_false h0] at HC
    clear HG HD hD hgd HGD
    go_enter Tryz.func21, Tryz.ntmps21
    go_upto_region 1 with fail
    rw [← hwa]
    clear hwa
    go_wp2_with (first
      | (go_at_call 11; (with_reducible refine HC.out.mono ?_); rintro e w1 ⟨rfl, b1⟩; have q1 := bA.trans (b1.mono (by omega)))
      | fail)
    go_ret
    refine ⟨⟨_, rfl, ?_, fun _ => rfl⟩, q1⟩
    rw [HDD.out]
    exact World.ownsRow_nil _ _ _ _
end
end Go.Proofs.YtcphkdooemengaaGreatDoor
