/- The walks of chapter 19's Outcome: program and reference. -/
import Derived.Test.YtcphkdooemengaaDoorV4
import Derived.Test.YtcphkdooemengaaDoorV5
import Derived.Test.YtcphkdooemengaaDoorW8
import Derived.Test.YtcphkdooemengaaDoorW11
import Derived.Test.YtcphkdooemengaaDoorQok
import Derived.Deep.CutBlock
import Derived.Deep.RegionLaw
namespace Go.Proofs.YtcphkdooemengaaDoor
set_option linter.unusedVariables false
set_option linter.unusedSimpArgs false
set_option linter.unnecessarySimpa false
open Go.RowKit
attribute [local go_sem] cell_alloc_add cell_set_add lt_more
/-- How a run ended, in words. -/
def endB (k : Int) (th : ByteArray) : ByteArray :=
  if k = 1 then ⟨#[100, 111, 110, 101]⟩ else if k = 2 then ⟨#[116, 104, 114, 101, 119, 32]⟩ ++ quoteB th else if k = 3 then ⟨#[105, 110, 101, 120, 97, 99, 116]⟩ else if k = 4 then ⟨#[102, 117, 101, 108]⟩ else if k = 5 then ⟨#[104, 101, 97, 112]⟩ else if k = 6 then ⟨#[100, 101, 101, 112]⟩ else ⟨#[110, 111, 110, 101]⟩
theorem endB_size (k : Int) (th : ByteArray) : (endB k th).size ≤ 16 + 6 * th.size := by
  have hq := qbody_len th (places th)
  have hp := places_len th
  have hs := quote_size th
  unfold endB
  repeat' split
  all_goals first
    | (rw [ByteArray.size_append]; show 6 + _ ≤ _; omega)
    | exact Nat.le_trans (by decide : _ ≤ 16) (Nat.le_add_right _ _)
/-- The last line. -/
def lastB (k : Int) (th : ByteArray) (st : Int) : ByteArray := endB k th ++ ⟨#[32]⟩ ++ digits st ++ ⟨#[32, 115, 116, 101, 112, 115]⟩
def outcomeB (L : List ByteArray) (k : Int) (th : ByteArray) (st : Int) : ByteArray := rowsB (L ++ [lastB k th st])
theorem rowsL_app (l m : List ByteArray) : rowsL (l ++ m) = rowsL l ++ rowsL m := by unfold rowsL; rw [List.flatMap_append]
theorem rowsL_len (l : List ByteArray) : l.length ≤ (rowsL l).length := by
  induction l with
  | nil => simp [rowsL]
  | cons a l ih =>
    have e : rowsL (a :: l) = (a.data.toList ++ [10]) ++ rowsL l := by simp [rowsL]
    rw [e]; simp; omega
theorem getD_app {L : List ByteArray} {x : ByteArray} (j : Nat) : (L ++ [x]).getD j ⟨#[]⟩ = if j < L.length then L.getD j ⟨#[]⟩ else if j = L.length then x else ⟨#[]⟩ := by
  simp only [List.getD_eq_getElem?_getD]
  split
  · rw [List.getElem?_append_left (by assumption)]
  · split
    · rename_i h; subst h; rw [List.getElem?_append_right (Nat.le_refl _)]; simp
    · rw [List.getElem?_eq_none (by simp; omega)]; rfl
theorem step_append_rd {P : Program} {ops : Array Oper} {o : Oper} {a : Act} {w : World} {K : Act → World → Prop} {Q : Exit → Act → World → Prop} {E : Prop} (hgd : o.guard = none) (s x : Operand) (t : TypeId)
    (ho : o.op = .call { callee := .builtin .append, args := #[s, x], argTypes := #[t, t] })
    (base : Nat) (e : TypeId) (i : TypeInfo) (z : Value) (bytes : Nat) (ht : P.underlying t = some (.slice e)) (hi : P.info? e = some i) (hz : i.zero = some z)
    (hsize : i.size = 1) (hby : i.bytes = bytes) (hzs : z.cells.size = 1)
    (v : Value) (n : Nat) (xs : List Value) (hs : a.eval s = v) (hown : w.ownsRow base e 1 v n xs)
    (B : Nat) (A : Option Addr) (m c : Nat) (f : Nat → Value) (hx : a.eval x = .slice A m c) (hr : Rd w B A m f) (h1 : ∀ j, (f j).oneCell' = true)
    (h63 : n + m ≤ maxLen) (hbytes : (n + m) * bytes ≤ 140737488355328) (hbase : base ≤ w.heap.size)
    (h : ∀ v' w', w'.ownsRow base e 1 v' (n + m) (xs ++ firsts f m) → w.grownBy w' v.ownBlock → (v'.ownBlock = v.ownBlock ∨ v'.ownBlock = some w.heap.size) → K (a.put o.dst v') w') : if Region.wanted o (yielded ops a.tmps) = true then Oper.wp P o a w K Q else E := by
  rw [if_pos (by simp [Region.wanted, hgd])]
  exact wp_append_rd w s x t ho base e i z bytes ht hi hz hsize hby hzs v n xs hs hown B A m c f hx hr h1 h63 hbytes hbase h
theorem rows1_len (a : ByteArray) : (rowsL [a]).length = a.size + 1 := by
  have e1 : a.data.size = a.size := rfl
  first | (simp [rowsL]; done) | (simp [rowsL]; omega)
theorem last_at (L : List ByteArray) (n : Nat) (hn : n = L.length) (x : ByteArray) (j : Nat) (hj : j < n + 1) : (firsts (fun j => Value.string (L.getD j ⟨#[]⟩)) n ++ firsts (fun _ => Value.string x) 1)[j]? = some (Value.string ((L ++ [x]).getD j ⟨#[]⟩)) := by
  have hl : (firsts (fun j => Value.string (L.getD j ⟨#[]⟩)) n).length = n := firsts_len _ _
  rw [getD_app]
  by_cases c : j < n
  · rw [List.getElem?_append_left (by omega), firsts_at c, if_pos (by omega)]
  · obtain rfl : j = n := by omega
    rw [List.getElem?_append_right (by omega), hl, Nat.sub_self, if_neg (by omega), if_pos hn]; rfl
theorem infoStr : (Tryd.prog.info? 9).map (fun i => (i.zero, i.size, i.bytes)) = some (some (.string ⟨#[]⟩), 1, 16) := by kernel_rfl
set_option maxRecDepth 100000 in
set_option maxHeartbeats 4000000 in
theorem Outcome_any (L : List ByteArray) (A : Option Addr) (n c : Nat) (hn : n = L.length) (k st ce : Int) (th : ByteArray) (hth : th.size ≤ 4000) (hL : (rowsL L).length ≤ 8000) (hst : -9223372036854775808 ≤ st ∧ st ≤ 9223372036854775807) (w : World) (h : Rd w w.heap.size A n (fun j => .string (L.getD j ⟨#[]⟩))) (hT : Tab w) (hZ : Tz w) :
    Calls Tryd.prog 11 #[.agg #[.int .i64 k, .string th, .slice A n c, .int .i64 st, .int .i64 ce]] w fun e w' => e = .returned (.string (outcomeB L k th st)) ∧ Below w.heap.size w w' := by
  obtain ⟨i0, hi0, iz0, iz1, iz2⟩ := info_parts infoStr
  have hez := endB_size k th
  have hn8 : n ≤ 8000 := by have := rowsL_len L; omega
  have HN := Lib.hid hn
  have HO := Lib.hid (show outcomeB L k th st = rowsB (L ++ [endB k th ++ ⟨#[32]⟩ ++ digits st ++ ⟨#[32, 115, 116, 101, 112, 115]⟩]) from rfl)
  have HL := Lib.hid hL
  have ds := digits_le hst.1 hst.2
  have HE := Lib.hid (show endB k th = if k = 1 then ⟨#[100, 111, 110, 101]⟩ else if k = 2 then ⟨#[116, 104, 114, 101, 119, 32]⟩ ++ quoteB th else if k = 3 then ⟨#[105, 110, 101, 120, 97, 99, 116]⟩ else if k = 4 then ⟨#[102, 117, 101, 108]⟩ else if k = 5 then ⟨#[104, 101, 97, 112]⟩ else if k = 6 then ⟨#[100, 101, 101, 112]⟩ else ⟨#[110, 111, 110, 101]⟩ from rfl)
  have hqz : (quoteB th).size ≤ 30000 := by rw [quote_size]; have := qbody_len th (places th); have := places_len th; omega
  have HQ := Lib.hid (fun W (hb : Below w.heap.size w W) => Quote_any th (by omega) W (hZ.later (B := w.heap.size) hb hZ.2))
  have HI := Lib.hid (fun W (hb : Tab W) => itoa_any st hst.1 hst.2 W hb)
  clear hn hL
  generalize digits st = dS at *
  generalize endB k th = eB at *
  generalize quoteB th = qB at *
  obtain ⟨Wa, hWa⟩ : ∃ Wa : World, Wa = w.alloc (.cells #[.int .i64 k, .string th, .slice A n c, .int .i64 st, .int .i64 ce] 34) := ⟨_, rfl⟩
  have q0 : Row Wa w.heap.size 34 #[.int .i64 k, .string th, .slice A n c, .int .i64 st, .int .i64 ce] := by rw [hWa]; exact row_new rfl
  have qb : Below w.heap.size w Wa := by rw [hWa]; exact (by (repeat (first | (with_reducible exact Below.refl _ _) | (with_reducible assumption) | (with_reducible refine Below.setCell ?_ (by first | omega | (simp <;> omega)) _) | (with_reducible refine Below.alloc ?_ (by first | omega | (simp <;> omega)) _) | (with_reducible refine Below.drew ?_) | (with_reducible refine below_drewN ?_ _) | (with_reducible refine Below.trans ?_ (Below.mono (by with_reducible assumption) (by first | omega | (simp <;> omega)))))))
  have qz := q0.lt
  go_enter Tryd.func11, Tryd.ntmps11
  go_upto_region 1 with fail
  rw [← hWa]
  clear hWa
  have c0 := q0.cell 0
  have c1 := q0.cell 1
  have c2 := q0.cell 2
  have c3 := q0.cell 3
  simp at c0 c1 c2 c3
  go_upto_block 0 with fail
  go_cut [3] from 6 (fun v wr => v = .string eB ∧ Below w.heap.size w wr ∧ Row wr w.heap.size 34 #[.int .i64 k, .string th, .slice A n c, .int .i64 st, .int .i64 ce])
  case first =>
    by_cases k2 : k = 2
    · subst k2
      have he : eB = ⟨#[116, 104, 114, 101, 119, 32]⟩ ++ qB := HE.out
      clear HE
      subst he
      go_wp2_with (go_at_call 28; (with_reducible refine (HQ.out _ qb).mono ?_); rintro e w1 ⟨rfl, b1⟩; have z1 := Below.size b1)
      go_meet
      exact ⟨rfl, qb.trans (b1.mono (by omega)), q0.below b1 qz⟩
    · have k2' : (k == 2) = false := by simpa using k2
      go_wp2
      all_goals go_meet
      all_goals refine ⟨?_, qb, q0⟩
      all_goals (try simp only [beq_iff_eq, beq_eq_false_iff_ne, bne_iff_ne, bne_eq_false_iff_eq, ne_eq, decide_eq_true_eq, decide_eq_false_iff_not, Bool.and_eq_true, Bool.or_eq_true, Bool.not_eq_true, Bool.not_eq_false, Bool.false_eq_true, Decidable.not_not, Bool.not_eq_eq_eq_not, Bool.not_true, Bool.not_false] at *)
      all_goals (rw [HE.out]; simp_all)
  case rest =>
    obtain ⟨rfl, bw, r0⟩ := hcut
    clear HE HQ q0 qb qz c0 c1 c2 c3
    go_upto_region 15 with fail
    have c2 := r0.cell 2
    have c3 := r0.cell 3
    have lt0 := r0.lt
    simp at c2 c3
    have hA := h.below bw
    have f1 : (9223372036854775807 < eB.size + 1) = False := eq_false (by omega)
    have f2 : (9223372036854775807 < eB.size + 1 + dS.size) = False := eq_false (by omega)
    have f3 : (9223372036854775807 < eB.size + 1 + dS.size + 6) = False := eq_false (by omega)
    have bW : Below w.heap.size w (wc.alloc (.cells #[] 9)).drew := (bw.alloc (by omega) _).drew
    have hown0 : (wc.alloc (.cells #[] 9)).drew.ownsRow wc.heap.size 9 1 (.slice (some ⟨wc.heap.size, 0, none⟩) 0 0) 0 [] := own_new (w := wc) (n := 0) rfl (Nat.le_refl _) (by decide)
    have hz0 : wc.heap.size ≤ (wc.alloc (.cells #[] 9)).drew.heap.size := by simp
    have hgr : Below wc.heap.size wc (wc.alloc (.cells #[] 9)).drew := ((Below.refl _ wc).alloc (Nat.le_refl _) _).drew
    have hm0 : 0 + n ≤ maxLen := by simp only [maxLen]; omega
    have hm1 : (0 + n) * 16 ≤ 140737488355328 := by omega
    have hm2 : n + 1 ≤ maxLen := by simp only [maxLen]; omega
    have hm3 : (n + 1) * 16 ≤ 140737488355328 := by omega
    have hrA := h.below bW
    have HX := Lib.hid (fun j (hj : j < n + 1) => last_at L n HN.out (eB ++ ⟨#[32]⟩ ++ dS ++ ⟨#[32, 115, 116, 101, 112, 115]⟩) j hj)
    have HRW := Lib.hid (fun A2 c2 W hr => rows_any (L ++ [(eB ++ ⟨#[32]⟩ ++ dS ++ ⟨#[32, 115, 116, 101, 112, 115]⟩)]) (n + 1) (by rw [List.length_append, HN.out]; rfl) A2 c2 W hr (by
      have e1 : (⟨#[32]⟩ : ByteArray).size = 1 := rfl
      have e2 : (⟨#[32, 115, 116, 101, 112, 115]⟩ : ByteArray).size = 6 := rfl
      have h3 := HL.out
      rw [rowsL_app, List.length_append, rows1_len, ByteArray.size_append, ByteArray.size_append, ByteArray.size_append]
      omega))
    refine wp_only ?_
    go_region_law (first
      | ((refine step_append_rd (by rfl) (.tmp 22) (.tmp 24) 32 (by rfl) wc.heap.size 9 i0 _ 16 Tryd.underlying32 hi0 iz0 iz1 iz2 rfl _ 0 [] (by rfl) hown0 _ A n c (fun j => .string (L.getD j ⟨#[]⟩)) (by rfl) hrA (fun _ => rfl) hm0 hm1 hz0 ?_); intro v1 w1 hown1 hg1 hob1; rw [Nat.zero_add, List.nil_append] at hown1; have hb1 := hgr.grown hg1 hz0 (ob_ge (Nat.le_refl _)); have z1 := Below.size hb1; have bw1 := bw.trans (hb1.mono (by omega)); have r1 := r0.below hb1 lt0; have d3 := r1.cell 3; simp at d3; have hT1 := hT.later (B := w.heap.size) bw1 hT.2)
      | (go_simp; go_at_call 18; (with_reducible refine (HI.out w1 hT1).mono ?_); rintro e w5 ⟨rfl, b5⟩; dsimp only; have hown5 := own_below hown1 b5; have z5 := Below.size b5; have hb5 := hb1.trans (b5.mono z1); have hz5 : wc.heap.size ≤ (w5.alloc (.cells #[.string (eB ++ ⟨#[32]⟩ ++ dS ++ ⟨#[32, 115, 116, 101, 112, 115]⟩)] 9)).heap.size := (by simp; omega); have hown6 := hown5.alloc (.cells #[.string (eB ++ ⟨#[32]⟩ ++ dS ++ ⟨#[32, 115, 116, 101, 112, 115]⟩)] 9); have hr6 := rd_one w5 9 (.string (eB ++ ⟨#[32]⟩ ++ dS ++ ⟨#[32, 115, 116, 101, 112, 115]⟩)); have hg6 := hb5.alloc (by omega) (.cells #[.string (eB ++ ⟨#[32]⟩ ++ dS ++ ⟨#[32, 115, 116, 101, 112, 115]⟩)] 9))
      | ((refine step_append_rd (by rfl) (.tmp 25) (.tmp 33) 32 (by rfl) wc.heap.size 9 i0 _ 16 Tryd.underlying32 hi0 iz0 iz1 iz2 rfl v1 n _ (by rfl) hown6 _ _ 1 1 _ (by rfl) hr6 (fun _ => rfl) hm2 hm3 hz5 ?_); intro v2 w2 hown2 hg2 hob2; have hb2 := hg6.grown hg2 hz5 (own_ge hown6); have z2 := Below.size hb2; obtain ⟨A2, c2, hv2, hc2, hrd2⟩ := rd_own hown2; subst hv2)
      | (go_simp; go_at_call 17; go_loud ((with_reducible refine (HRW.out A2 c2 w2 (hrd2 _ HX.out)).mono ?_); rintro e w7 ⟨rfl, b7⟩; dsimp only; have hb7 := hb2.trans (b7.mono z2); have bw7 := bw.trans (hb7.mono (by omega)))))
    all_goals go_wp2
    all_goals go_ret
    all_goals exact ⟨by rw [HO.out]; rfl, bw7⟩
/-- What the reference has written of the outputs. -/
theorem rowsB_next {L : List ByteArray} {k : Nat} (h : k < L.length) : rowsB (L.take k) ++ L.getD k ⟨#[]⟩ ++ ⟨#[10]⟩ = rowsB (L.take (k + 1)) := by
  unfold rowsB
  rw [rowsL_take h]
  apply ByteArray.ext
  apply Array.toList_inj.1
  simp [ByteArray.data_append]
theorem rowsB_size (L : List ByteArray) : (rowsB L).size = (rowsL L).length := by show (rowsL L).toArray.size = _; simp
theorem outcome_eq (L : List ByteArray) (k : Int) (th : ByteArray) (st : Int) : rowsB L ++ endB k th ++ ⟨#[32]⟩ ++ digits st ++ ⟨#[32, 115, 116, 101, 112, 115, 10]⟩ = outcomeB L k th st := by
  unfold outcomeB lastB rowsB
  rw [rowsL_app]
  generalize endB k th = e
  generalize digits st = d
  apply ByteArray.ext
  apply Array.toList_inj.1
  simp [ByteArray.data_append, rowsL]
set_option maxRecDepth 100000 in
set_option maxHeartbeats 4000000 in
theorem rOutcome_any (L : List ByteArray) (A : Option Addr) (n c : Nat) (hn : n = L.length) (k st ce : Int) (th : ByteArray) (hth : th.size ≤ 4000) (hL : (rowsL L).length ≤ 8000) (hst : -9223372036854775808 ≤ st ∧ st ≤ 9223372036854775807) (w : World) (h : Rd w w.heap.size A n (fun j => .string (L.getD j ⟨#[]⟩))) :
    Calls Tryd.prog 12 #[.agg #[.int .i64 k, .string th, .slice A n c, .int .i64 st, .int .i64 ce]] w fun e w' => e = .returned (.string (outcomeB L k th st)) ∧ Below w.heap.size w w' := by
  have hez := endB_size k th
  have hn8 : n ≤ 8000 := by have := rowsL_len L; omega
  have HN := Lib.hid hn
  have HO := Lib.hid (outcome_eq L k th st)
  have hLL := fun j => rowsL_le L j
  have ds := digits_le hst.1 hst.2
  have HE := Lib.hid (show endB k th = if k = 1 then ⟨#[100, 111, 110, 101]⟩ else if k = 2 then ⟨#[116, 104, 114, 101, 119, 32]⟩ ++ quoteB th else if k = 3 then ⟨#[105, 110, 101, 120, 97, 99, 116]⟩ else if k = 4 then ⟨#[102, 117, 101, 108]⟩ else if k = 5 then ⟨#[104, 101, 97, 112]⟩ else if k = 6 then ⟨#[100, 101, 101, 112]⟩ else ⟨#[110, 111, 110, 101]⟩ from rfl)
  have hqz : (quoteB th).size ≤ 30000 := by rw [quote_size]; have := qbody_len th (places th); have := places_len th; omega
  have HQ := Lib.hid (fun W => rQuote_any th (by omega) W)
  have HI := Lib.hid (fun W => Digits_any st hst.1 hst.2 W)
  clear hn
  generalize digits st = dS at *
  generalize endB k th = eB at *
  generalize quoteB th = qB at *
  obtain ⟨Wa, hWa⟩ : ∃ Wa : World, Wa = w.alloc (.cells #[.int .i64 k, .string th, .slice A n c, .int .i64 st, .int .i64 ce] 34) := ⟨_, rfl⟩
  have q0 : Row Wa w.heap.size 34 #[.int .i64 k, .string th, .slice A n c, .int .i64 st, .int .i64 ce] := by rw [hWa]; exact row_new rfl
  have qb : Below w.heap.size w Wa := by rw [hWa]; exact (by (repeat (first | (with_reducible exact Below.refl _ _) | (with_reducible assumption) | (with_reducible refine Below.setCell ?_ (by first | omega | (simp <;> omega)) _) | (with_reducible refine Below.alloc ?_ (by first | omega | (simp <;> omega)) _) | (with_reducible refine Below.drew ?_) | (with_reducible refine below_drewN ?_ _) | (with_reducible refine Below.trans ?_ (Below.mono (by with_reducible assumption) (by first | omega | (simp <;> omega)))))))
  have qz := q0.lt
  go_enter Tryd.func12, Tryd.ntmps12
  go_upto_region 1 with fail
  rw [← hWa]
  clear hWa
  have hA := h.below qb
  have c0 := q0.cell 0
  have c1 := q0.cell 1
  have c2 := q0.cell 2
  have c3 := q0.cell 3
  simp at c0 c1 c2 c3
  clear h
  go_wp2
  go_loop [3, 4] (fun s i => ∃ j : Nat, j ≤ n ∧ i = .int .i64 j ∧ s = .string (rowsB (L.take j))) (fun _ i => n - (intOf i).toNat)
  case atStart => exact ⟨0, Nat.zero_le _, rfl, rfl⟩
  case round =>
    obtain ⟨j, hj, rfl, rfl⟩ := hrel
    have hjl := hLL j
    have hsz := rowsB_size (L.take j)
    by_cases hlt : j < n
    · have HS := Lib.hid (rowsB_next (L := L) (k := j) (by rw [← HN.out]; exact hlt))
      have hjl2 := hLL (j + 1)
      have hsz2 := rowsB_size (L.take (j + 1))
      have hadd := congrArg ByteArray.size HS.out
      rw [ByteArray.size_append, ByteArray.size_append] at hadd
      obtain ⟨ad, rfl, hbl, hc⟩ := hA j hlt
      replace hc : Wa.cell? (ad.add j) = some (.string (L.getD j ⟨#[]⟩)) := hc
      generalize L.getD j ⟨#[]⟩ = x at *
      have e1 : (⟨#[10]⟩ : ByteArray).size = 1 := rfl
      have i1 : (j : Int) < (n : Int) := by omega
      generalize rowsB (L.take j) = S at *
      go_wp2
      go_round
      case rel => exact ⟨j + 1, by omega, by go_num, by rw [← HS.out]⟩
      case measure => simp [intOf]; omega
    · obtain rfl : j = n := by omega
      have HT := Lib.hid (show L.take j = L from List.take_of_length_le (by rw [← HN.out]; exact Nat.le_refl _))
      rw [HT.out] at hsz hjl ⊢
      generalize rowsB L = S at *
      have hSz : S.size ≤ 8000 := by omega
      go_upto_block 2 with fail
      clear hLL hjl hsz HT hA hn8
      go_cut [3] from 22 (fun v wr => v = .string (S ++ eB) ∧ Below w.heap.size w wr ∧ Row wr w.heap.size 34 #[.int .i64 k, .string th, .slice A j c, .int .i64 st, .int .i64 ce])
      case first =>
        by_cases k2 : k = 2
        · subst k2
          have he : eB = ⟨#[116, 104, 114, 101, 119, 32]⟩ ++ qB := HE.out
          clear HE
          subst he
          have e6 : (⟨#[116, 104, 114, 101, 119, 32]⟩ : ByteArray).size = 6 := rfl
          go_wp2_with (go_at_call 29; (with_reducible refine (HQ.out _).mono ?_); rintro e w1 ⟨rfl, b1⟩; have z1 := Below.size b1)
          go_meet
          exact ⟨by rw [ByteArray.append_assoc], qb.trans (b1.mono (by omega)), q0.below b1 qz⟩
        · have k2' : (k == 2) = false := by simpa using k2
          go_wp2
          all_goals go_meet
          all_goals refine ⟨?_, qb, q0⟩
          all_goals (try simp only [beq_iff_eq, beq_eq_false_iff_ne, bne_iff_ne, bne_eq_false_iff_eq, ne_eq, decide_eq_true_eq, decide_eq_false_iff_not, Bool.and_eq_true, Bool.or_eq_true, Bool.not_eq_true, Bool.not_eq_false, Bool.false_eq_true, Decidable.not_not, Bool.not_eq_eq_eq_not, Bool.not_true, Bool.not_false] at *)
          all_goals (rw [HE.out]; simp_all)
      case rest =>
        obtain ⟨rfl, bw, r0⟩ := hcut
        have d3 := r0.cell 3
        have lt0 := r0.lt
        simp at d3
        clear HE HQ q0 qb qz c0 c1 c2 c3
        go_wp2_with (go_at_call 23; (with_reducible refine (HI.out _).mono ?_); rintro e w1 ⟨rfl, b1⟩; have z1 := Below.size b1)
        go_ret
        refine ⟨ret_str ?_, bw.trans (b1.mono (by omega))⟩
        exact HO.out
end Go.Proofs.YtcphkdooemengaaDoor
