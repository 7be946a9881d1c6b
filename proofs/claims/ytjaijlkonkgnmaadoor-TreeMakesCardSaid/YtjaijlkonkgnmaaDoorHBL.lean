/- Some texts of this claim, put together. -/
import Derived.Test.YtjaijlkonkgnmaaDoorHBD
import Derived.Test.YtjaijlkonkgnmaaDoorHBC
import Derived.RegionTactic
import Derived.Deep.DeepCutAuto
import Derived.Test.YtjaijlkonkgnmaaDoorHBJ
import Derived.Test.YtjaijlkonkgnmaaDoorHM3
import Derived.Test.YtjaijlkonkgnmaaDoorHBI
import Derived.Test.YtjaijlkonkgnmaaDoorHTrE
namespace Go.Proofs.YtjaijlkonkgnmaaDoor
section
set_option linter.unusedVariables false
set_option linter.unusedSimpArgs false
set_option linter.unnecessarySimpa false
open Go.RowKit
attribute [local go_sem] cell_alloc_add cell_set_add lt_more
/-- Nodes, kids and bytes of a tree. -/
def wt (L : List Nd) : Nat := (L.map fun y => 1 + y.ks.length + y.x.size).sum
theorem wt_cons (y : Nd) (L : List Nd) : wt (y :: L) = (1 + y.ks.length + y.x.size) + wt L := by simp [wt]
theorem wt_app (L M : List Nd) : wt (L ++ M) = wt L + wt M := by simp [wt]
theorem wt_take {L : List Nd} {q : Nat} (h : q < L.length) : wt (L.take (q + 1)) = wt (L.take q) + (1 + (nd L q).ks.length + (nd L q).x.size) := by
  rw [List.take_succ_eq_append_getElem h, wt_app]
  have := nd_get h
  rw [List.getElem?_eq_getElem h] at this
  injection this with this
  rw [this, wt_cons]
  simp [wt]
theorem wt_le (L : List Nd) (q : Nat) : wt (L.take q) ≤ wt L := by
  have : wt L = wt (L.take q) + wt (L.drop q) := by rw [← wt_app, List.take_append_drop]
  omega
theorem wt_len (L : List Nd) : L.length ≤ wt L := by
  induction L with
  | nil => exact Nat.zero_le _
  | cons y L ih => rw [wt_cons, List.length_cons]; omega
theorem wt_nd (L : List Nd) (j : Nat) : (nd L j).ks.length + (nd L j).x.size ≤ wt L := by
  rcases Nat.lt_or_ge j L.length with h | h
  · have h1 := wt_take h
    have h2 := wt_le L (j + 1)
    omega
  · rw [nd_nat, List.getD_eq_getElem?_getD, List.getElem?_eq_none h]
    exact Nat.zero_le _
set_option maxRecDepth 100000 in
set_option maxHeartbeats 4000000 in
theorem great_any (A : Option Addr) (L : List Nd) (c : Nat) (hc : L.length ≤ c) (hm : c ≤ maxLen) (hx : ∀ j : Nat, (nd L j).ks.length ≤ 1000000000000000 ∧ (nd L j).x.size ≤ 1000000000000000) (w : World) (h : TreeAt w w.heap.size A L) :
    Calls Tryd.prog 8 #[.agg #[.slice A L.length c]] w fun e w' => e = .returned (.bool (decide (3000 < wt L))) ∧ Below w.heap.size w w' := by
  have hT := Lib.hid h
  have HX := Lib.hid hx
  have HT := Lib.hid (fun q (hq : q < L.length) => wt_take hq)
  have HL := Lib.hid (fun q => wt_le L q)
  have HE := Lib.hid (show wt (L.take L.length) = wt L by rw [List.take_length])
  have H0 := Lib.hid (show wt (L.take 0) = 0 from rfl)
  obtain ⟨wa, hwa⟩ : ∃ wa : World, wa = w.alloc (.cells #[.slice A L.length c] 29) := ⟨_, rfl⟩
  have bA : Below w.heap.size w wa := by rw [hwa]; exact (by (repeat (first | (with_reducible exact Below.refl _ _) | (with_reducible assumption) | (with_reducible refine Below.setCell ?_ (by first | omega | (simp <;> omega)) _) | (with_reducible refine Below.alloc ?_ (by first | omega | (simp <;> omega)) _) | (with_reducible refine Below.drew ?_) | (with_reducible refine below_drewN ?_ _) | (with_reducible refine Below.trans ?_ (Below.mono (by with_reducible assumption) (by first | omega | (simp <;> omega)))))))
  have zA : w.heap.size < wa.heap.size := by rw [hwa]; simp
  have rT : Row wa w.heap.size 29 #[.slice A L.length c] := by rw [hwa]; exact row_new rfl
  have t0 := rT.cell 0
  simp at t0
  clear h hx
  unfold maxLen at hm
  go_enter Tryd.func8, Tryd.ntmps8
  go_upto_region 1 with fail
  rw [← hwa]
  clear hwa
  go_wp2
  go_loopw [3, 4] (fun v t wr => ∃ q : Nat, q ≤ L.length ∧ t = .int .i64 (q : Int) ∧ v = .int .i64 (wt (L.take q) : Int) ∧ (∃ d, wr = wa.drewN d) ∧ wt (L.take q) ≤ 2000000000003001) (fun _ t _ => L.length - (intOf t).toNat)
  case atStart => exact ⟨0, Nat.zero_le _, rfl, by rw [H0.out]; rfl, ⟨0, rfl⟩, by rw [H0.out]; omega⟩
  case round =>
    obtain ⟨q, hq, rfl, rfl, ⟨d, rfl⟩, hwb⟩ := hrel
    have HLq := HL.out q
    by_cases hlt : q < L.length
    · obtain ⟨ad, rfl, hn⟩ := hT.out q hlt
      have hn2 := hn.keep (W' := wa) (fun p hp => bA.cell hp)
      have hb1 := hn2.blk
      have hbq : (ad.add (q * 5)).block < wa.heap.size := Nat.lt_of_lt_of_le hb1 bA.size
      have hba : ad.block < wa.heap.size := by rw [block_add] at hbq; exact hbq
      obtain ⟨K0, kc0, c0, c1, c2, c3, c4, hK0, hkk, hkm⟩ := node_open hn2
      have HTq := Lib.hid (HT.out q hlt)
      obtain ⟨x1, x2⟩ := HX.out q
      unfold maxLen at hkm
      clear hn hn2 hK0 c0 c2 c4 hb1
      by_cases hw : wt (L.take q) ≤ 3000
      · have hwi : ((wt (L.take q) : Nat) : Int) ≤ 3000 := by omega
        generalize hW : wt (L.take q) = W at *
        generalize nd L q = y at *
        obtain ⟨k, x, m, ks, p⟩ := y
        simp only at c1 c3 hkk x1 x2 HTq
        have hqi : (q : Int) < (L.length : Int) := by omega
        go_wp2
        go_quiet (fail)
        go_wp2
        exact ⟨⟨q + 1, by omega, by go_num, by rw [HTq.out]; go_num, ⟨_, rfl⟩, by rw [HTq.out]; omega⟩, by simp [intOf]; omega⟩
      · have hwi : ¬ ((wt (L.take q) : Nat) : Int) ≤ 3000 := by omega
        have hWq : 3000 < wt (L.take q) := by omega
        generalize wt (L.take q) = W at *
        go_wp2
        go_ret
        exact ⟨ret_bool (decide_eq_true (p := 3000 < wt L) (by omega)).symm, (by (repeat (first | (with_reducible exact Below.refl _ _) | (with_reducible assumption) | (with_reducible refine Below.setCell ?_ (by first | omega | (simp <;> omega)) _) | (with_reducible refine Below.alloc ?_ (by first | omega | (simp <;> omega)) _) | (with_reducible refine Below.drew ?_) | (with_reducible refine below_drewN ?_ _) | (with_reducible refine Below.trans ?_ (Below.mono (by with_reducible assumption) (by first | omega | (simp <;> omega)))))))⟩
    · obtain rfl : q = L.length := by omega
      rw [HE.out]
      rw [HE.out] at hwb
      go_wp2
      go_ret
      exact ⟨ret_bool (by rw [decide_eq_decide]; constructor <;> intro _ <;> omega), (by (repeat (first | (with_reducible exact Below.refl _ _) | (with_reducible assumption) | (with_reducible refine Below.setCell ?_ (by first | omega | (simp <;> omega)) _) | (with_reducible refine Below.alloc ?_ (by first | omega | (simp <;> omega)) _) | (with_reducible refine Below.drew ?_) | (with_reducible refine below_drewN ?_ _) | (with_reducible refine Below.trans ?_ (Below.mono (by with_reducible assumption) (by first | omega | (simp <;> omega)))))))⟩
end
section
set_option linter.unusedVariables false
set_option linter.unusedSimpArgs false
set_option linter.unnecessarySimpa false
open Go.RowKit
attribute [local go_sem] cell_alloc_add cell_set_add lt_more
def ndX : Nd := ⟨17, ⟨#[120]⟩, 0, [], 0⟩
def ndB : Nd := ⟨34, ⟨#[]⟩, 0, [], 0⟩
def knownL : List Nd := mkL ndB [[ndX]]
theorem knownL_len : knownL.length = 2 := by kernel_rfl
theorem knownL_chk : chk knownL = (-1, 0) := by kernel_rfl
theorem knownL_dep : depthL knownL = 1 := by kernel_rfl
theorem knownL_x : ∀ j : Nat, (nd knownL j).x.size ≤ 4000000 := fun j => by
  match j with
  | 0 => exact of_decide_eq_true (by kernel_rfl)
  | 1 => exact of_decide_eq_true (by kernel_rfl)
  | j + 2 =>
    rw [nd_nat, List.getD_eq_getElem?_getD, List.getElem?_eq_none (by rw [knownL_len]; omega)]
    exact of_decide_eq_true (by kernel_rfl)
theorem nodeX_at {W : World} {g : Nat} {t : TypeId} (h : Row W g t #[.int .i64 17, .string ⟨#[120]⟩, .int .i64 0, .slice none 0 0, .int .i64 0]) {B : Nat} (hB : g < B) : TreeAt W B (some ⟨g, 0, none⟩) [ndX] := fun j hj => by
  obtain rfl : j = 0 := by simp at hj; omega
  refine ⟨_, rfl, ?_⟩
  rw [add_row]
  show NodeAt W B ⟨g, 0 + 0 * 5, none⟩ ndX
  refine ⟨hB, h.cell 0, h.cell 1, h.cell 2, h.cell 4, ?_, ?_, none, 0, h.cell 3, Rd.none_, Nat.le_refl _, Nat.zero_le _⟩
  · exact ⟨by decide, by decide⟩
  · intro k hk; cases hk
set_option maxRecDepth 100000 in
set_option maxHeartbeats 4000000 in
theorem known_any (w : World) (hmx : Mx w) (hw00 : 0 < w.heap.size) :
    Calls Tryd.prog 15 #[] w fun e w' => e = .returned (.bool true) ∧ Below w.heap.size w w' := by
  obtain ⟨wa, hwa⟩ : ∃ wa : World, wa = (w.alloc (.cells #[.int .i64 17, .string ⟨#[120]⟩, .int .i64 0, .slice none 0 0, .int .i64 0] 24)).alloc (.cells #[.slice (some ⟨w.heap.size, 0, none⟩) 1 1] 29) := ⟨_, rfl⟩
  have bA : Below w.heap.size w wa := by rw [hwa]; exact (by (repeat (first | (with_reducible exact Below.refl _ _) | (with_reducible assumption) | (with_reducible refine Below.setCell ?_ (by first | omega | (simp <;> omega)) _) | (with_reducible refine Below.alloc ?_ (by first | omega | (simp <;> omega)) _) | (with_reducible refine Below.drew ?_) | (with_reducible refine below_drewN ?_ _) | (with_reducible refine Below.trans ?_ (Below.mono (by with_reducible assumption) (by first | omega | (simp <;> omega)))))))
  have rX : Row wa w.heap.size 24 #[.int .i64 17, .string ⟨#[120]⟩, .int .i64 0, .slice none 0 0, .int .i64 0] := by rw [hwa]; exact (row_new rfl).alloc _
  have rK : Row wa (w.heap.size + 1) 29 #[.slice (some ⟨w.heap.size, 0, none⟩) 1 1] := by rw [hwa]; exact row_new (by simp)
  have hF : Forest wa wa.heap.size (some ⟨w.heap.size + 1, 0, none⟩) [[ndX]] := fun j hj => by
    obtain rfl : j = 0 := by simp at hj; omega
    refine ⟨_, _, 1, rfl, rK.lt, ?_, Nat.le_refl _, by decide, nodeX_at rX rX.lt⟩
    rw [add_row]; exact rK.cell 0
  have HM := Lib.hid (Make_any ndB none 0 0 [[ndX]] 1 rfl (some ⟨w.heap.size + 1, 0, none⟩) 1 (Nat.le_refl _) (by decide) (by decide) (by decide) (fun q hq j => by
    obtain rfl : q = 0 := by omega
    match j with
    | 0 => exact of_decide_eq_true (by kernel_rfl)
    | j + 1 =>
      rw [nd_nat, List.getD_eq_getElem?_getD, List.getElem?_eq_none (by show [ndX].length ≤ _; simp)]
      exact of_decide_eq_true (by kernel_rfl)) ⟨by decide, by decide⟩ wa hF)
  have HL := Lib.hid (show mkL ndB [[ndX]] = knownL from rfl)
  have hX := Lib.hid hmx
  have l0 := rX.lt
  clear hF rK rX hmx
  simp only [ndB] at HM
  have zA : w.heap.size + 1 < wa.heap.size := by rw [hwa]; simp
  have HWA := Lib.hid hwa
  rw [hwa] at HM
  clear hwa
  go_enter Tryd.func15, Tryd.ntmps15
  go_upto_region 2 with (go_at_call 10; (with_reducible refine HM.out.mono ?_); rintro e w1 ⟨⟨v, l, rfl, hO, hl⟩, b1⟩; rw [← HWA.out] at b1 hO; replace hl := hl.trans HL.out; obtain ⟨A, c, hv, hc, hm, hT⟩ := hO.tree; subst hv)
  have hlen : l.length = 2 := by have := congrArg List.length hl; rw [knownL_len] at this; simpa using this
  rw [hl] at hT
  rw [hlen] at hc hO
  simp only [hlen]
  have q1 := bA.trans (b1.mono (by omega))
  have z1 := Below.size q1
  have bx : Below w.heap.size w (w1.alloc (.cells #[.slice A 2 c] 29)) := q1.alloc (by omega) _
  have hT2 : TreeAt (w1.alloc (.cells #[.slice A 2 c] 29)) (w1.alloc (.cells #[.slice A 2 c] 29)).heap.size A knownL := hT.later ((Below.refl _ _).alloc (Nat.le_refl _) _)
  have HC := Check_any A knownL c (by rw [knownL_len]; exact hc) hm (by rw [knownL_len]; decide) knownL_x _ hT2 (hX.out.below bx hw00) (by simp)
  rw [knownL_len, knownL_chk] at HC
  have HC := Lib.hid HC
  have HD := Lib.hid (fun W (hb : Below (w1.alloc (.cells #[.slice A 2 c] 29)).heap.size (w1.alloc (.cells #[.slice A 2 c] 29)) W) => by
    have := Depth_any A knownL c (by rw [knownL_len]; exact hc) hm (by rw [knownL_len]; decide) knownL_x W (hT2.later hb) (hX.out.below (bx.trans (hb.mono bx.size)) hw00) (Nat.lt_of_lt_of_le (by simp) hb.size)
    rw [knownL_len, knownL_dep] at this
    exact this)
  clear HM hT hT2 hO hl
  go_wp2_with (first
    | (go_at_call 16; (with_reducible refine HC.out.mono ?_); rintro e w2 ⟨rfl, b2⟩; have x2 : w2.cell? ⟨w1.heap.size, 0, none⟩ = some (.slice A 2 c) := (b2.cell (p := ⟨w1.heap.size, 0, none⟩) (by simp)).trans (by simp [World.cell?_alloc_mark]))
    | (go_at_call 18; (with_reducible refine (HD.out w2 b2).mono ?_); rintro e w3 ⟨rfl, b3⟩)
    | fail)
  go_ret
  exact ⟨rfl, (bx.trans (b2.mono bx.size)).trans (b3.mono (Nat.le_trans bx.size b2.size))⟩
end
section
set_option linter.unusedVariables false
set_option linter.unusedSimpArgs false
set_option linter.unnecessarySimpa false
open Go.RowKit
abbrev GoodT (l : List Nd) : Prop := Sp l 0 l.length
/-- Where the kids' roots stand, from b on. -/
def offs : Nat → List (List Nd) → List Int
  | _, [] => []
  | b, l :: ls => (b : Int) :: offs (b + l.length) ls
def body : Nat → List (List Nd) → List Nd
  | _, [] => []
  | b, l :: ls => l.map (shN (b : Int)) ++ body (b + l.length) ls
theorem body_len : ∀ (Ls : List (List Nd)) (b : Nat), (body b Ls).length = sumL Ls
  | [], _ => rfl
  | l :: ls, b => by show (l.map (shN (b : Int)) ++ body (b + l.length) ls).length = _; rw [List.length_append, List.length_map, body_len ls, sumL_cons]
theorem mkA_form : ∀ (Ls : List (List Nd)) (ks : List Int) (acc : List Nd), (∀ l ∈ Ls, l.length ≠ 0) → mkA ks acc Ls = (ks ++ offs (acc.length + 1) Ls, acc ++ body (acc.length + 1) Ls)
  | [], ks, acc, _ => by simp [mkA_nil, offs, body]
  | l :: ls, ks, acc, h => by
    rw [mkA_step (h l (by simp)), mkA_form ls _ _ (fun l' hl => h l' (by simp [hl]))]
    rw [List.length_append, List.length_map, show acc.length + l.length + 1 = acc.length + 1 + l.length by omega, List.append_assoc, List.append_assoc]
    rfl
theorem mkL_form {y : Nd} {Ls : List (List Nd)} (h : ∀ l ∈ Ls, l.length ≠ 0) : mkL y Ls = ⟨y.k, y.x, y.m, offs 1 Ls, y.p⟩ :: body 1 Ls := by
  unfold mkL
  rw [mkA_form Ls [] [] h]; rfl
theorem mkL_len {y : Nd} {Ls : List (List Nd)} (h : ∀ l ∈ Ls, l.length ≠ 0) : (mkL y Ls).length = sumL Ls + 1 := by
  rw [mkL_form h, List.length_cons, body_len]
theorem good_pos {l : List Nd} (h : GoodT l) : l.length ≠ 0 := by have := h.1; omega
theorem emb_of {X pre post l : List Nd} {b : Nat} (hX : X = pre ++ (l.map (shN (b : Int)) ++ post)) (hb : pre.length = b) (hl : GoodT l) (hs : X.length ≤ 1000000000000) : Emb X b l := by
  refine ⟨fun j hj => ?_, ?_, fun j hj k hk => good_kid hl hj k hk, hs⟩
  · have h1 : X[b + j]? = some (shN (b : Int) (nd l j)) := by
      rw [hX, List.getElem?_append_right (by omega), show b + j - pre.length = j by omega, List.getElem?_append_left (by rw [List.length_map]; exact hj), List.getElem?_map, nd_get hj]
      rfl
    have h2 : b + j < X.length := by rw [hX]; simp; omega
    rw [nd_get h2] at h1
    injection h1
  · rw [hX]; simp; omega
/-- The kids, laid one behind the other, and what each of them is. -/
theorem laid : ∀ (Ls : List (List Nd)) (b : Nat) (pre X : List Nd), X = pre ++ body b Ls → pre.length = b → (∀ l ∈ Ls, GoodT l) → X.length ≤ 1000000000000 →
    Ch X (offs b Ls) b (b + sumL Ls) ∧ ∀ l ∈ Ls, ∃ b' : Nat, (b' : Int) ∈ offs b Ls ∧ b ≤ b' ∧ Emb X b' l
  | [], b, pre, X, _, _, _, _ => ⟨Ch.nil b, fun l hl => by cases hl⟩
  | l :: ls, b, pre, X, hX, hb, hg, hs => by
    have hl := hg l (by simp)
    have hX1 : X = pre ++ (l.map (shN (b : Int)) ++ body (b + l.length) ls) := hX
    have he := emb_of hX1 hb hl hs
    have hX2 : X = (pre ++ l.map (shN (b : Int))) ++ body (b + l.length) ls := by rw [hX1, List.append_assoc]
    obtain ⟨h1, h2⟩ := laid ls (b + l.length) _ X hX2 (by rw [List.length_append, List.length_map, hb]) (fun l' hl' => hg l' (by simp [hl'])) hs
    have hin : inL l ((0 : Nat) : Int) = true := by rw [inL_iff]; have := hl.1; omega
    have e0 := he.kids hin
    have hxl := he.len
    have hl0 := hl.1
    refine ⟨?_, fun l' hl' => ?_⟩
    · have hc := hl.2.2.sh he
      have e1 : (((0 : Nat) : Int) + (b : Int)) = (b : Int) := by omega
      rw [e1] at e0
      rw [← e0.1, show 0 + 1 + b = b + 1 by omega, show l.length + b = b + l.length by omega] at hc
      refine Ch.cons (m := b + l.length) (by omega) ?_ hc ?_
      · have := fits_sh he hin
        rw [e1] at this
        rw [this]; exact hl.2.1
      · rw [sumL_cons, show b + (l.length + sumL ls) = b + l.length + sumL ls by omega]; exact h1
    · rcases List.mem_cons.1 hl' with rfl | hl'
      · exact ⟨b, by simp [offs], Nat.le_refl _, he⟩
      · obtain ⟨b', h3, h4, h5⟩ := h2 l' hl'
        exact ⟨b', by simp [offs, h3], by omega, h5⟩
section
variable {y : Nd} {Ls : List (List Nd)}
theorem mk_root (hg : ∀ l ∈ Ls, GoodT l) : (nd (mkL y Ls) ((0 : Nat) : Int)) = ⟨y.k, y.x, y.m, offs 1 Ls, y.p⟩ := by
  rw [mkL_form (fun l hl => good_pos (hg l hl)), nd_nat]; rfl
theorem mk_laid (hg : ∀ l ∈ Ls, GoodT l) (hs : sumL Ls ≤ 1000000) : Ch (mkL y Ls) (offs 1 Ls) 1 (mkL y Ls).length ∧ ∀ l ∈ Ls, ∃ b : Nat, (b : Int) ∈ offs 1 Ls ∧ 1 ≤ b ∧ Emb (mkL y Ls) b l := by
  have hp : ∀ l ∈ Ls, l.length ≠ 0 := fun l hl => good_pos (hg l hl)
  have := laid Ls 1 [⟨y.k, y.x, y.m, offs 1 Ls, y.p⟩] (mkL y Ls) (mkL_form hp) rfl hg (by rw [mkL_len hp]; omega)
  rw [mkL_len hp, Nat.add_comm]
  exact this
/-- What is made of good kids is good just if the root fits. -/
theorem mk_good (hg : ∀ l ∈ Ls, GoodT l) (hs : sumL Ls ≤ 1000000) (hf : fitsB (mkL y Ls) ((0 : Nat) : Int) = true) : GoodT (mkL y Ls) := by
  have h := (mk_laid (y := y) hg hs).1
  refine ⟨?_, hf, ?_⟩
  · rw [mkL_len (fun l hl => good_pos (hg l hl))]; omega
  · rw [mk_root hg]; exact h
theorem mk_chk (hg : ∀ l ∈ Ls, GoodT l) (hs : sumL Ls ≤ 1000000) : chk (mkL y Ls) = (-1, 0) ∨ chk (mkL y Ls) = (0, 7) := by
  rcases Bool.eq_false_or_eq_true (fitsB (mkL y Ls) ((0 : Nat) : Int)) with hf | hf
  · exact .inl (chk_good (mk_good hg hs hf))
  · exact .inr (chk_root _ (by rw [mkL_len (fun l hl => good_pos (hg l hl))]; omega) hf)
/-- A List over good kids is good. -/
theorem list_good (hg : ∀ l ∈ Ls, GoodT l) (hs : sumL Ls ≤ 1000000) : GoodT (mkL ⟨2, ⟨#[]⟩, 0, [], 0⟩ Ls) := by
  refine mk_good hg hs ?_
  have h := (mk_laid (y := ⟨2, ⟨#[]⟩, 0, [], 0⟩) hg hs).1
  have hk : ∀ k ∈ offs 1 Ls, inL (mkL ⟨2, ⟨#[]⟩, 0, [], 0⟩ Ls) k = true := fun k hk => by
    obtain ⟨j, rfl, h1, h2⟩ := h.kid k hk
    rw [inL_iff]; omega
  generalize hX : mkL ⟨2, ⟨#[]⟩, 0, [], 0⟩ Ls = X at *
  have hr : nd X ((0 : Nat) : Int) = ⟨2, ⟨#[]⟩, 0, offs 1 Ls, 0⟩ := by rw [← hX]; exact mk_root hg
  unfold fitsB kidsP
  rw [hr]
  have e1 : saidB ⟨2, ⟨#[]⟩, 0, offs 1 Ls, 0⟩ = true := by rfl
  have e2 : tab 2 = some ([anyP], true) := by rfl
  have e3 : (offs 1 Ls).all (inL X) = true := List.all_eq_true.2 hk
  rw [e1]
  show (true && ((offs 1 Ls).all (inL X) && _)) = true
  rw [e3]
  show (true && (true && (if (2 : Int) = 12 then _ else if (2 : Int) = 87 then _ else match tab 2 with | none => false | some (ps, many) => _))) = true
  rw [if_neg (by decide), if_neg (by decide), e2]
  show (true && (true && ((true || _) && eachP X [anyP] 0 (offs 1 Ls) && (!((2 : Int) == 61) || _ || _)))) = true
  rw [eachP_one]
  have e4 : (offs 1 Ls).all (anyP X) = true := List.all_eq_true.2 (fun k _ => rfl)
  rw [e4]; rfl
end
/-! ### how deep -/
theorem par {l : List Nd} (h : GoodT l) {x : Nat} (h0 : 0 < x) (hx : x < l.length) : ∃ y, y < x ∧ (x : Int) ∈ (nd l y).ks := by
  have hpar : ∀ {ks : List Int} {a e : Nat}, Ch l ks a e → ∀ x, a ≤ x → x < e → (x : Int) ∈ ks ∨ ∃ y, a ≤ y ∧ y < x ∧ (x : Int) ∈ (nd l y).ks := by
    intro ks a e hc
    induction hc with
    | nil a => intro x h1 h2; omega
    | @cons ks a m e h0 hf h1 h2 ih1 ih2 =>
      intro x hx hx2
      rcases Nat.lt_or_ge x m with hm | hm
      · rcases Nat.eq_or_lt_of_le hx with rfl | hx3
        · exact .inl (by simp)
        · rcases ih1 x hx3 hm with h5 | ⟨y, y1, y2, y3⟩
          · exact .inr ⟨a, Nat.le_refl _, hx3, h5⟩
          · exact .inr ⟨y, by omega, y2, y3⟩
      · rcases ih2 x hm hx2 with h5 | ⟨y, y1, y2, y3⟩
        · exact .inl (by simp [h5])
        · have := h1.le
          exact .inr ⟨y, by omega, y2, y3⟩
  rcases hpar h.2.2 x h0 hx with h5 | ⟨y, y1, y2, y3⟩
  · exact ⟨0, h0, h5⟩
  · exact ⟨y, y2, y3⟩
theorem dp_emb {X l : List Nd} {b : Nat} (hX : GoodT X) (hl : GoodT l) (he : Emb X b l) {d : Int} (hb : dp X b = d) : ∀ n j, j ≤ n → j < l.length → dp X (b + j) = dp l j + d := by
  intro n
  induction n with
  | zero => intro j hj hl2; obtain rfl : j = 0 := by omega
            rw [dp_zero hl, Nat.add_zero, hb]; omega
  | succ n ih =>
    intro j hj hl2
    rcases Nat.eq_zero_or_pos j with rfl | h0
    · rw [dp_zero hl, Nat.add_zero, hb]; omega
    · obtain ⟨p, hp, hk⟩ := par hl h0 hl2
      have h1 := ih p (by omega) (by omega)
      have hlen := he.len
      have h2 : ((b + j : Nat) : Int) ∈ (nd X ((b + p : Nat) : Int)).ks := by
        rw [he.ks (by omega : p < l.length)]
        exact List.mem_map.2 ⟨(j : Int), hk, by omega⟩
      rw [dp_kid hX (by omega : b + p < X.length) h2, h1, dp_kid hl (by omega : p < l.length) hk]
      omega
theorem maxD_ge (D : List Int) : ∀ q, 0 ≤ maxD D q ∧ ∀ j, j < q → D.getD j 0 ≤ maxD D q
  | 0 => ⟨Int.le_refl _, fun j hj => by omega⟩
  | q + 1 => by
    obtain ⟨h1, h2⟩ := maxD_ge D q
    have e : maxD D (q + 1) = max (maxD D q) (D.getD q 0) := rfl
    rw [e]
    refine ⟨by omega, fun j hj => ?_⟩
    rcases Nat.lt_or_ge j q with hjq | hjq
    · have := h2 j hjq; omega
    · obtain rfl : j = q := by omega
      omega
theorem maxD_is (D : List Int) : ∀ q, maxD D q = 0 ∨ ∃ j, j < q ∧ maxD D q = D.getD j 0
  | 0 => .inl rfl
  | q + 1 => by
    have e : maxD D (q + 1) = max (maxD D q) (D.getD q 0) := rfl
    rw [e]
    rcases Int.le_total (maxD D q) (D.getD q 0) with h | h
    · exact .inr ⟨q, by omega, by omega⟩
    · rcases maxD_is D q with h1 | ⟨j, h1, h2⟩
      · exact .inl (by omega)
      · exact .inr ⟨j, by omega, by omega⟩
theorem depth_good {l : List Nd} (h : GoodT l) : (∀ j, j < l.length → dp l j ≤ depthL l) ∧ (∃ j, j < l.length ∧ depthL l = dp l j) ∧ 0 ≤ depthL l := by
  have e : depsL l = deepL l := by unfold depsL; rw [if_pos ((good_iff).2 h)]
  have hl := deepL_len l
  unfold depthL
  rw [e, hl]
  obtain ⟨h1, h2⟩ := maxD_ge (deepL l) l.length
  refine ⟨h2, ?_, h1⟩
  rcases maxD_is (deepL l) l.length with h3 | ⟨j, h3, h4⟩
  · refine ⟨0, h.1, ?_⟩
    rw [h3, dp_zero h]
  · exact ⟨j, h3, h4⟩
/-- The deepest of some trees; -1, if there is none. -/
def deepest : List (List Nd) → Int → Int
  | [], d => d
  | l :: ls, d => deepest ls (max d (depthL l))
theorem deepest_ge : ∀ (Ls : List (List Nd)) (d : Int), d ≤ deepest Ls d ∧ ∀ l ∈ Ls, depthL l ≤ deepest Ls d
  | [], d => ⟨Int.le_refl _, fun l hl => by cases hl⟩
  | l :: ls, d => by
    obtain ⟨h1, h2⟩ := deepest_ge ls (max d (depthL l))
    have e : deepest (l :: ls) d = deepest ls (max d (depthL l)) := rfl
    rw [e]
    refine ⟨by omega, fun l' hl' => ?_⟩
    rcases List.mem_cons.1 hl' with rfl | hl'
    · omega
    · exact h2 l' hl'
theorem deepest_is : ∀ (Ls : List (List Nd)) (d : Int), deepest Ls d = d ∨ ∃ l ∈ Ls, deepest Ls d = depthL l
  | [], d => .inl rfl
  | l :: ls, d => by
    have e : deepest (l :: ls) d = deepest ls (max d (depthL l)) := rfl
    rw [e]
    rcases deepest_is ls (max d (depthL l)) with h | ⟨l', h1, h2⟩
    · rcases Int.le_total d (depthL l) with h3 | h3
      · exact .inr ⟨l, by simp, by omega⟩
      · exact .inl (by omega)
    · exact .inr ⟨l', by simp [h1], h2⟩
theorem mk_cover : ∀ (Ls : List (List Nd)) (b : Nat) (pre X : List Nd), X = pre ++ body b Ls → pre.length = b → (∀ l ∈ Ls, GoodT l) → X.length ≤ 1000000000000 →
    ∀ x, b ≤ x → x < b + sumL Ls → ∃ l ∈ Ls, ∃ b' j : Nat, x = b' + j ∧ j < l.length ∧ (b' : Int) ∈ offs b Ls ∧ Emb X b' l
  | [], b, pre, X, _, _, _, _ => fun x h1 h2 => by simp [sumL] at h2; omega
  | l :: ls, b, pre, X, hX, hb, hg, hs => fun x h1 h2 => by
    have hl := hg l (by simp)
    have hX1 : X = pre ++ (l.map (shN (b : Int)) ++ body (b + l.length) ls) := hX
    have he := emb_of hX1 hb hl hs
    have hX2 : X = (pre ++ l.map (shN (b : Int))) ++ body (b + l.length) ls := by rw [hX1, List.append_assoc]
    rw [sumL_cons] at h2
    rcases Nat.lt_or_ge x (b + l.length) with h3 | h3
    · exact ⟨l, by simp, b, x - b, by omega, by omega, by simp [offs], he⟩
    · obtain ⟨l', h4, b', j, h5, h6, h7, h8⟩ := mk_cover ls (b + l.length) _ X hX2 (by rw [List.length_append, List.length_map, hb]) (fun l' hl' => hg l' (by simp [hl'])) hs x h3 (by omega)
      exact ⟨l', by simp [h4], b', j, h5, h6, by simp [offs, h7], h8⟩
/-- What is made is one deeper than the deepest. -/
theorem mk_depth {y : Nd} {Ls : List (List Nd)} (hg : ∀ l ∈ Ls, GoodT l) (hs : sumL Ls ≤ 1000000) (hX : GoodT (mkL y Ls)) : depthL (mkL y Ls) = deepest Ls (-1) + 1 := by
  have hp : ∀ l ∈ Ls, l.length ≠ 0 := fun l hl => good_pos (hg l hl)
  have hlen := mkL_len (y := y) hp
  have hform := mkL_form (y := y) hp
  have hroot := mk_root (y := y) hg
  have hlaid := (mk_laid (y := y) hg hs).2
  have hcov := mk_cover Ls 1 [⟨y.k, y.x, y.m, offs 1 Ls, y.p⟩] (mkL y Ls) hform rfl hg (by rw [hlen]; omega)
  generalize mkL y Ls = X at *
  obtain ⟨d1, ⟨j0, d2, d3⟩, d4⟩ := depth_good hX
  obtain ⟨p1, p2⟩ := deepest_ge Ls (-1)
  have hoff : ∀ b : Nat, (b : Int) ∈ offs 1 Ls → dp X b = 1 := fun b hb => by
    have := dp_kid hX hX.1 (n := 0) (j := b) (by rw [hroot]; exact hb)
    rw [this, dp_zero hX]; rfl
  have le : depthL X ≤ deepest Ls (-1) + 1 := by
    rcases Nat.eq_zero_or_pos j0 with rfl | h0
    · rw [d3, dp_zero hX]; omega
    · obtain ⟨l, hl, b, j, rfl, h6, h7, h8⟩ := hcov j0 h0 (by omega)
      have := dp_emb hX (hg l hl) h8 (hoff b h7) j j (Nat.le_refl _) h6
      rw [d3, this]
      have h9 := (depth_good (hg l hl)).1 j h6
      have := p2 l hl
      omega
  have ge : deepest Ls (-1) + 1 ≤ depthL X := by
    rcases deepest_is Ls (-1) with h | ⟨l, hl, h⟩
    · omega
    · obtain ⟨b, h1, h2, h3⟩ := hlaid l hl
      obtain ⟨_, ⟨j, h4, h5⟩, _⟩ := depth_good (hg l hl)
      have := dp_emb hX (hg l hl) h3 (hoff b h1) j j (Nat.le_refl _) h4
      have h6 := d1 (b + j) (by have := h3.len; omega)
      omega
  omega
end
section
set_option linter.unusedVariables false
set_option linter.unusedSimpArgs false
set_option linter.unnecessarySimpa false
open Go.RowKit
attribute [local go_sem high] max_run
attribute [local go_sem] cell_alloc_add cell_set_add lt_more
theorem deepest_snoc : ∀ (Ls : List (List Nd)) (l : List Nd) (d : Int), deepest (Ls ++ [l]) d = max (deepest Ls d) (depthL l)
  | [], l, d => rfl
  | a :: Ls, l, d => deepest_snoc Ls l (max d (depthL a))
theorem sumL_app (Ls Ms : List (List Nd)) : sumL (Ls ++ Ms) = sumL Ls + sumL Ms := by simp [sumL]
theorem take_L {Ls : List (List Nd)} {q : Nat} (h : q < Ls.length) : Ls.take (q + 1) = Ls.take q ++ [Ls.getD q []] := by
  rw [List.take_succ_eq_append_getElem h]; simp [List.getD, h]
theorem getD_memL {Ls : List (List Nd)} {q : Nat} (h : q < Ls.length) : Ls.getD q [] ∈ Ls := by
  have e : Ls.getD q [] = Ls[q] := by simp [List.getD, h]
  rw [e]; exact List.getElem_mem _
theorem sumL_le {n : Nat} : ∀ (Ls : List (List Nd)), (∀ l ∈ Ls, l.length ≤ n) → sumL Ls ≤ n * Ls.length
  | [], _ => by simp [sumL]
  | l :: ls, h => by
    rw [sumL_cons, List.length_cons, Nat.mul_succ]
    have := sumL_le ls (fun l' hl' => h l' (by simp [hl']))
    have := h l (by simp)
    omega
theorem body_all {P : Nd → Prop} (hP : ∀ z y, P y → P (shN z y)) : ∀ (Ls : List (List Nd)) (b : Nat), (∀ l ∈ Ls, ∀ y ∈ l, P y) → ∀ y ∈ body b Ls, P y
  | [], _, _ => fun y hy => by cases hy
  | l :: ls, b, h => fun y hy => by
    rcases List.mem_append.1 (show y ∈ l.map (shN (b : Int)) ++ body (b + l.length) ls from hy) with hy | hy
    · obtain ⟨z, hz, rfl⟩ := List.mem_map.1 hy
      exact hP _ _ (h l (by simp) z hz)
    · exact body_all hP ls _ (fun l' hl' => h l' (by simp [hl'])) y hy
theorem nd_all {P : Nd → Prop} {L : List Nd} (h0 : P nd0) (h : ∀ y ∈ L, P y) (j : Nat) : P (nd L j) := by
  rw [nd_nat, List.getD_eq_getElem?_getD]
  rcases hq : L[j]? with _ | y
  · exact h0
  · exact h y (List.mem_of_getElem? hq)
theorem nd_mem {L : List Nd} {y : Nd} (h : y ∈ L) : ∃ j : Nat, j < L.length ∧ nd L j = y := by
  obtain ⟨j, hj, e⟩ := List.getElem_of_mem h
  refine ⟨j, hj, ?_⟩
  have := nd_get hj
  rw [List.getElem?_eq_getElem hj] at this
  injection this with this
  rw [← this, e]
theorem mk_text {y : Nd} {Ls : List (List Nd)} {n : Nat} (hg : ∀ l ∈ Ls, GoodT l) (hy : y.x.size ≤ n) (h : ∀ l ∈ Ls, ∀ j : Nat, (nd l j).x.size ≤ n) (j : Nat) : (nd (mkL y Ls) j).x.size ≤ n := by
  rw [mkL_form (fun l hl => good_pos (hg l hl))]
  refine nd_all (P := fun y => y.x.size ≤ n) (Nat.zero_le _) (fun z hz => ?_) j
  rcases List.mem_cons.1 hz with rfl | hz
  · exact hy
  · exact body_all (P := fun y => y.x.size ≤ n) (fun _ _ h => h) Ls 1 (fun l hl z hz => by
      obtain ⟨i, _, rfl⟩ := nd_mem hz
      exact h l hl i) z hz
/-- What the walk of a law asks of the sizes of its trees. -/
structure Fine (Ls : List (List Nd)) : Prop where
  len : ∀ q, q < Ls.length → (Ls.getD q []).length ≤ 2000000
  txt : ∀ q, q < Ls.length → ∀ j : Nat, (nd (Ls.getD q []) j).x.size ≤ 4000000
  kid : ∀ q, q < Ls.length → ∀ j : Nat, (nd (Ls.getD q []) j).ks.length ≤ 1000000000000
end
end Go.Proofs.YtjaijlkonkgnmaaDoor
