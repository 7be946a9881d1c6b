/- Plain: what is made of good kids. No program in sight. -/
import Derived.Test.YtpkdhciokiomlaaDoorHSh
import Derived.Test.YtpkdhciokiomlaaDoorHBZ14
import Derived.Test.YtpkdhciokiomlaaDoorHTrE
namespace Go.Proofs.YtpkdhciokiomlaaDoor
set_option linter.unusedVariables false
set_option linter.unusedSimpArgs false
set_option linter.unnecessarySimpa false
open Go.RowKit
abbrev GoodT (l : List Nd) : Prop := Sp l 0 l.length
/-- Where the kids' roots stand, from b on. -/
def offs : Nat → List (List Nd) → List Int
  | _, [] => []
  | b, l :: ls => (b : Int) :: offs (b + l.length) ls
def body : Nat → List (List Nd) → List Nd
  | _, [] => []
  | b, l :: ls => l.map (shN (b : Int)) ++ body (b + l.length) ls
theorem body_len : ∀ (Ls : List (List Nd)) (b : Nat), (body b Ls).length = sumL Ls
  | [], _ => rfl
  | l :: ls, b => by show (l.map (shN (b : Int)) ++ body (b + l.length) ls).length = _; rw [List.length_append, List.length_map, body_len ls, sumL_cons]
theorem mkA_form : ∀ (Ls : List (List Nd)) (ks : List Int) (acc : List Nd), (∀ l ∈ Ls, l.length ≠ 0) → mkA ks acc Ls = (ks ++ offs (acc.length + 1) Ls, acc ++ body (acc.length + 1) Ls)
  | [], ks, acc, _ => by simp [mkA_nil, offs, body]
  | l :: ls, ks, acc, h => by
    rw [mkA_step (h l (by simp)), mkA_form ls _ _ (fun l' hl => h l' (by simp [hl]))]
    rw [List.length_append, List.length_map, show acc.length + l.length + 1 = acc.length + 1 + l.length by omega, List.append_assoc, List.append_assoc]
    rfl
theorem mkL_form {y : Nd} {Ls : List (List Nd)} (h : ∀ l ∈ Ls, l.length ≠ 0) : mkL y Ls = ⟨y.k, y.x, y.m, offs 1 Ls, y.p⟩ :: body 1 Ls := by
  unfold mkL
  rw [mkA_form Ls [] [] h]; rfl
theorem mkL_len {y : Nd} {Ls : List (List Nd)} (h : ∀ l ∈ Ls, l.length ≠ 0) : (mkL y Ls).length = sumL Ls + 1 := by
  rw [mkL_form h, List.length_cons, body_len]
theorem good_pos {l : List Nd} (h : GoodT l) : l.length ≠ 0 := by have := h.1; omega
theorem emb_of {X pre post l : List Nd} {b : Nat} (hX : X = pre ++ (l.map (shN (b : Int)) ++ post)) (hb : pre.length = b) (hl : GoodT l) (hs : X.length ≤ 1000000000000) : Emb X b l := by
  refine ⟨fun j hj => ?_, ?_, fun j hj k hk => good_kid hl hj k hk, hs⟩
  · have h1 : X[b + j]? = some (shN (b : Int) (nd l j)) := by
      rw [hX, List.getElem?_append_right (by omega), show b + j - pre.length = j by omega, List.getElem?_append_left (by rw [List.length_map]; exact hj), List.getElem?_map, nd_get hj]
      rfl
    have h2 : b + j < X.length := by rw [hX]; simp; omega
    rw [nd_get h2] at h1
    injection h1
  · rw [hX]; simp; omega
/-- The kids, laid one behind the other, and what each of them is. -/
theorem laid : ∀ (Ls : List (List Nd)) (b : Nat) (pre X : List Nd), X = pre ++ body b Ls → pre.length = b → (∀ l ∈ Ls, GoodT l) → X.length ≤ 1000000000000 →
    Ch X (offs b Ls) b (b + sumL Ls) ∧ ∀ l ∈ Ls, ∃ b' : Nat, (b' : Int) ∈ offs b Ls ∧ b ≤ b' ∧ Emb X b' l
  | [], b, pre, X, _, _, _, _ => ⟨Ch.nil b, fun l hl => by cases hl⟩
  | l :: ls, b, pre, X, hX, hb, hg, hs => by
    have hl := hg l (by simp)
    have hX1 : X = pre ++ (l.map (shN (b : Int)) ++ body (b + l.length) ls) := hX
    have he := emb_of hX1 hb hl hs
    have hX2 : X = (pre ++ l.map (shN (b : Int))) ++ body (b + l.length) ls := by rw [hX1, List.append_assoc]
    obtain ⟨h1, h2⟩ := laid ls (b + l.length) _ X hX2 (by rw [List.length_append, List.length_map, hb]) (fun l' hl' => hg l' (by simp [hl'])) hs
    have hin : inL l ((0 : Nat) : Int) = true := by rw [inL_iff]; have := hl.1; omega
    have e0 := he.kids hin
    have hxl := he.len
    have hl0 := hl.1
    refine ⟨?_, fun l' hl' => ?_⟩
    · have hc := hl.2.2.sh he
      have e1 : (((0 : Nat) : Int) + (b : Int)) = (b : Int) := by omega
      rw [e1] at e0
      rw [← e0.1, show 0 + 1 + b = b + 1 by omega, show l.length + b = b + l.length by omega] at hc
      refine Ch.cons (m := b + l.length) (by omega) ?_ hc ?_
      · have := fits_sh he hin
        rw [e1] at this
        rw [this]; exact hl.2.1
      · rw [sumL_cons, show b + (l.length + sumL ls) = b + l.length + sumL ls by omega]; exact h1
    · rcases List.mem_cons.1 hl' with rfl | hl'
      · exact ⟨b, by simp [offs], Nat.le_refl _, he⟩
      · obtain ⟨b', h3, h4, h5⟩ := h2 l' hl'
        exact ⟨b', by simp [offs, h3], by omega, h5⟩
section
variable {y : Nd} {Ls : List (List Nd)}
theorem mk_root (hg : ∀ l ∈ Ls, GoodT l) : (nd (mkL y Ls) ((0 : Nat) : Int)) = ⟨y.k, y.x, y.m, offs 1 Ls, y.p⟩ := by
  rw [mkL_form (fun l hl => good_pos (hg l hl)), nd_nat]; rfl
theorem mk_laid (hg : ∀ l ∈ Ls, GoodT l) (hs : sumL Ls ≤ 1000000) : Ch (mkL y Ls) (offs 1 Ls) 1 (mkL y Ls).length ∧ ∀ l ∈ Ls, ∃ b : Nat, (b : Int) ∈ offs 1 Ls ∧ 1 ≤ b ∧ Emb (mkL y Ls) b l := by
  have hp : ∀ l ∈ Ls, l.length ≠ 0 := fun l hl => good_pos (hg l hl)
  have := laid Ls 1 [⟨y.k, y.x, y.m, offs 1 Ls, y.p⟩] (mkL y Ls) (mkL_form hp) rfl hg (by rw [mkL_len hp]; omega)
  rw [mkL_len hp, Nat.add_comm]
  exact this
/-- What is made of good kids is good just if the root fits. -/
theorem mk_good (hg : ∀ l ∈ Ls, GoodT l) (hs : sumL Ls ≤ 1000000) (hf : fitsB (mkL y Ls) ((0 : Nat) : Int) = true) : GoodT (mkL y Ls) := by
  have h := (mk_laid (y := y) hg hs).1
  refine ⟨?_, hf, ?_⟩
  · rw [mkL_len (fun l hl => good_pos (hg l hl))]; omega
  · rw [mk_root hg]; exact h
theorem mk_chk (hg : ∀ l ∈ Ls, GoodT l) (hs : sumL Ls ≤ 1000000) : chk (mkL y Ls) = (-1, 0) ∨ chk (mkL y Ls) = (0, 7) := by
  rcases Bool.eq_false_or_eq_true (fitsB (mkL y Ls) ((0 : Nat) : Int)) with hf | hf
  · exact .inl (chk_good (mk_good hg hs hf))
  · exact .inr (chk_root _ (by rw [mkL_len (fun l hl => good_pos (hg l hl))]; omega) hf)
/-- A List over good kids is good. -/
theorem list_good (hg : ∀ l ∈ Ls, GoodT l) (hs : sumL Ls ≤ 1000000) : GoodT (mkL ⟨2, ⟨#[]⟩, 0, [], 0⟩ Ls) := by
  refine mk_good hg hs ?_
  have h := (mk_laid (y := ⟨2, ⟨#[]⟩, 0, [], 0⟩) hg hs).1
  have hk : ∀ k ∈ offs 1 Ls, inL (mkL ⟨2, ⟨#[]⟩, 0, [], 0⟩ Ls) k = true := fun k hk => by
    obtain ⟨j, rfl, h1, h2⟩ := h.kid k hk
    rw [inL_iff]; omega
  generalize hX : mkL ⟨2, ⟨#[]⟩, 0, [], 0⟩ Ls = X at *
  have hr : nd X ((0 : Nat) : Int) = ⟨2, ⟨#[]⟩, 0, offs 1 Ls, 0⟩ := by rw [← hX]; exact mk_root hg
  unfold fitsB kidsP
  rw [hr]
  have e1 : saidB ⟨2, ⟨#[]⟩, 0, offs 1 Ls, 0⟩ = true := by rfl
  have e2 : tab 2 = some ([anyP], true) := by rfl
  have e3 : (offs 1 Ls).all (inL X) = true := List.all_eq_true.2 hk
  rw [e1]
  show (true && ((offs 1 Ls).all (inL X) && _)) = true
  rw [e3]
  show (true && (true && (if (2 : Int) = 12 then _ else if (2 : Int) = 87 then _ else match tab 2 with | none => false | some (ps, many) => _))) = true
  rw [if_neg (by decide), if_neg (by decide), e2]
  show (true && (true && ((true || _) && eachP X [anyP] 0 (offs 1 Ls) && (!((2 : Int) == 61) || _ || _)))) = true
  rw [eachP_one]
  have e4 : (offs 1 Ls).all (anyP X) = true := List.all_eq_true.2 (fun k _ => rfl)
  rw [e4]; rfl
end
/-! ### how deep -/
theorem par {l : List Nd} (h : GoodT l) {x : Nat} (h0 : 0 < x) (hx : x < l.length) : ∃ y, y < x ∧ (x : Int) ∈ (nd l y).ks := by
  have hpar : ∀ {ks : List Int} {a e : Nat}, Ch l ks a e → ∀ x, a ≤ x → x < e → (x : Int) ∈ ks ∨ ∃ y, a ≤ y ∧ y < x ∧ (x : Int) ∈ (nd l y).ks := by
    intro ks a e hc
    induction hc with
    | nil a => intro x h1 h2; omega
    | @cons ks a m e h0 hf h1 h2 ih1 ih2 =>
      intro x hx hx2
      rcases Nat.lt_or_ge x m with hm | hm
      · rcases Nat.eq_or_lt_of_le hx with rfl | hx3
        · exact .inl (by simp)
        · rcases ih1 x hx3 hm with h5 | ⟨y, y1, y2, y3⟩
          · exact .inr ⟨a, Nat.le_refl _, hx3, h5⟩
          · exact .inr ⟨y, by omega, y2, y3⟩
      · rcases ih2 x hm hx2 with h5 | ⟨y, y1, y2, y3⟩
        · exact .inl (by simp [h5])
        · have := h1.le
          exact .inr ⟨y, by omega, y2, y3⟩
  rcases hpar h.2.2 x h0 hx with h5 | ⟨y, y1, y2, y3⟩
  · exact ⟨0, h0, h5⟩
  · exact ⟨y, y2, y3⟩
theorem dp_emb {X l : List Nd} {b : Nat} (hX : GoodT X) (hl : GoodT l) (he : Emb X b l) {d : Int} (hb : dp X b = d) : ∀ n j, j ≤ n → j < l.length → dp X (b + j) = dp l j + d := by
  intro n
  induction n with
  | zero => intro j hj hl2; obtain rfl : j = 0 := by omega
            rw [dp_zero hl, Nat.add_zero, hb]; omega
  | succ n ih =>
    intro j hj hl2
    rcases Nat.eq_zero_or_pos j with rfl | h0
    · rw [dp_zero hl, Nat.add_zero, hb]; omega
    · obtain ⟨p, hp, hk⟩ := par hl h0 hl2
      have h1 := ih p (by omega) (by omega)
      have hlen := he.len
      have h2 : ((b + j : Nat) : Int) ∈ (nd X ((b + p : Nat) : Int)).ks := by
        rw [he.ks (by omega : p < l.length)]
        exact List.mem_map.2 ⟨(j : Int), hk, by omega⟩
      rw [dp_kid hX (by omega : b + p < X.length) h2, h1, dp_kid hl (by omega : p < l.length) hk]
      omega
theorem maxD_ge (D : List Int) : ∀ q, 0 ≤ maxD D q ∧ ∀ j, j < q → D.getD j 0 ≤ maxD D q
  | 0 => ⟨Int.le_refl _, fun j hj => by omega⟩
  | q + 1 => by
    obtain ⟨h1, h2⟩ := maxD_ge D q
    have e : maxD D (q + 1) = max (maxD D q) (D.getD q 0) := rfl
    rw [e]
    refine ⟨by omega, fun j hj => ?_⟩
    rcases Nat.lt_or_ge j q with hjq | hjq
    · have := h2 j hjq; omega
    · obtain rfl : j = q := by omega
      omega
theorem maxD_is (D : List Int) : ∀ q, maxD D q = 0 ∨ ∃ j, j < q ∧ maxD D q = D.getD j 0
  | 0 => .inl rfl
  | q + 1 => by
    have e : maxD D (q + 1) = max (maxD D q) (D.getD q 0) := rfl
    rw [e]
    rcases Int.le_total (maxD D q) (D.getD q 0) with h | h
    · exact .inr ⟨q, by omega, by omega⟩
    · rcases maxD_is D q with h1 | ⟨j, h1, h2⟩
      · exact .inl (by omega)
      · exact .inr ⟨j, by omega, by omega⟩
theorem depth_good {l : List Nd} (h : GoodT l) : (∀ j, j < l.length → dp l j ≤ depthL l) ∧ (∃ j, j < l.length ∧ depthL l = dp l j) ∧ 0 ≤ depthL l := by
  have e : depsL l = deepL l := by unfold depsL; rw [if_pos ((good_iff).2 h)]
  have hl := deepL_len l
  unfold depthL
  rw [e, hl]
  obtain ⟨h1, h2⟩ := maxD_ge (deepL l) l.length
  refine ⟨h2, ?_, h1⟩
  rcases maxD_is (deepL l) l.length with h3 | ⟨j, h3, h4⟩
  · refine ⟨0, h.1, ?_⟩
    rw [h3, dp_zero h]
  · exact ⟨j, h3, h4⟩
/-- The deepest of some trees; -1, if there is none. -/
def deepest : List (List Nd) → Int → Int
  | [], d => d
  | l :: ls, d => deepest ls (max d (depthL l))
theorem deepest_ge : ∀ (Ls : List (List Nd)) (d : Int), d ≤ deepest Ls d ∧ ∀ l ∈ Ls, depthL l ≤ deepest Ls d
  | [], d => ⟨Int.le_refl _, fun l hl => by cases hl⟩
  | l :: ls, d => by
    obtain ⟨h1, h2⟩ := deepest_ge ls (max d (depthL l))
    have e : deepest (l :: ls) d = deepest ls (max d (depthL l)) := rfl
    rw [e]
    refine ⟨by omega, fun l' hl' => ?_⟩
    rcases List.mem_cons.1 hl' with rfl | hl'
    · omega
    · exact h2 l' hl'
theorem deepest_is : ∀ (Ls : List (List Nd)) (d : Int), deepest Ls d = d ∨ ∃ l ∈ Ls, deepest Ls d = depthL l
  | [], d => .inl rfl
  | l :: ls, d => by
    have e : deepest (l :: ls) d = deepest ls (max d (depthL l)) := rfl
    rw [e]
    rcases deepest_is ls (max d (depthL l)) with h | ⟨l', h1, h2⟩
    · rcases Int.le_total d (depthL l) with h3 | h3
      · exact .inr ⟨l, by simp, by omega⟩
      · exact .inl (by omega)
    · exact .inr ⟨l', by simp [h1], h2⟩
theorem mk_cover : ∀ (Ls : List (List Nd)) (b : Nat) (pre X : List Nd), X = pre ++ body b Ls → pre.length = b → (∀ l ∈ Ls, GoodT l) → X.length ≤ 1000000000000 →
    ∀ x, b ≤ x → x < b + sumL Ls → ∃ l ∈ Ls, ∃ b' j : Nat, x = b' + j ∧ j < l.length ∧ (b' : Int) ∈ offs b Ls ∧ Emb X b' l
  | [], b, pre, X, _, _, _, _ => fun x h1 h2 => by simp [sumL] at h2; omega
  | l :: ls, b, pre, X, hX, hb, hg, hs => fun x h1 h2 => by
    have hl := hg l (by simp)
    have hX1 : X = pre ++ (l.map (shN (b : Int)) ++ body (b + l.length) ls) := hX
    have he := emb_of hX1 hb hl hs
    have hX2 : X = (pre ++ l.map (shN (b : Int))) ++ body (b + l.length) ls := by rw [hX1, List.append_assoc]
    rw [sumL_cons] at h2
    rcases Nat.lt_or_ge x (b + l.length) with h3 | h3
    · exact ⟨l, by simp, b, x - b, by omega, by omega, by simp [offs], he⟩
    · obtain ⟨l', h4, b', j, h5, h6, h7, h8⟩ := mk_cover ls (b + l.length) _ X hX2 (by rw [List.length_append, List.length_map, hb]) (fun l' hl' => hg l' (by simp [hl'])) hs x h3 (by omega)
      exact ⟨l', by simp [h4], b', j, h5, h6, by simp [offs, h7], h8⟩
/-- What is made is one deeper than the deepest. -/
theorem mk_depth {y : Nd} {Ls : List (List Nd)} (hg : ∀ l ∈ Ls, GoodT l) (hs : sumL Ls ≤ 1000000) (hX : GoodT (mkL y Ls)) : depthL (mkL y Ls) = deepest Ls (-1) + 1 := by
  have hp : ∀ l ∈ Ls, l.length ≠ 0 := fun l hl => good_pos (hg l hl)
  have hlen := mkL_len (y := y) hp
  have hform := mkL_form (y := y) hp
  have hroot := mk_root (y := y) hg
  have hlaid := (mk_laid (y := y) hg hs).2
  have hcov := mk_cover Ls 1 [⟨y.k, y.x, y.m, offs 1 Ls, y.p⟩] (mkL y Ls) hform rfl hg (by rw [hlen]; omega)
  generalize mkL y Ls = X at *
  obtain ⟨d1, ⟨j0, d2, d3⟩, d4⟩ := depth_good hX
  obtain ⟨p1, p2⟩ := deepest_ge Ls (-1)
  have hoff : ∀ b : Nat, (b : Int) ∈ offs 1 Ls → dp X b = 1 := fun b hb => by
    have := dp_kid hX hX.1 (n := 0) (j := b) (by rw [hroot]; exact hb)
    rw [this, dp_zero hX]; rfl
  have le : depthL X ≤ deepest Ls (-1) + 1 := by
    rcases Nat.eq_zero_or_pos j0 with rfl | h0
    · rw [d3, dp_zero hX]; omega
    · obtain ⟨l, hl, b, j, rfl, h6, h7, h8⟩ := hcov j0 h0 (by omega)
      have := dp_emb hX (hg l hl) h8 (hoff b h7) j j (Nat.le_refl _) h6
      rw [d3, this]
      have h9 := (depth_good (hg l hl)).1 j h6
      have := p2 l hl
      omega
  have ge : deepest Ls (-1) + 1 ≤ depthL X := by
    rcases deepest_is Ls (-1) with h | ⟨l, hl, h⟩
    · omega
    · obtain ⟨b, h1, h2, h3⟩ := hlaid l hl
      obtain ⟨_, ⟨j, h4, h5⟩, _⟩ := depth_good (hg l hl)
      have := dp_emb hX (hg l hl) h3 (hoff b h1) j j (Nat.le_refl _) h4
      have h6 := d1 (b + j) (by have := h3.len; omega)
      omega
  omega
end Go.Proofs.YtpkdhciokiomlaaDoor
