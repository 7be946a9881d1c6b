/- Some texts of this claim, put together. -/
import Derived.Test.YtpkdhciokiomlaaGreatDoorHBZ4
import Derived.Test.YtpkdhciokiomlaaGreatDoorHBZ17
import Derived.Test.YtpkdhciokiomlaaGreatDoorHK10
import Derived.Test.YtpkdhciokiomlaaGreatDoorHBZ15
import Derived.Test.YtpkdhciokiomlaaGreatDoorHTrE
namespace Go.Proofs.YtpkdhciokiomlaaGreatDoor
section
set_option linter.unusedVariables false
set_option linter.unusedSimpArgs false
set_option linter.unnecessarySimpa false
open Go.RowKit
/-- The nodes of l stand in X from b on, moved along; the kids of each stand behind it. -/
structure Emb (X : List Nd) (b : Nat) (l : List Nd) : Prop where
  at_ : ∀ j, j < l.length → nd X ((b + j : Nat) : Int) = shN b (nd l j)
  len : b + l.length ≤ X.length
  kid : ∀ j, j < l.length → ∀ k ∈ (nd l j).ks, ∃ i : Nat, k = (i : Int) ∧ j < i ∧ i < l.length
  small : X.length ≤ 1000000000000
section
variable {X l : List Nd} {b : Nat}
theorem shN_k (z : Int) (y : Nd) : (shN z y).k = y.k := rfl
theorem shN_m (z : Int) (y : Nd) : (shN z y).m = y.m := rfl
theorem Emb.ks (h : Emb X b l) {j : Nat} (hj : j < l.length) : (nd X ((b + j : Nat) : Int)).ks = (nd l j).ks.map (· + (b : Int)) := by
  rw [h.at_ j hj]
  show (nd l j).ks.map (fun k => IntKind.i64.wrap (k + b)) = _
  apply List.map_congr_left
  intro k hk
  obtain ⟨i, rfl, h1, h2⟩ := h.kid j hj k hk
  have := h.len
  have := h.small
  show IntKind.i64.wrap ((i : Int) + (b : Int)) = (i : Int) + b
  rw [IntKind.wrap_i64]; omega
theorem Emb.kids (h : Emb X b l) {k : Int} (hk : inL l k = true) : (nd X (k + b)).ks = (nd l k).ks.map (· + (b : Int)) ∧ (nd X (k + b)).k = (nd l k).k ∧ (nd X (k + b)).m = (nd l k).m ∧ (nd X (k + b)).x = (nd l k).x := by
  obtain ⟨j, rfl, hj⟩ := inL_nat hk
  have e : ((j : Int) + (b : Int)) = ((b + j : Nat) : Int) := by omega
  rw [e]
  exact ⟨h.ks hj, by rw [h.at_ j hj]; rfl, by rw [h.at_ j hj]; rfl, by rw [h.at_ j hj]; rfl⟩
theorem Emb.inX (h : Emb X b l) {k : Int} (hk : inL l k = true) : inL X (k + b) = true := by
  obtain ⟨j, rfl, hj⟩ := inL_nat hk
  have := h.len
  rw [inL_iff]; omega
theorem Emb.inKid (h : Emb X b l) {k : Int} (hk : inL l k = true) : ∀ j ∈ (nd l k).ks, inL l j = true := fun j hj => by
  obtain ⟨i, rfl, hi⟩ := inL_nat hk
  obtain ⟨a, rfl, h1, h2⟩ := h.kid i hi j hj
  rw [inL_iff]; omega
theorem all_map_eq {f g : Int → Bool} {ks : List Int} {z : Int} (h : ∀ k ∈ ks, f (k + z) = g k) : (ks.map (· + z)).all f = ks.all g := by
  rw [List.all_map]
  induction ks with
  | nil => rfl
  | cons a ks ih =>
    rw [List.all_cons, List.all_cons, ih (fun k hk => h k (by simp [hk]))]
    congr 1
    exact h a (by simp)
/-- A place that takes here what it takes there. -/
def Shf (p : Plc) : Prop := ∀ (X l : List Nd) (b : Nat), Emb X b l → ∀ k, inL l k = true → p X (k + b) = p l k
theorem shf_of (a : List Int) : Shf (ofP a) := fun X l b h k hk => by unfold ofP; rw [(h.kids hk).2.1]
theorem shf_any : Shf anyP := fun X l b h k hk => rfl
theorem shf_expr : Shf exprP := fun X l b h k hk => by unfold exprP; rw [(h.kids hk).2.1]
theorem shf_type : Shf typeP := fun X l b h k hk => by unfold typeP; rw [(h.kids hk).2.1]
theorem shf_stmt : Shf stmtP := fun X l b h k hk => by unfold stmtP; rw [(h.kids hk).2.1]
theorem shf_plain : Shf plainP := fun X l b h k hk => by unfold plainP; rw [(h.kids hk).2.1, (h.kids hk).2.2.1]
theorem shf_let : Shf letP := fun X l b h k hk => by unfold letP; rw [(h.kids hk).2.1, (h.kids hk).2.2.1]
theorem shf_exp : Shf expP := fun X l b h k hk => by unfold expP expK; rw [(h.kids hk).2.1, (h.kids hk).2.2.1]
theorem shf_or {p q : Plc} (hp : Shf p) (hq : Shf q) : Shf (orP p q) := fun X l b h k hk => by unfold orP; rw [hp X l b h k hk, hq X l b h k hk]
theorem shf_rows {p : Plc} (hp : Shf p) : Shf (rowsP p) := fun X l b h k hk => by
  unfold rowsP
  rw [(h.kids hk).2.1, (h.kids hk).1, all_map_eq (g := fun j => inL l j && p l j) (fun j hj => by
    have hj2 := h.inKid hk j hj
    rw [h.inX hj2, hj2, hp X l b h j hj2])]
theorem shf_mem : Shf memP := fun X l b h k hk => by
  unfold memP
  rw [shf_rows (shf_of _) X l b h k hk, (h.kids hk).1]
  congr 2
  unfold ctorsB
  rw [List.filter_map, List.length_map]
  have : ((nd l k).ks.filter ((fun j => (nd X j).k == 46) ∘ (· + (b : Int)))) = (nd l k).ks.filter (fun j => (nd l j).k == 46) := by
    apply List.filter_congr
    intro j hj
    show ((nd X (j + b)).k == 46) = _
    rw [(h.kids (h.inKid hk j hj)).2.1]
  rw [this]
theorem path_sh (h : Emb X b l) : ∀ f f' j, l.length - j ≤ f → l.length - j ≤ f' → j < l.length → pathIn X f ((j : Int) + b) = pathIn l f' j
  | 0, _, j, h1, _, hj => by omega
  | _ + 1, 0, j, _, h1, hj => by omega
  | f + 1, f' + 1, j, h1, h2, hj => by
    have hin : inL l (j : Int) = true := by rw [inL_iff]; omega
    obtain ⟨e1, e2, _, _⟩ := h.kids hin
    unfold pathIn
    rw [e2]
    by_cases hk : (nd l (j : Int)).k = 29
    · rw [if_pos hk, if_pos hk, e1]
      have hkd := h.kid j hj
      rcases hks : (nd l (j : Int)).ks with _ | ⟨a, _ | ⟨a2, l2⟩⟩
      · rfl
      · obtain ⟨i, rfl, h3, h4⟩ := hkd a (by rw [hks]; simp)
        have hi : inL l (i : Int) = true := by rw [inL_iff]; omega
        show (inL X ((i : Int) + b) && pathIn X f ((i : Int) + b)) = (inL l (i : Int) && pathIn l f' i)
        rw [h.inX hi, hi, path_sh h f f' i (by omega) (by omega) h4]
      · rfl
    · rw [if_neg hk, if_neg hk]
theorem shf_path : Shf pathP := fun X l b h k hk => by
  obtain ⟨j, rfl, hj⟩ := inL_nat hk
  unfold pathP
  have := h.len
  exact path_sh h _ _ j (by omega) (by omega) hj
theorem each_one {p : Plc} (hp : Shf p) : ∀ q ∈ [p], Shf q := fun q hq => by simp at hq; subst hq; exact hp
theorem each_cons {p : Plc} {ps : List Plc} (hp : Shf p) (h : ∀ q ∈ ps, Shf q) : ∀ q ∈ p :: ps, Shf q := fun q hq => by
  rcases List.mem_cons.1 hq with rfl | hq
  · exact hp
  · exact h q hq
theorem each_nil : ∀ q ∈ ([] : List Plc), Shf q := fun q hq => by cases hq
set_option maxRecDepth 100000 in
theorem shf_tab (k : Int) : ∀ x, tab k = some x → ∀ p ∈ x.1, Shf p := by
  unfold tab
  repeat' (first
    | refine ite_some (Q := fun x : List Plc × Bool => ∀ p ∈ x.1, Shf p) ?_ ?_
    | refine leaf_some (Q := fun x : List Plc × Bool => ∀ p ∈ x.1, Shf p) ?_
    | exact leaf_none (Q := fun x : List Plc × Bool => ∀ p ∈ x.1, Shf p)
    | exact each_nil
    | refine each_cons ?_ ?_
    | exact shf_any
    | exact shf_expr
    | exact shf_type
    | exact shf_stmt
    | exact shf_plain
    | exact shf_let
    | exact shf_exp
    | exact shf_path
    | exact shf_mem
    | exact shf_of _
    | refine shf_rows ?_
    | refine shf_or ?_ ?_)
theorem each_sh (h : Emb X b l) {ps : List Plc} (hps : ∀ p ∈ ps, Shf p) : ∀ (i : Nat) (ks : List Int), (∀ k ∈ ks, inL l k = true) → eachP X ps i (ks.map (· + (b : Int))) = eachP l ps i ks
  | _, [], _ => rfl
  | i, k :: ks, hk => by
    show ((ps.getD (min i (ps.length - 1)) anyP) X (k + b) && eachP X ps (i + 1) (ks.map (· + (b : Int)))) = ((ps.getD (min i (ps.length - 1)) anyP) l k && eachP l ps (i + 1) ks)
    rw [each_sh h hps (i + 1) ks (fun k' hk' => hk k' (by simp [hk']))]
    congr 1
    have : Shf (ps.getD (min i (ps.length - 1)) anyP) := by
      rw [List.getD_eq_getElem?_getD]
      rcases hq : ps[min i (ps.length - 1)]? with _ | p
      · exact shf_any
      · exact hps p (List.mem_of_getElem? hq)
    exact this X l b h k (hk k (by simp))
theorem tmpl_sh (h : Emb X b l) : ∀ (i : Nat) (ks : List Int), (∀ k ∈ ks, inL l k = true) → tmplP X i (ks.map (· + (b : Int))) = tmplP l i ks
  | _, [], _ => rfl
  | i, k :: ks, hk => by
    show ((if i % 2 = 0 then (nd X (k + b)).k == 11 else exprK (nd X (k + b)).k) && tmplP X (i + 1) (ks.map (· + (b : Int)))) = ((if i % 2 = 0 then (nd l k).k == 11 else exprK (nd l k).k) && tmplP l (i + 1) ks)
    rw [tmpl_sh h (i + 1) ks (fun k' hk' => hk k' (by simp [hk'])), (h.kids (hk k (by simp))).2.1]
theorem getD_map_add (ks : List Int) (z : Int) (j : Nat) (hj : j < ks.length) : (ks.map (· + z)).getD j 0 = ks.getD j 0 + z := by simp [List.getD, hj]
theorem fits_sh (h : Emb X b l) {k : Int} (hk : inL l k = true) : fitsB X (k + b) = fitsB l k := by
  obtain ⟨e1, e2, e3, e4⟩ := h.kids hk
  have hin := h.inKid hk
  unfold fitsB saidB
  rw [e2, e3, e4]
  congr 1
  have hall : (nd l k).ks.all (inL l) = true := List.all_eq_true.2 hin
  have hall2 : ((nd l k).ks.map (· + (b : Int))).all (inL X) = true := by
    rw [all_map_eq (g := inL l) (fun j hj => by rw [h.inX (hin j hj), hin j hj])]; exact hall
  unfold kidsP
  rw [e1, e2, hall, hall2]
  congr 1
  by_cases h12 : (nd l k).k = 12
  · rw [if_pos h12, if_pos h12, tmpl_sh h 0 _ hin, List.length_map]
  · rw [if_neg h12, if_neg h12]
    by_cases h87 : (nd l k).k = 87
    · rw [if_pos h87, if_pos h87, List.length_map, all_map_eq (g := fun j => typeK (nd l j).k) (fun j hj => by rw [(h.kids (hin j hj)).2.1])]
    · rw [if_neg h87, if_neg h87]
      rcases ht : tab (nd l k).k with _ | ⟨ps, many⟩
      · rfl
      · have hps := shf_tab _ _ ht
        show ((many || decide (ps.length = ((nd l k).ks.map (· + (b : Int))).length)) && eachP X ps 0 ((nd l k).ks.map (· + (b : Int))) && _) = ((many || decide (ps.length = (nd l k).ks.length)) && eachP l ps 0 (nd l k).ks && _)
        rw [List.length_map, each_sh h hps 0 _ hin]
        by_cases h61 : (nd l k).k = 61
        · by_cases hl : ps.length = (nd l k).ks.length
          · have h3 : (nd l k).ks.length = 3 := by
              have e : tab 61 = some ([ofP [63], orP (ofP [62]) (ofP [1]), orP (ofP [63]) (ofP [1])], false) := by rfl
              rw [h61, e] at ht
              injection ht with ht
              injection ht with ha hb
              subst ha
              simpa using hl.symm
            have m1 : (nd l k).ks.getD 1 0 ∈ (nd l k).ks := by
              rw [show (nd l k).ks.getD 1 0 = (nd l k).ks[1]'(by omega) by rw [List.getD_eq_getElem?_getD, List.getElem?_eq_getElem (by omega)]; rfl]; exact List.getElem_mem _
            have m2 : (nd l k).ks.getD 2 0 ∈ (nd l k).ks := by
              rw [show (nd l k).ks.getD 2 0 = (nd l k).ks[2]'(by omega) by rw [List.getD_eq_getElem?_getD, List.getElem?_eq_getElem (by omega)]; rfl]; exact List.getElem_mem _
            rw [getD_map_add _ _ 1 (by omega), getD_map_add _ _ 2 (by omega), (h.kids (hin _ m1)).2.1, (h.kids (hin _ m2)).2.1]
          · have hm : many = false := by
              have e : tab 61 = some ([ofP [63], orP (ofP [62]) (ofP [1]), orP (ofP [63]) (ofP [1])], false) := by rfl
              rw [h61, e] at ht
              injection ht with ht
              injection ht with ha hb
              exact hb.symm
            rw [hm, decide_eq_false hl, Bool.or_self, Bool.false_and, Bool.false_and, Bool.false_and]
        · have e : ((nd l k).k == 61) = false := by simpa using h61
          rw [e]
          rfl
/-- What is laid out there is laid out here. -/
theorem Ch.sh (h : Emb X b l) {ks : List Int} {a e : Nat} (hc : Ch l ks a e) : Ch X (ks.map (· + (b : Int))) (a + b) (e + b) := by
  induction hc with
  | nil a => exact Ch.nil _
  | @cons ks a m e h0 hf h1 h2 ih1 ih2 =>
    have hin : inL l (a : Int) = true := by rw [inL_iff]; omega
    have e1 := (h.kids hin).1
    have hx := h.len
    rw [List.map_cons, show ((a : Int) + (b : Int)) = ((a + b : Nat) : Int) by omega]
    refine Ch.cons (m := m + b) (by omega) ?_ ?_ ih2
    · rw [show ((a + b : Nat) : Int) = (a : Int) + b by omega, fits_sh h hin, hf]
    · rw [show ((a + b : Nat) : Int) = (a : Int) + b by omega, e1, show a + b + 1 = a + 1 + b by omega]
      exact ih1
end
end
section
set_option linter.unusedVariables false
set_option linter.unusedSimpArgs false
set_option linter.unnecessarySimpa false
open Go.RowKit
abbrev GoodT (l : List Nd) : Prop := Sp l 0 l.length
/-- Where the kids' roots stand, from b on. -/
def offs : Nat → List (List Nd) → List Int
  | _, [] => []
  | b, l :: ls => (b : Int) :: offs (b + l.length) ls
def body : Nat → List (List Nd) → List Nd
  | _, [] => []
  | b, l :: ls => l.map (shN (b : Int)) ++ body (b + l.length) ls
theorem body_len : ∀ (Ls : List (List Nd)) (b : Nat), (body b Ls).length = sumL Ls
  | [], _ => rfl
  | l :: ls, b => by show (l.map (shN (b : Int)) ++ body (b + l.length) ls).length = _; rw [List.length_append, List.length_map, body_len ls, sumL_cons]
theorem mkA_form : ∀ (Ls : List (List Nd)) (ks : List Int) (acc : List Nd), (∀ l ∈ Ls, l.length ≠ 0) → mkA ks acc Ls = (ks ++ offs (acc.length + 1) Ls, acc ++ body (acc.length + 1) Ls)
  | [], ks, acc, _ => by simp [mkA_nil, offs, body]
  | l :: ls, ks, acc, h => by
    rw [mkA_step (h l (by simp)), mkA_form ls _ _ (fun l' hl => h l' (by simp [hl]))]
    rw [List.length_append, List.length_map, show acc.length + l.length + 1 = acc.length + 1 + l.length by omega, List.append_assoc, List.append_assoc]
    rfl
theorem mkL_form {y : Nd} {Ls : List (List Nd)} (h : ∀ l ∈ Ls, l.length ≠ 0) : mkL y Ls = ⟨y.k, y.x, y.m, offs 1 Ls, y.p⟩ :: body 1 Ls := by
  unfold mkL
  rw [mkA_form Ls [] [] h]; rfl
theorem mkL_len {y : Nd} {Ls : List (List Nd)} (h : ∀ l ∈ Ls, l.length ≠ 0) : (mkL y Ls).length = sumL Ls + 1 := by
  rw [mkL_form h, List.length_cons, body_len]
theorem good_pos {l : List Nd} (h : GoodT l) : l.length ≠ 0 := by have := h.1; omega
theorem emb_of {X pre post l : List Nd} {b : Nat} (hX : X = pre ++ (l.map (shN (b : Int)) ++ post)) (hb : pre.length = b) (hl : GoodT l) (hs : X.length ≤ 1000000000000) : Emb X b l := by
  refine ⟨fun j hj => ?_, ?_, fun j hj k hk => good_kid hl hj k hk, hs⟩
  · have h1 : X[b + j]? = some (shN (b : Int) (nd l j)) := by
      rw [hX, List.getElem?_append_right (by omega), show b + j - pre.length = j by omega, List.getElem?_append_left (by rw [List.length_map]; exact hj), List.getElem?_map, nd_get hj]
      rfl
    have h2 : b + j < X.length := by rw [hX]; simp; omega
    rw [nd_get h2] at h1
    injection h1
  · rw [hX]; simp; omega
/-- The kids, laid one behind the other, and what each of them is. -/
theorem laid : ∀ (Ls : List (List Nd)) (b : Nat) (pre X : List Nd), X = pre ++ body b Ls → pre.length = b → (∀ l ∈ Ls, GoodT l) → X.length ≤ 1000000000000 →
    Ch X (offs b Ls) b (b + sumL Ls) ∧ ∀ l ∈ Ls, ∃ b' : Nat, (b' : Int) ∈ offs b Ls ∧ b ≤ b' ∧ Emb X b' l
  | [], b, pre, X, _, _, _, _ => ⟨Ch.nil b, fun l hl => by cases hl⟩
  | l :: ls, b, pre, X, hX, hb, hg, hs => by
    have hl := hg l (by simp)
    have hX1 : X = pre ++ (l.map (shN (b : Int)) ++ body (b + l.length) ls) := hX
    have he := emb_of hX1 hb hl hs
    have hX2 : X = (pre ++ l.map (shN (b : Int))) ++ body (b + l.length) ls := by rw [hX1, List.append_assoc]
    obtain ⟨h1, h2⟩ := laid ls (b + l.length) _ X hX2 (by rw [List.length_append, List.length_map, hb]) (fun l' hl' => hg l' (by simp [hl'])) hs
    have hin : inL l ((0 : Nat) : Int) = true := by rw [inL_iff]; have := hl.1; omega
    have e0 := he.kids hin
    have hxl := he.len
    have hl0 := hl.1
    refine ⟨?_, fun l' hl' => ?_⟩
    · have hc := hl.2.2.sh he
      have e1 : (((0 : Nat) : Int) + (b : Int)) = (b : Int) := by omega
      rw [e1] at e0
      rw [← e0.1, show 0 + 1 + b = b + 1 by omega, show l.length + b = b + l.length by omega] at hc
      refine Ch.cons (m := b + l.length) (by omega) ?_ hc ?_
      · have := fits_sh he hin
        rw [e1] at this
        rw [this]; exact hl.2.1
      · rw [sumL_cons, show b + (l.length + sumL ls) = b + l.length + sumL ls by omega]; exact h1
    · rcases List.mem_cons.1 hl' with rfl | hl'
      · exact ⟨b, by simp [offs], Nat.le_refl _, he⟩
      · obtain ⟨b', h3, h4, h5⟩ := h2 l' hl'
        exact ⟨b', by simp [offs, h3], by omega, h5⟩
section
variable {y : Nd} {Ls : List (List Nd)}
theorem mk_root (hg : ∀ l ∈ Ls, GoodT l) : (nd (mkL y Ls) ((0 : Nat) : Int)) = ⟨y.k, y.x, y.m, offs 1 Ls, y.p⟩ := by
  rw [mkL_form (fun l hl => good_pos (hg l hl)), nd_nat]; rfl
theorem mk_laid (hg : ∀ l ∈ Ls, GoodT l) (hs : sumL Ls ≤ 1000000) : Ch (mkL y Ls) (offs 1 Ls) 1 (mkL y Ls).length ∧ ∀ l ∈ Ls, ∃ b : Nat, (b : Int) ∈ offs 1 Ls ∧ 1 ≤ b ∧ Emb (mkL y Ls) b l := by
  have hp : ∀ l ∈ Ls, l.length ≠ 0 := fun l hl => good_pos (hg l hl)
  have := laid Ls 1 [⟨y.k, y.x, y.m, offs 1 Ls, y.p⟩] (mkL y Ls) (mkL_form hp) rfl hg (by rw [mkL_len hp]; omega)
  rw [mkL_len hp, Nat.add_comm]
  exact this
/-- What is made of good kids is good just if the root fits. -/
theorem mk_good (hg : ∀ l ∈ Ls, GoodT l) (hs : sumL Ls ≤ 1000000) (hf : fitsB (mkL y Ls) ((0 : Nat) : Int) = true) : GoodT (mkL y Ls) := by
  have h := (mk_laid (y := y) hg hs).1
  refine ⟨?_, hf, ?_⟩
  · rw [mkL_len (fun l hl => good_pos (hg l hl))]; omega
  · rw [mk_root hg]; exact h
theorem mk_chk (hg : ∀ l ∈ Ls, GoodT l) (hs : sumL Ls ≤ 1000000) : chk (mkL y Ls) = (-1, 0) ∨ chk (mkL y Ls) = (0, 7) := by
  rcases Bool.eq_false_or_eq_true (fitsB (mkL y Ls) ((0 : Nat) : Int)) with hf | hf
  · exact .inl (chk_good (mk_good hg hs hf))
  · exact .inr (chk_root _ (by rw [mkL_len (fun l hl => good_pos (hg l hl))]; omega) hf)
/-- A List over good kids is good. -/
theorem list_good (hg : ∀ l ∈ Ls, GoodT l) (hs : sumL Ls ≤ 1000000) : GoodT (mkL ⟨2, ⟨#[]⟩, 0, [], 0⟩ Ls) := by
  refine mk_good hg hs ?_
  have h := (mk_laid (y := ⟨2, ⟨#[]⟩, 0, [], 0⟩) hg hs).1
  have hk : ∀ k ∈ offs 1 Ls, inL (mkL ⟨2, ⟨#[]⟩, 0, [], 0⟩ Ls) k = true := fun k hk => by
    obtain ⟨j, rfl, h1, h2⟩ := h.kid k hk
    rw [inL_iff]; omega
  generalize hX : mkL ⟨2, ⟨#[]⟩, 0, [], 0⟩ Ls = X at *
  have hr : nd X ((0 : Nat) : Int) = ⟨2, ⟨#[]⟩, 0, offs 1 Ls, 0⟩ := by rw [← hX]; exact mk_root hg
  unfold fitsB kidsP
  rw [hr]
  have e1 : saidB ⟨2, ⟨#[]⟩, 0, offs 1 Ls, 0⟩ = true := by rfl
  have e2 : tab 2 = some ([anyP], true) := by rfl
  have e3 : (offs 1 Ls).all (inL X) = true := List.all_eq_true.2 hk
  rw [e1]
  show (true && ((offs 1 Ls).all (inL X) && _)) = true
  rw [e3]
  show (true && (true && (if (2 : Int) = 12 then _ else if (2 : Int) = 87 then _ else match tab 2 with | none => false | some (ps, many) => _))) = true
  rw [if_neg (by decide), if_neg (by decide), e2]
  show (true && (true && ((true || _) && eachP X [anyP] 0 (offs 1 Ls) && (!((2 : Int) == 61) || _ || _)))) = true
  rw [eachP_one]
  have e4 : (offs 1 Ls).all (anyP X) = true := List.all_eq_true.2 (fun k _ => rfl)
  rw [e4]; rfl
end
/-! ### how deep -/
theorem par {l : List Nd} (h : GoodT l) {x : Nat} (h0 : 0 < x) (hx : x < l.length) : ∃ y, y < x ∧ (x : Int) ∈ (nd l y).ks := by
  have hpar : ∀ {ks : List Int} {a e : Nat}, Ch l ks a e → ∀ x, a ≤ x → x < e → (x : Int) ∈ ks ∨ ∃ y, a ≤ y ∧ y < x ∧ (x : Int) ∈ (nd l y).ks := by
    intro ks a e hc
    induction hc with
    | nil a => intro x h1 h2; omega
    | @cons ks a m e h0 hf h1 h2 ih1 ih2 =>
      intro x hx hx2
      rcases Nat.lt_or_ge x m with hm | hm
      · rcases Nat.eq_or_lt_of_le hx with rfl | hx3
        · exact .inl (by simp)
        · rcases ih1 x hx3 hm with h5 | ⟨y, y1, y2, y3⟩
          · exact .inr ⟨a, Nat.le_refl _, hx3, h5⟩
          · exact .inr ⟨y, by omega, y2, y3⟩
      · rcases ih2 x hm hx2 with h5 | ⟨y, y1, y2, y3⟩
        · exact .inl (by simp [h5])
        · have := h1.le
          exact .inr ⟨y, by omega, y2, y3⟩
  rcases hpar h.2.2 x h0 hx with h5 | ⟨y, y1, y2, y3⟩
  · exact ⟨0, h0, h5⟩
  · exact ⟨y, y2, y3⟩
theorem dp_emb {X l : List Nd} {b : Nat} (hX : GoodT X) (hl : GoodT l) (he : Emb X b l) {d : Int} (hb : dp X b = d) : ∀ n j, j ≤ n → j < l.length → dp X (b + j) = dp l j + d := by
  intro n
  induction n with
  | zero => intro j hj hl2; obtain rfl : j = 0 := by omega
            rw [dp_zero hl, Nat.add_zero, hb]; omega
  | succ n ih =>
    intro j hj hl2
    rcases Nat.eq_zero_or_pos j with rfl | h0
    · rw [dp_zero hl, Nat.add_zero, hb]; omega
    · obtain ⟨p, hp, hk⟩ := par hl h0 hl2
      have h1 := ih p (by omega) (by omega)
      have hlen := he.len
      have h2 : ((b + j : Nat) : Int) ∈ (nd X ((b + p : Nat) : Int)).ks := by
        rw [he.ks (by omega : p < l.length)]
        exact List.mem_map.2 ⟨(j : Int), hk, by omega⟩
      rw [dp_kid hX (by omega : b + p < X.length) h2, h1, dp_kid hl (by omega : p < l.length) hk]
      omega
theorem maxD_ge (D : List Int) : ∀ q, 0 ≤ maxD D q ∧ ∀ j, j < q → D.getD j 0 ≤ maxD D q
  | 0 => ⟨Int.le_refl _, fun j hj => by omega⟩
  | q + 1 => by
    obtain ⟨h1, h2⟩ := maxD_ge D q
    have e : maxD D (q + 1) = max (maxD D q) (D.getD q 0) := rfl
    rw [e]
    refine ⟨by omega, fun j hj => ?_⟩
    rcases Nat.lt_or_ge j q with hjq | hjq
    · have := h2 j hjq; omega
    · obtain rfl : j = q := by omega
      omega
theorem maxD_is (D : List Int) : ∀ q, maxD D q = 0 ∨ ∃ j, j < q ∧ maxD D q = D.getD j 0
  | 0 => .inl rfl
  | q + 1 => by
    have e : maxD D (q + 1) = max (maxD D q) (D.getD q 0) := rfl
    rw [e]
    rcases Int.le_total (maxD D q) (D.getD q 0) with h | h
    · exact .inr ⟨q, by omega, by omega⟩
    · rcases maxD_is D q with h1 | ⟨j, h1, h2⟩
      · exact .inl (by omega)
      · exact .inr ⟨j, by omega, by omega⟩
theorem depth_good {l : List Nd} (h : GoodT l) : (∀ j, j < l.length → dp l j ≤ depthL l) ∧ (∃ j, j < l.length ∧ depthL l = dp l j) ∧ 0 ≤ depthL l := by
  have e : depsL l = deepL l := by unfold depsL; rw [if_pos ((good_iff).2 h)]
  have hl := deepL_len l
  unfold depthL
  rw [e, hl]
  obtain ⟨h1, h2⟩ := maxD_ge (deepL l) l.length
  refine ⟨h2, ?_, h1⟩
  rcases maxD_is (deepL l) l.length with h3 | ⟨j, h3, h4⟩
  · refine ⟨0, h.1, ?_⟩
    rw [h3, dp_zero h]
  · exact ⟨j, h3, h4⟩
/-- The deepest of some trees; -1, if there is none. -/
def deepest : List (List Nd) → Int → Int
  | [], d => d
  | l :: ls, d => deepest ls (max d (depthL l))
theorem deepest_ge : ∀ (Ls : List (List Nd)) (d : Int), d ≤ deepest Ls d ∧ ∀ l ∈ Ls, depthL l ≤ deepest Ls d
  | [], d => ⟨Int.le_refl _, fun l hl => by cases hl⟩
  | l :: ls, d => by
    obtain ⟨h1, h2⟩ := deepest_ge ls (max d (depthL l))
    have e : deepest (l :: ls) d = deepest ls (max d (depthL l)) := rfl
    rw [e]
    refine ⟨by omega, fun l' hl' => ?_⟩
    rcases List.mem_cons.1 hl' with rfl | hl'
    · omega
    · exact h2 l' hl'
theorem deepest_is : ∀ (Ls : List (List Nd)) (d : Int), deepest Ls d = d ∨ ∃ l ∈ Ls, deepest Ls d = depthL l
  | [], d => .inl rfl
  | l :: ls, d => by
    have e : deepest (l :: ls) d = deepest ls (max d (depthL l)) := rfl
    rw [e]
    rcases deepest_is ls (max d (depthL l)) with h | ⟨l', h1, h2⟩
    · rcases Int.le_total d (depthL l) with h3 | h3
      · exact .inr ⟨l, by simp, by omega⟩
      · exact .inl (by omega)
    · exact .inr ⟨l', by simp [h1], h2⟩
theorem mk_cover : ∀ (Ls : List (List Nd)) (b : Nat) (pre X : List Nd), X = pre ++ body b Ls → pre.length = b → (∀ l ∈ Ls, GoodT l) → X.length ≤ 1000000000000 →
    ∀ x, b ≤ x → x < b + sumL Ls → ∃ l ∈ Ls, ∃ b' j : Nat, x = b' + j ∧ j < l.length ∧ (b' : Int) ∈ offs b Ls ∧ Emb X b' l
  | [], b, pre, X, _, _, _, _ => fun x h1 h2 => by simp [sumL] at h2; omega
  | l :: ls, b, pre, X, hX, hb, hg, hs => fun x h1 h2 => by
    have hl := hg l (by simp)
    have hX1 : X = pre ++ (l.map (shN (b : Int)) ++ body (b + l.length) ls) := hX
    have he := emb_of hX1 hb hl hs
    have hX2 : X = (pre ++ l.map (shN (b : Int))) ++ body (b + l.length) ls := by rw [hX1, List.append_assoc]
    rw [sumL_cons] at h2
    rcases Nat.lt_or_ge x (b + l.length) with h3 | h3
    · exact ⟨l, by simp, b, x - b, by omega, by omega, by simp [offs], he⟩
    · obtain ⟨l', h4, b', j, h5, h6, h7, h8⟩ := mk_cover ls (b + l.length) _ X hX2 (by rw [List.length_append, List.length_map, hb]) (fun l' hl' => hg l' (by simp [hl'])) hs x h3 (by omega)
      exact ⟨l', by simp [h4], b', j, h5, h6, by simp [offs, h7], h8⟩
/-- What is made is one deeper than the deepest. -/
theorem mk_depth {y : Nd} {Ls : List (List Nd)} (hg : ∀ l ∈ Ls, GoodT l) (hs : sumL Ls ≤ 1000000) (hX : GoodT (mkL y Ls)) : depthL (mkL y Ls) = deepest Ls (-1) + 1 := by
  have hp : ∀ l ∈ Ls, l.length ≠ 0 := fun l hl => good_pos (hg l hl)
  have hlen := mkL_len (y := y) hp
  have hform := mkL_form (y := y) hp
  have hroot := mk_root (y := y) hg
  have hlaid := (mk_laid (y := y) hg hs).2
  have hcov := mk_cover Ls 1 [⟨y.k, y.x, y.m, offs 1 Ls, y.p⟩] (mkL y Ls) hform rfl hg (by rw [hlen]; omega)
  generalize mkL y Ls = X at *
  obtain ⟨d1, ⟨j0, d2, d3⟩, d4⟩ := depth_good hX
  obtain ⟨p1, p2⟩ := deepest_ge Ls (-1)
  have hoff : ∀ b : Nat, (b : Int) ∈ offs 1 Ls → dp X b = 1 := fun b hb => by
    have := dp_kid hX hX.1 (n := 0) (j := b) (by rw [hroot]; exact hb)
    rw [this, dp_zero hX]; rfl
  have le : depthL X ≤ deepest Ls (-1) + 1 := by
    rcases Nat.eq_zero_or_pos j0 with rfl | h0
    · rw [d3, dp_zero hX]; omega
    · obtain ⟨l, hl, b, j, rfl, h6, h7, h8⟩ := hcov j0 h0 (by omega)
      have := dp_emb hX (hg l hl) h8 (hoff b h7) j j (Nat.le_refl _) h6
      rw [d3, this]
      have h9 := (depth_good (hg l hl)).1 j h6
      have := p2 l hl
      omega
  have ge : deepest Ls (-1) + 1 ≤ depthL X := by
    rcases deepest_is Ls (-1) with h | ⟨l, hl, h⟩
    · omega
    · obtain ⟨b, h1, h2, h3⟩ := hlaid l hl
      obtain ⟨_, ⟨j, h4, h5⟩, _⟩ := depth_good (hg l hl)
      have := dp_emb hX (hg l hl) h3 (hoff b h1) j j (Nat.le_refl _) h4
      have h6 := d1 (b + j) (by have := h3.len; omega)
      omega
  omega
end
end Go.Proofs.YtpkdhciokiomlaaGreatDoor
