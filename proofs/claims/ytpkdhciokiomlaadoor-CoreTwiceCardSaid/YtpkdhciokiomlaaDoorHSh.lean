/- Plain: a tree that lies within another one, moved: what fits there fits here. No program in sight. -/
import Derived.Test.YtpkdhciokiomlaaDoorHBZ13
import Derived.Test.YtpkdhciokiomlaaDoorHBZ7
import Derived.Test.YtpkdhciokiomlaaDoorHK10
namespace Go.Proofs.YtpkdhciokiomlaaDoor
set_option linter.unusedVariables false
set_option linter.unusedSimpArgs false
set_option linter.unnecessarySimpa false
open Go.RowKit
/-- The nodes of l stand in X from b on, moved along; the kids of each stand behind it. -/
structure Emb (X : List Nd) (b : Nat) (l : List Nd) : Prop where
  at_ : ∀ j, j < l.length → nd X ((b + j : Nat) : Int) = shN b (nd l j)
  len : b + l.length ≤ X.length
  kid : ∀ j, j < l.length → ∀ k ∈ (nd l j).ks, ∃ i : Nat, k = (i : Int) ∧ j < i ∧ i < l.length
  small : X.length ≤ 1000000000000
section
variable {X l : List Nd} {b : Nat}
theorem shN_k (z : Int) (y : Nd) : (shN z y).k = y.k := rfl
theorem shN_m (z : Int) (y : Nd) : (shN z y).m = y.m := rfl
theorem Emb.ks (h : Emb X b l) {j : Nat} (hj : j < l.length) : (nd X ((b + j : Nat) : Int)).ks = (nd l j).ks.map (· + (b : Int)) := by
  rw [h.at_ j hj]
  show (nd l j).ks.map (fun k => IntKind.i64.wrap (k + b)) = _
  apply List.map_congr_left
  intro k hk
  obtain ⟨i, rfl, h1, h2⟩ := h.kid j hj k hk
  have := h.len
  have := h.small
  show IntKind.i64.wrap ((i : Int) + (b : Int)) = (i : Int) + b
  rw [IntKind.wrap_i64]; omega
theorem Emb.kids (h : Emb X b l) {k : Int} (hk : inL l k = true) : (nd X (k + b)).ks = (nd l k).ks.map (· + (b : Int)) ∧ (nd X (k + b)).k = (nd l k).k ∧ (nd X (k + b)).m = (nd l k).m ∧ (nd X (k + b)).x = (nd l k).x := by
  obtain ⟨j, rfl, hj⟩ := inL_nat hk
  have e : ((j : Int) + (b : Int)) = ((b + j : Nat) : Int) := by omega
  rw [e]
  exact ⟨h.ks hj, by rw [h.at_ j hj]; rfl, by rw [h.at_ j hj]; rfl, by rw [h.at_ j hj]; rfl⟩
theorem Emb.inX (h : Emb X b l) {k : Int} (hk : inL l k = true) : inL X (k + b) = true := by
  obtain ⟨j, rfl, hj⟩ := inL_nat hk
  have := h.len
  rw [inL_iff]; omega
theorem Emb.inKid (h : Emb X b l) {k : Int} (hk : inL l k = true) : ∀ j ∈ (nd l k).ks, inL l j = true := fun j hj => by
  obtain ⟨i, rfl, hi⟩ := inL_nat hk
  obtain ⟨a, rfl, h1, h2⟩ := h.kid i hi j hj
  rw [inL_iff]; omega
theorem all_map_eq {f g : Int → Bool} {ks : List Int} {z : Int} (h : ∀ k ∈ ks, f (k + z) = g k) : (ks.map (· + z)).all f = ks.all g := by
  rw [List.all_map]
  induction ks with
  | nil => rfl
  | cons a ks ih =>
    rw [List.all_cons, List.all_cons, ih (fun k hk => h k (by simp [hk]))]
    congr 1
    exact h a (by simp)
/-- A place that takes here what it takes there. -/
def Shf (p : Plc) : Prop := ∀ (X l : List Nd) (b : Nat), Emb X b l → ∀ k, inL l k = true → p X (k + b) = p l k
theorem shf_of (a : List Int) : Shf (ofP a) := fun X l b h k hk => by unfold ofP; rw [(h.kids hk).2.1]
theorem shf_any : Shf anyP := fun X l b h k hk => rfl
theorem shf_expr : Shf exprP := fun X l b h k hk => by unfold exprP; rw [(h.kids hk).2.1]
theorem shf_type : Shf typeP := fun X l b h k hk => by unfold typeP; rw [(h.kids hk).2.1]
theorem shf_stmt : Shf stmtP := fun X l b h k hk => by unfold stmtP; rw [(h.kids hk).2.1]
theorem shf_plain : Shf plainP := fun X l b h k hk => by unfold plainP; rw [(h.kids hk).2.1, (h.kids hk).2.2.1]
theorem shf_let : Shf letP := fun X l b h k hk => by unfold letP; rw [(h.kids hk).2.1, (h.kids hk).2.2.1]
theorem shf_exp : Shf expP := fun X l b h k hk => by unfold expP expK; rw [(h.kids hk).2.1, (h.kids hk).2.2.1]
theorem shf_or {p q : Plc} (hp : Shf p) (hq : Shf q) : Shf (orP p q) := fun X l b h k hk => by unfold orP; rw [hp X l b h k hk, hq X l b h k hk]
theorem shf_rows {p : Plc} (hp : Shf p) : Shf (rowsP p) := fun X l b h k hk => by
  unfold rowsP
  rw [(h.kids hk).2.1, (h.kids hk).1, all_map_eq (g := fun j => inL l j && p l j) (fun j hj => by
    have hj2 := h.inKid hk j hj
    rw [h.inX hj2, hj2, hp X l b h j hj2])]
theorem shf_mem : Shf memP := fun X l b h k hk => by
  unfold memP
  rw [shf_rows (shf_of _) X l b h k hk, (h.kids hk).1]
  congr 2
  unfold ctorsB
  rw [List.filter_map, List.length_map]
  have : ((nd l k).ks.filter ((fun j => (nd X j).k == 46) ∘ (· + (b : Int)))) = (nd l k).ks.filter (fun j => (nd l j).k == 46) := by
    apply List.filter_congr
    intro j hj
    show ((nd X (j + b)).k == 46) = _
    rw [(h.kids (h.inKid hk j hj)).2.1]
  rw [this]
theorem path_sh (h : Emb X b l) : ∀ f f' j, l.length - j ≤ f → l.length - j ≤ f' → j < l.length → pathIn X f ((j : Int) + b) = pathIn l f' j
  | 0, _, j, h1, _, hj => by omega
  | _ + 1, 0, j, _, h1, hj => by omega
  | f + 1, f' + 1, j, h1, h2, hj => by
    have hin : inL l (j : Int) = true := by rw [inL_iff]; omega
    obtain ⟨e1, e2, _, _⟩ := h.kids hin
    unfold pathIn
    rw [e2]
    by_cases hk : (nd l (j : Int)).k = 29
    · rw [if_pos hk, if_pos hk, e1]
      have hkd := h.kid j hj
      rcases hks : (nd l (j : Int)).ks with _ | ⟨a, _ | ⟨a2, l2⟩⟩
      · rfl
      · obtain ⟨i, rfl, h3, h4⟩ := hkd a (by rw [hks]; simp)
        have hi : inL l (i : Int) = true := by rw [inL_iff]; omega
        show (inL X ((i : Int) + b) && pathIn X f ((i : Int) + b)) = (inL l (i : Int) && pathIn l f' i)
        rw [h.inX hi, hi, path_sh h f f' i (by omega) (by omega) h4]
      · rfl
    · rw [if_neg hk, if_neg hk]
theorem shf_path : Shf pathP := fun X l b h k hk => by
  obtain ⟨j, rfl, hj⟩ := inL_nat hk
  unfold pathP
  have := h.len
  exact path_sh h _ _ j (by omega) (by omega) hj
theorem each_one {p : Plc} (hp : Shf p) : ∀ q ∈ [p], Shf q := fun q hq => by simp at hq; subst hq; exact hp
theorem each_cons {p : Plc} {ps : List Plc} (hp : Shf p) (h : ∀ q ∈ ps, Shf q) : ∀ q ∈ p :: ps, Shf q := fun q hq => by
  rcases List.mem_cons.1 hq with rfl | hq
  · exact hp
  · exact h q hq
theorem each_nil : ∀ q ∈ ([] : List Plc), Shf q := fun q hq => by cases hq
set_option maxRecDepth 100000 in
theorem shf_tab (k : Int) : ∀ x, tab k = some x → ∀ p ∈ x.1, Shf p := by
  unfold tab
  repeat' (first
    | refine ite_some (Q := fun x : List Plc × Bool => ∀ p ∈ x.1, Shf p) ?_ ?_
    | refine leaf_some (Q := fun x : List Plc × Bool => ∀ p ∈ x.1, Shf p) ?_
    | exact leaf_none (Q := fun x : List Plc × Bool => ∀ p ∈ x.1, Shf p)
    | exact each_nil
    | refine each_cons ?_ ?_
    | exact shf_any
    | exact shf_expr
    | exact shf_type
    | exact shf_stmt
    | exact shf_plain
    | exact shf_let
    | exact shf_exp
    | exact shf_path
    | exact shf_mem
    | exact shf_of _
    | refine shf_rows ?_
    | refine shf_or ?_ ?_)
theorem each_sh (h : Emb X b l) {ps : List Plc} (hps : ∀ p ∈ ps, Shf p) : ∀ (i : Nat) (ks : List Int), (∀ k ∈ ks, inL l k = true) → eachP X ps i (ks.map (· + (b : Int))) = eachP l ps i ks
  | _, [], _ => rfl
  | i, k :: ks, hk => by
    show ((ps.getD (min i (ps.length - 1)) anyP) X (k + b) && eachP X ps (i + 1) (ks.map (· + (b : Int)))) = ((ps.getD (min i (ps.length - 1)) anyP) l k && eachP l ps (i + 1) ks)
    rw [each_sh h hps (i + 1) ks (fun k' hk' => hk k' (by simp [hk']))]
    congr 1
    have : Shf (ps.getD (min i (ps.length - 1)) anyP) := by
      rw [List.getD_eq_getElem?_getD]
      rcases hq : ps[min i (ps.length - 1)]? with _ | p
      · exact shf_any
      · exact hps p (List.mem_of_getElem? hq)
    exact this X l b h k (hk k (by simp))
theorem tmpl_sh (h : Emb X b l) : ∀ (i : Nat) (ks : List Int), (∀ k ∈ ks, inL l k = true) → tmplP X i (ks.map (· + (b : Int))) = tmplP l i ks
  | _, [], _ => rfl
  | i, k :: ks, hk => by
    show ((if i % 2 = 0 then (nd X (k + b)).k == 11 else exprK (nd X (k + b)).k) && tmplP X (i + 1) (ks.map (· + (b : Int)))) = ((if i % 2 = 0 then (nd l k).k == 11 else exprK (nd l k).k) && tmplP l (i + 1) ks)
    rw [tmpl_sh h (i + 1) ks (fun k' hk' => hk k' (by simp [hk'])), (h.kids (hk k (by simp))).2.1]
theorem getD_map_add (ks : List Int) (z : Int) (j : Nat) (hj : j < ks.length) : (ks.map (· + z)).getD j 0 = ks.getD j 0 + z := by simp [List.getD, hj]
theorem fits_sh (h : Emb X b l) {k : Int} (hk : inL l k = true) : fitsB X (k + b) = fitsB l k := by
  obtain ⟨e1, e2, e3, e4⟩ := h.kids hk
  have hin := h.inKid hk
  unfold fitsB saidB
  rw [e2, e3, e4]
  congr 1
  have hall : (nd l k).ks.all (inL l) = true := List.all_eq_true.2 hin
  have hall2 : ((nd l k).ks.map (· + (b : Int))).all (inL X) = true := by
    rw [all_map_eq (g := inL l) (fun j hj => by rw [h.inX (hin j hj), hin j hj])]; exact hall
  unfold kidsP
  rw [e1, e2, hall, hall2]
  congr 1
  by_cases h12 : (nd l k).k = 12
  · rw [if_pos h12, if_pos h12, tmpl_sh h 0 _ hin, List.length_map]
  · rw [if_neg h12, if_neg h12]
    by_cases h87 : (nd l k).k = 87
    · rw [if_pos h87, if_pos h87, List.length_map, all_map_eq (g := fun j => typeK (nd l j).k) (fun j hj => by rw [(h.kids (hin j hj)).2.1])]
    · rw [if_neg h87, if_neg h87]
      rcases ht : tab (nd l k).k with _ | ⟨ps, many⟩
      · rfl
      · have hps := shf_tab _ _ ht
        show ((many || decide (ps.length = ((nd l k).ks.map (· + (b : Int))).length)) && eachP X ps 0 ((nd l k).ks.map (· + (b : Int))) && _) = ((many || decide (ps.length = (nd l k).ks.length)) && eachP l ps 0 (nd l k).ks && _)
        rw [List.length_map, each_sh h hps 0 _ hin]
        by_cases h61 : (nd l k).k = 61
        · by_cases hl : ps.length = (nd l k).ks.length
          · have h3 : (nd l k).ks.length = 3 := by
              have e : tab 61 = some ([ofP [63], orP (ofP [62]) (ofP [1]), orP (ofP [63]) (ofP [1])], false) := by rfl
              rw [h61, e] at ht
              injection ht with ht
              injection ht with ha hb
              subst ha
              simpa using hl.symm
            have m1 : (nd l k).ks.getD 1 0 ∈ (nd l k).ks := by
              rw [show (nd l k).ks.getD 1 0 = (nd l k).ks[1]'(by omega) by rw [List.getD_eq_getElem?_getD, List.getElem?_eq_getElem (by omega)]; rfl]; exact List.getElem_mem _
            have m2 : (nd l k).ks.getD 2 0 ∈ (nd l k).ks := by
              rw [show (nd l k).ks.getD 2 0 = (nd l k).ks[2]'(by omega) by rw [List.getD_eq_getElem?_getD, List.getElem?_eq_getElem (by omega)]; rfl]; exact List.getElem_mem _
            rw [getD_map_add _ _ 1 (by omega), getD_map_add _ _ 2 (by omega), (h.kids (hin _ m1)).2.1, (h.kids (hin _ m2)).2.1]
          · have hm : many = false := by
              have e : tab 61 = some ([ofP [63], orP (ofP [62]) (ofP [1]), orP (ofP [63]) (ofP [1])], false) := by rfl
              rw [h61, e] at ht
              injection ht with ht
              injection ht with ha hb
              exact hb.symm
            rw [hm, decide_eq_false hl, Bool.or_self, Bool.false_and, Bool.false_and, Bool.false_and]
        · have e : ((nd l k).k == 61) = false := by simpa using h61
          rw [e]
          rfl
/-- What is laid out there is laid out here. -/
theorem Ch.sh (h : Emb X b l) {ks : List Int} {a e : Nat} (hc : Ch l ks a e) : Ch X (ks.map (· + (b : Int))) (a + b) (e + b) := by
  induction hc with
  | nil a => exact Ch.nil _
  | @cons ks a m e h0 hf h1 h2 ih1 ih2 =>
    have hin : inL l (a : Int) = true := by rw [inL_iff]; omega
    have e1 := (h.kids hin).1
    have hx := h.len
    rw [List.map_cons, show ((a : Int) + (b : Int)) = ((a + b : Nat) : Int) by omega]
    refine Ch.cons (m := m + b) (by omega) ?_ ?_ ih2
    · rw [show ((a + b : Nat) : Int) = (a : Int) + b by omega, fits_sh h hin, hf]
    · rw [show ((a + b : Nat) : Int) = (a : Int) + b by omega, e1, show a + b + 1 = a + 1 + b by omega]
      exact ih1
end
end Go.Proofs.YtpkdhciokiomlaaDoor
