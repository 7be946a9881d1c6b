/- Some texts of this claim, put together. -/
import Derived.Test.YtpkdhciokiomlaaDoorHBZ15
namespace Go.Proofs.YtpkdhciokiomlaaDoor
section
set_option linter.unusedVariables false
set_option linter.unusedSimpArgs false
set_option linter.unnecessarySimpa false
open Go.RowKit
theorem strip_step {L : List Nd} {f : Nat} {n : Int} (hk : ¬ ((nd L n).k = 33 ∨ (nd L n).k = 34)) : stripL L (f + 1) n = mkL (normN (nd L n)) (partsL (stepS L (stripL L f) (nd L n).k) 0 (nd L n).ks) := by
  show (if (nd L n).k = 33 ∨ (nd L n).k = 34 then _ else _) = _
  rw [if_neg hk]
theorem strip_bang {L : List Nd} {f : Nat} {n : Int} (hk : (nd L n).k = 33 ∨ (nd L n).k = 34) : stripL L (f + 1) n = stripL L f ((nd L n).ks.getD 0 0) := by
  show (if (nd L n).k = 33 ∨ (nd L n).k = 34 then _ else _) = _
  rw [if_pos hk]
/-- Beneath As and Bang: the node that is laid out. -/
theorem strip_form {L : List Nd} : ∀ (f n e : Nat), Sp L n e → e - n ≤ f → ∃ n' e' f' : Nat, Sp L n' e' ∧ e' - n' ≤ f' + 1 ∧ f' < f ∧ n ≤ n' ∧ e' ≤ e ∧ ¬ ((nd L n').k = 33 ∨ (nd L n').k = 34) ∧ stripL L f n = mkL (normN (nd L n')) (partsL (stepS L (stripL L f') (nd L n').k) 0 (nd L n').ks) ∧ ((nd L n).k = 33 ∨ (nd L n).k = 34 → exprK (nd L n').k = true) ∧ (¬ ((nd L n).k = 33 ∨ (nd L n).k = 34) → n' = n) := by
  intro f
  induction f with
  | zero => intro n e h hf; have := h.lt; omega
  | succ f ih =>
    intro n e h hf
    by_cases hk : (nd L n).k = 33 ∨ (nd L n).k = 34
    · have h0 := kid0 h.2.1 hk
      obtain ⟨j, m, e1, hS, e2, e3⟩ := kid_sp h h0
      have hx := bang_kid h.2.1 hk
      rw [e1] at hx
      obtain ⟨n', e', f', g1, g2, g3, g4, g5, g6, g7, g8, g9⟩ := ih j m hS (by have := h.lt; have := hS.lt; omega)
      refine ⟨n', e', f', g1, g2, by omega, by omega, by omega, g6, ?_, fun _ => ?_, fun h => absurd hk h⟩
      · rw [strip_bang hk, e1]; exact g7
      · by_cases hj : (nd L j).k = 33 ∨ (nd L j).k = 34
        · exact g8 hj
        · rw [g9 hj]; exact hx
    · exact ⟨n, e, f, h, hf, by omega, by omega, by omega, hk, strip_step hk, fun h => absurd h hk, fun _ => rfl⟩
theorem mk_k (y : Nd) (Ls : List (List Nd)) : (nd (mkL y Ls) ((0 : Nat) : Int)).k = y.k := rfl
theorem mk_m (y : Nd) (Ls : List (List Nd)) : (nd (mkL y Ls) ((0 : Nat) : Int)).m = y.m := rfl
theorem mk_x (y : Nd) (Ls : List (List Nd)) : (nd (mkL y Ls) ((0 : Nat) : Int)).x = y.x := rfl
theorem norm_k (y : Nd) : (normN y).k = y.k := by
  unfold normN
  split
  · rfl
  · split <;> rfl
theorem norm_x (y : Nd) : (normN y).x = y.x := by
  unfold normN
  split
  · rfl
  · split <;> rfl
theorem norm_m (y : Nd) (h : y.k ≠ 44 ∧ y.k ≠ 66) : (normN y).m = y.m := by unfold normN; rw [if_neg h.1, if_neg h.2]
/-- The kids of what is made: each stands where it is laid. -/
theorem laid_at : ∀ (Ls : List (List Nd)) (b : Nat) (pre X : List Nd), X = pre ++ body b Ls → pre.length = b → (∀ l ∈ Ls, GoodT l) → X.length ≤ 1000000000000 → ∀ q, q < Ls.length → ∃ b' : Nat, (offs b Ls).getD q 0 = (b' : Int) ∧ Emb X b' (Ls.getD q [])
  | [], _, _, _, _, _, _, _, q, hq => absurd hq (by simp)
  | l :: ls, b, pre, X, hX, hb, hg, hs, q, hq => by
    have hl := hg l (by simp)
    have hX1 : X = pre ++ (l.map (shN (b : Int)) ++ body (b + l.length) ls) := hX
    cases q with
    | zero => exact ⟨b, rfl, emb_of hX1 hb hl hs⟩
    | succ q =>
      have hX2 : X = (pre ++ l.map (shN (b : Int))) ++ body (b + l.length) ls := by rw [hX1, List.append_assoc]
      obtain ⟨b', h1, h2⟩ := laid_at ls (b + l.length) _ X hX2 (by rw [List.length_append, List.length_map, hb]) (fun l' hl' => hg l' (by simp [hl'])) hs q (by simpa using hq)
      exact ⟨b', by rw [← h1]; rfl, h2⟩
theorem mk_at {y : Nd} {Ls : List (List Nd)} (hg : ∀ l ∈ Ls, GoodT l) (hs : sumL Ls ≤ 1000000) (q : Nat) (hq : q < Ls.length) : ∃ b : Nat, (offs 1 Ls).getD q 0 = (b : Int) ∧ Emb (mkL y Ls) b (Ls.getD q []) := by
  have hp : ∀ l ∈ Ls, l.length ≠ 0 := fun l hl => good_pos (hg l hl)
  exact laid_at Ls 1 [⟨y.k, y.x, y.m, offs 1 Ls, y.p⟩] (mkL y Ls) (mkL_form hp) rfl hg (by rw [mkL_len hp]; omega) q hq
/-- A row of kids each of which leaves one part. -/
theorem partsL_map {P : Nat → Int → List (List Nd)} {F : Nat → List Nd} : ∀ (ks : List Int) (i : Nat), (∀ q, q < ks.length → P (i + q) (ks.getD q 0) = [F (i + q)]) → (partsL P i ks).length = ks.length ∧ ∀ q, q < ks.length → (partsL P i ks).getD q [] = F (i + q)
  | [], _, _ => ⟨rfl, fun q hq => absurd hq (by simp)⟩
  | y :: ks, i, h => by
    have h0 := h 0 (by simp)
    have h1 := partsL_map (P := P) (F := F) ks (i + 1) (fun q hq => by
      have := h (q + 1) (by simpa using hq)
      rw [show i + 1 + q = i + (q + 1) by omega]
      simpa using this)
    have e : partsL P i (y :: ks) = F i :: partsL P (i + 1) ks := by
      show P i y ++ partsL P (i + 1) ks = _
      rw [show P i y = [F i] by simpa using h0]
      rfl
    rw [e]
    refine ⟨by rw [List.length_cons, List.length_cons, h1.1], fun q hq => ?_⟩
    cases q with
    | zero => rfl
    | succ q =>
      rw [show i + (q + 1) = i + 1 + q by omega]
      exact h1.2 q (by simpa using hq)
theorem good_leaf (y : Nd) : GoodT [oneN y] := by
  refine ⟨by simp, ?_, ?_⟩
  · unfold oneN
    split <;> rfl
  · show Ch [oneN y] (oneN y).ks 1 1
    exact Ch.nil 1
/-- A part is an emptied place, or a kid that stays, stripped. -/
theorem part_is {L : List Nd} {g : Int → List Nd} {k : Int} {ks : List Int} {l : List Nd} (h : l ∈ partsL (stepS L g k) 0 ks) : (∃ y, l = [oneN y]) ∨ ∃ j ∈ ks, leftB L L.length j = false ∧ l = g j := by
  refine parts_mem (Q := fun l => (∃ y, l = [oneN y]) ∨ ∃ j ∈ ks, leftB L L.length j = false ∧ l = g j) ks 0 (fun i j hj l hl => ?_) l h
  unfold stepS at hl
  split at hl
  · simp at hl; exact .inl ⟨_, hl⟩
  · split at hl
    · cases hl
    · next hb => simp at hl; exact .inr ⟨j, hj, by simpa using hb, hl⟩
theorem part_row {L : List Nd} {g : Int → List Nd} {k : Int} {ks : List Int} {l : List Nd} (hk : rowK k = true) (h : l ∈ partsL (stepS L g k) 0 ks) : ∃ j ∈ ks, leftB L L.length j = false ∧ l = g j := by
  refine parts_mem (Q := fun l => ∃ j ∈ ks, leftB L L.length j = false ∧ l = g j) ks 0 (fun i j hj l hl => ?_) l h
  unfold stepS at hl
  rw [row_emptied hk] at hl
  rw [if_neg (by simp)] at hl
  split at hl
  · cases hl
  · next hb => simp at hl; exact ⟨j, hj, by simpa using hb, hl⟩
/-- The parts of a node that is no row: one for each kid. -/
theorem part_all {L : List Nd} {n : Nat} {g : Int → List Nd} (h : fitsB L n = true) (hl : leftB L L.length n = false) (hn : n < L.length) (hr : rowK (nd L n).k = false) :
    (partsL (stepS L g (nd L n).k) 0 (nd L n).ks).length = (nd L n).ks.length ∧ ∀ q, q < (nd L n).ks.length → (partsL (stepS L g (nd L n).k) 0 (nd L n).ks).getD q [] = if emptied (nd L n).k q = true then [oneN (nd L ((nd L n).ks.getD q 0))] else g ((nd L n).ks.getD q 0) := by
  have := partsL_map (P := stepS L g (nd L n).k) (F := fun q => if emptied (nd L n).k q = true then [oneN (nd L ((nd L n).ks.getD q 0))] else g ((nd L n).ks.getD q 0)) (nd L n).ks 0 (fun q hq => by
    rw [Nat.zero_add]
    have hs := step_stays h hl hn (row_not hr) q hq
    unfold stepS
    split
    · rfl
    · rw [if_neg (by rw [hs]; simp)])
  exact ⟨this.1, fun q hq => by rw [this.2 q hq, Nat.zero_add]⟩
end
section
set_option linter.unusedVariables false
set_option linter.unusedSimpArgs false
set_option linter.unnecessarySimpa false
open Go.RowKit
/-- All nodes nearer to the leaves leave good trees. -/
def GoodBelow (L : List Nd) (f : Nat) : Prop := ∀ f' n e : Nat, f' < f → Sp L n e → e - n ≤ f' → leftB L L.length n = false → GoodT (stripL L f' n)
/-- A place that takes what is stripped, if it took the node. -/
def Trn (p : Plc) : Prop := ∀ (L : List Nd) (f n e : Nat), L.length ≤ 1000000 → Sp L n e → e - n ≤ f → leftB L L.length n = false → GoodBelow L f → p L n = true → p (stripL L f n) ((0 : Nat) : Int) = true
theorem strip_k {L : List Nd} {f n e : Nat} (h : Sp L n e) (hf : e - n ≤ f) : (¬ ((nd L n).k = 33 ∨ (nd L n).k = 34) → (nd (stripL L f n) ((0 : Nat) : Int)).k = (nd L n).k ∧ (nd (stripL L f n) ((0 : Nat) : Int)).m = (normN (nd L n)).m) ∧ ((nd L n).k = 33 ∨ (nd L n).k = 34 → exprK (nd (stripL L f n) ((0 : Nat) : Int)).k = true) ∧ ¬ ((nd (stripL L f n) ((0 : Nat) : Int)).k = 33 ∨ (nd (stripL L f n) ((0 : Nat) : Int)).k = 34) := by
  obtain ⟨n', e', f', g1, g2, g3, g4, g5, g6, g7, g8, g9⟩ := strip_form f n e h hf
  rw [g7, mk_k, mk_m, norm_k]
  refine ⟨fun hk => ?_, g8, g6⟩
  rw [g9 hk]
  exact ⟨rfl, rfl⟩
theorem trn_of {a : List Int} (ha : a.contains 33 = false ∧ a.contains 34 = false) : Trn (ofP a) := fun L f n e _ h hf _ _ hp => by
  have hk : ¬ ((nd L n).k = 33 ∨ (nd L n).k = 34) := fun hk => by
    have hp2 : a.contains (nd L n).k = true := hp
    rcases hk with hk | hk <;> rw [hk] at hp2
    · rw [ha.1] at hp2; cases hp2
    · rw [ha.2] at hp2; cases hp2
  show a.contains _ = true
  rw [((strip_k h hf).1 hk).1]
  exact hp
theorem trn_any : Trn anyP := fun _ _ _ _ _ _ _ _ _ _ => rfl
theorem trn_expr : Trn exprP := fun L f n e _ h hf _ _ hp => by
  by_cases hk : (nd L n).k = 33 ∨ (nd L n).k = 34
  · exact (strip_k h hf).2.1 hk
  · show exprK _ = true
    rw [((strip_k h hf).1 hk).1]
    exact hp
theorem trn_type : Trn typeP := fun L f n e _ h hf _ _ hp => by
  have hp2 : typeK (nd L n).k = true := hp
  have hk : ¬ ((nd L n).k = 33 ∨ (nd L n).k = 34) := fun hk => by
    rcases hk with hk | hk <;> rw [hk] at hp2 <;> cases hp2
  show typeK _ = true
  rw [((strip_k h hf).1 hk).1]
  exact hp
theorem trn_stmt : Trn stmtP := fun L f n e _ h hf _ _ hp => by
  have hp2 : stmtK (nd L n).k = true := hp
  have hk : ¬ ((nd L n).k = 33 ∨ (nd L n).k = 34) := fun hk => by
    rcases hk with hk | hk <;> rw [hk] at hp2 <;> cases hp2
  show stmtK _ = true
  rw [((strip_k h hf).1 hk).1]
  exact hp
theorem trn_plain : Trn plainP := fun L f n e _ h hf _ _ hp => by
  have hp2 : ((nd L n).k == 66 && ((nd L n).m == 0 || (nd L n).m == 1)) = true := hp
  simp only [Bool.and_eq_true, Bool.or_eq_true, beq_iff_eq] at hp2
  obtain ⟨h1, h2⟩ := (strip_k h hf).1 (by omega)
  show (_ == 66 && (_ == 0 || _ == 1)) = true
  rw [h1, h2, hp2.1]
  unfold normN
  rw [if_neg (by omega), if_pos hp2.1]
  simp only
  rw [if_neg (by omega)]
  rfl
theorem trn_let : Trn letP := fun L f n e _ h hf _ _ hp => by
  have hp2 : ((nd L n).k == 40 && (nd L n).m == 0) = true := hp
  simp only [Bool.and_eq_true, beq_iff_eq] at hp2
  obtain ⟨h1, h2⟩ := (strip_k h hf).1 (by omega)
  show (_ == 40 && _ == 0) = true
  rw [h1, h2, norm_m _ (by omega), hp2.1, hp2.2]
  rfl
theorem exp_kind {y : Nd} (h : expK y = true) : y.k = 40 ∨ y.k = 41 ∨ y.k = 42 ∨ y.k = 47 ∨ y.k = 49 ∨ y.k = 51 ∨ y.k = 52 := by
  unfold expK at h
  split at h
  · omega
  · split at h
    · omega
    · simp only [Bool.or_eq_true, beq_iff_eq] at h
      omega
theorem trn_exp : Trn expP := fun L f n e _ h hf _ _ hp => by
  have hp2 : expK (nd L n) = true := hp
  have hk := exp_kind hp2
  obtain ⟨h1, h2⟩ := (strip_k h hf).1 (by omega)
  rw [norm_m _ (by omega)] at h2
  show expK _ = true
  unfold expK at hp2 ⊢
  rw [h1, h2]
  exact hp2
theorem trn_or {p q : Plc} (hp : Trn p) (hq : Trn q) : Trn (orP p q) := fun L f n e hL h hf hl hg ho => by
  rcases Bool.or_eq_true_iff.1 (show (p L n || q L n) = true from ho) with h1 | h1
  · exact Bool.or_eq_true_iff.2 (.inl (hp L f n e hL h hf hl hg h1))
  · exact Bool.or_eq_true_iff.2 (.inr (hq L f n e hL h hf hl hg h1))
theorem in0 {l : List Nd} (h : GoodT l) : inL l ((0 : Nat) : Int) = true := by rw [inL_iff]; have := h.1; omega
theorem emb0 {X l : List Nd} {b : Nat} {p : Plc} (hs : Shf p) (he : Emb X b l) (hl : GoodT l) : p X (b : Int) = p l ((0 : Nat) : Int) := by
  have := hs X l b he ((0 : Nat) : Int) (in0 hl)
  rw [show (((0 : Nat) : Int) + (b : Int)) = (b : Int) by omega] at this
  exact this
theorem offs_get {Ls : List (List Nd)} {b : Nat} {k : Int} (h : k ∈ offs b Ls) : ∃ q, q < Ls.length ∧ (offs b Ls).getD q 0 = k := by
  obtain ⟨q, hq, e⟩ := List.getElem_of_mem h
  rw [offs_len] at hq
  exact ⟨q, hq, by rw [List.getD_eq_getElem?_getD, List.getElem?_eq_getElem (by rw [offs_len]; exact hq), e]; rfl⟩
theorem getD_mem5 {Ls : List (List Nd)} {q : Nat} (hq : q < Ls.length) : Ls.getD q [] ∈ Ls := by
  rw [List.getD_eq_getElem?_getD, List.getElem?_eq_getElem hq]; exact List.getElem_mem hq
/-- The sum of a node's parts. -/
theorem parts_small {L : List Nd} {f n e : Nat} (hL : L.length ≤ 1000000) (h : Sp L n e) (hf : e - n ≤ f + 1) : sumL (partsL (stepS L (stripL L f) (nd L n).k) 0 (nd L n).ks) ≤ 1000000 := by
  obtain ⟨h1, h2, h3⟩ := h
  have hlt : n < e := by have := h3.le; omega
  have hle := h3.len (by omega)
  have := parts_sum h3 (P := stepS L (stripL L f) (nd L n).k) (fun i s m hs hm hS => by
    have hl := hS.lt
    unfold stepS
    split
    · simp [sumL]; omega
    · split
      · simp [sumL]
      · have h5 := strip_len f s m hS (by omega)
        simp [sumL]; omega) 0
  omega
/-- The parts of a node are good, if all that lies nearer to the leaves leaves good trees. -/
theorem parts_good {L : List Nd} {f f' n e : Nat} (hg : GoodBelow L f) (hff : f' < f) (h : Sp L n e) (hf : e - n ≤ f' + 1) : ∀ l ∈ partsL (stepS L (stripL L f') (nd L n).k) 0 (nd L n).ks, GoodT l := fun l hl => by
  rcases part_is hl with ⟨y, rfl⟩ | ⟨j, hj, hlj, rfl⟩
  · exact good_leaf y
  · obtain ⟨i, rfl, h1, h2⟩ := h.2.2.kid j hj
    obtain ⟨m, hS, hm⟩ := h.2.2.sub i h1 h2
    exact hg f' i m hff hS (by omega) hlj
theorem trn_rows {p : Plc} (hp : Trn p) (hs : Shf p) : Trn (rowsP p) := fun L f n e hL h hf hl hg ho => by
  obtain ⟨hk, hall⟩ := Bool.and_eq_true_iff.1 (show ((nd L n).k == 2 && (nd L n).ks.all fun j => inL L j && p L j) = true from ho)
  have hk2 : (nd L n).k = 2 := by simpa using hk
  obtain ⟨n', e', f', g1, g2, g3, g4, g5, g6, g7, g8, g9⟩ := strip_form f n e h hf
  obtain rfl := g9 (by omega)
  have hgd := parts_good hg g3 g1 g2
  have hsm := parts_small hL g1 g2
  have hmem := fun l (hl : l ∈ partsL (stepS L (stripL L f') (nd L n').k) 0 (nd L n').ks) => part_row (show rowK (nd L n').k = true by rw [hk2]; rfl) hl
  have hlay := (mk_laid (y := normN (nd L n')) hgd hsm).1
  rw [g7]
  show ((nd (mkL _ _) ((0 : Nat) : Int)).k == 2 && _) = true
  refine Bool.and_eq_true_iff.2 ⟨by rw [mk_k, norm_k, hk2]; rfl, ?_⟩
  rw [mk_root hgd]
  refine List.all_eq_true.2 fun k hk => ?_
  obtain ⟨a, rfl, ha1, ha2⟩ := hlay.kid k hk
  obtain ⟨q, hq, eq⟩ := offs_get hk
  obtain ⟨b, hb, he⟩ := mk_at (y := normN (nd L n')) hgd hsm q hq
  obtain rfl : a = b := by omega
  have hlm := getD_mem5 hq
  obtain ⟨j, hj, hlj, e3⟩ := hmem _ hlm
  have hgl := hgd _ hlm
  obtain ⟨i, rfl, h1, h2⟩ := g1.2.2.kid j hj
  obtain ⟨m, hS, hm⟩ := g1.2.2.sub i h1 h2
  have hpj := (Bool.and_eq_true_iff.1 (List.all_eq_true.1 hall (i : Int) hj)).2
  refine Bool.and_eq_true_iff.2 ⟨by rw [inL_iff]; omega, ?_⟩
  rw [emb0 hs he hgl, e3]
  exact hp L f' i m hL hS (by omega) hlj (fun f2 a b c => hg f2 a b (by omega)) hpj
end
end Go.Proofs.YtpkdhciokiomlaaDoor
