/- Some texts of this claim, put together. -/
import Derived.Test.YtpkdhciokiomlaaDoorHTw4
import Derived.Test.YtpkdhciokiomlaaDoorHPSp
namespace Go.Proofs.YtpkdhciokiomlaaDoor
section
set_option linter.unusedVariables false
set_option linter.unusedSimpArgs false
set_option linter.unnecessarySimpa false
open Go.RowKit
/-- Nothing of a node goes. -/
structure OwnN (L : List Nd) (j : Nat) : Prop where
  k : (nd L j).k ≠ 33 ∧ (nd L j).k ≠ 34 ∧ (nd L j).k ≠ 51 ∧ (nd L j).k ≠ 52
  n : normN (nd L j) = nd L j
  f : (nd L j).k = 44 → (nd L ((nd L j).ks.getD 1 0)).k ≠ 1
  e : ∀ q, q < (nd L j).ks.length → emptied (nd L j).k q = true → oneN (nd L ((nd L j).ks.getD q 0)) = nd L ((nd L j).ks.getD q 0)
theorem own_left {L : List Nd} (ho : ∀ j, j < L.length → OwnN L j) : ∀ (f n e : Nat), Sp L n e → leftB L f n = false := by
  intro f
  induction f with
  | zero => intro n e h; rfl
  | succ f ih =>
    intro n e h
    have hn := ho n h.1
    unfold leftB
    rw [if_neg (by have := hn.k; omega)]
    by_cases h50 : (nd L n).k = 50
    · rw [if_pos h50]
      have h1 := (export_kid h.2.1 h50).1
      obtain ⟨j, m, e1, hS, -, -⟩ := kid_sp h (q := 0) (by omega)
      rw [e1]
      exact ih j m hS
    · rw [if_neg h50]
      by_cases h44 : (nd L n).k = 44
      · rw [if_pos h44]
        simpa using hn.f h44
      · rw [if_neg h44]
theorem take_two5 {α : Type} (L : List α) {a m e : Nat} (h1 : a ≤ m) (h2 : m ≤ e) : (L.drop a).take (m - a) ++ (L.drop m).take (e - m) = (L.drop a).take (e - a) := by
  rw [show e - a = (m - a) + (e - m) by omega, List.take_add, List.drop_drop, show a + (m - a) = m by omega]
theorem one_bare {y : Nd} (h : oneN y = y) : y.ks = [] := by rw [← h]; rfl
theorem own_row {L : List Nd} {P : Nat → Int → List (List Nd)} {ks : List Int} {a e : Nat} (h : Ch L ks a e) :
    ∀ i, (∀ q (a' m : Nat), q < ks.length → ks.getD q 0 = (a' : Int) → a ≤ a' → m ≤ e → Sp L a' m → ∃ l : List Nd, P (i + q) (a' : Int) = [l] ∧ l.length = m - a' ∧ l.map (shN (a' : Int)) = (L.drop a').take (m - a')) →
    offs a (partsL P i ks) = ks ∧ body a (partsL P i ks) = (L.drop a).take (e - a) := by
  induction h with
  | nil a => intro i _; exact ⟨rfl, by simp [partsL, body]⟩
  | @cons ks a m e h0 hf h1 h2 _ ih =>
    intro i hP
    have l1 := h1.le
    have l2 := h2.le
    obtain ⟨l, e1, e2, e3⟩ := hP 0 a m (by simp) rfl (Nat.le_refl _) l2 ⟨h0, hf, h1⟩
    obtain ⟨i1, i2⟩ := ih (i + 1) (fun q a' m' hq hk ha hm hS => by
      have := hP (q + 1) a' m' (by simpa using hq) (by simpa using hk) (by omega) hm hS
      rw [show i + (q + 1) = i + 1 + q by omega] at this
      exact this)
    have hp : partsL P i ((a : Int) :: ks) = l :: partsL P (i + 1) ks := by
      show P i (a : Int) ++ partsL P (i + 1) ks = _
      rw [show P i (a : Int) = [l] from e1]
      rfl
    rw [hp]
    have hm : a + l.length = m := by rw [e2]; omega
    constructor
    · show (a : Int) :: offs (a + l.length) (partsL P (i + 1) ks) = _
      rw [hm, i1]
    · show l.map (shN (a : Int)) ++ body (a + l.length) (partsL P (i + 1) ks) = _
      rw [hm, i2, e3]
      exact take_two5 L (by omega) l2
theorem own_strip {L : List Nd} (hL : L.length ≤ 1000000) (hB : ∀ j : Int, (nd L j).ks.length ≤ 1000000) (ho : ∀ j, j < L.length → OwnN L j) : ∀ (f n e : Nat), Sp L n e → e - n ≤ f → (stripL L f n).map (shN (n : Int)) = (L.drop n).take (e - n) := by
  intro f
  induction f with
  | zero => intro n e h hf; have := h.lt; omega
  | succ f ih =>
    intro n e h hf
    have hn := ho n h.1
    have hk : ¬ ((nd L n).k = 33 ∨ (nd L n).k = 34) := by have := hn.k; omega
    have hlt := h.lt
    have hle := h.len
    have hok := parts_ok hB h hf
    rw [strip_step hk, hn.n, mk_two n (fun l hl => (hok.2 l hl).1) (by have := hok.1; omega)]
    have hrow := own_row (P := stepS L (stripL L f) (nd L n).k) h.2.2 0 (fun q a' m hq hka ha hm hS => by
      rw [Nat.zero_add]
      unfold stepS
      by_cases he : emptied (nd L n).k q = true
      · rw [if_pos he]
        have h1 := hn.e q hq he
        rw [hka] at h1
        rw [h1]
        have hb := one_bare h1
        have hS2 := hS.2.2
        rw [hb] at hS2
        have hma : m = a' + 1 := by cases hS2; rfl
        refine ⟨_, rfl, by rw [hma]; simp, ?_⟩
        rw [List.map_cons, List.map_nil, shN_bare _ _ hb, hma, show a' + 1 - a' = 1 by omega]
        have := nd_get hS.1
        rw [List.drop_eq_getElem_cons hS.1, List.take_succ_cons, List.take_zero]
        rw [List.getElem?_eq_getElem hS.1] at this
        injection this with this
        rw [this]
      · rw [if_neg he, if_neg (by rw [own_left ho L.length a' m hS]; simp)]
        have h1 := ih a' m hS (by omega)
        have hml := hS.len
        refine ⟨_, rfl, ?_, h1⟩
        have := congrArg List.length h1
        rw [List.length_map, List.length_take, List.length_drop] at this
        omega)
    rw [hrow.1, hrow.2]
    have h1 := nd_get h.1
    rw [List.getElem?_eq_getElem h.1] at h1
    injection h1 with h1
    rw [List.drop_eq_getElem_cons h.1, show e - n = (e - (n + 1)) + 1 by omega, List.take_succ_cons, h1]
/-- A good tree of which nothing goes is its own Strip. -/
theorem own_same {L : List Nd} (hL : L.length ≤ 1000000) (hB : ∀ j : Int, (nd L j).ks.length ≤ 1000000) (ho : ∀ j, j < L.length → OwnN L j) (hg : GoodT L) : stripL L L.length ((0 : Nat) : Int) = L := by
  have h1 := own_strip hL hB ho L.length 0 L.length hg (by omega)
  rw [strip_sh0 hL hB L.length 0 L.length hg (by omega)] at h1
  rw [h1]
  simp
end
section
set_option linter.unusedVariables false
set_option linter.unusedSimpArgs false
set_option linter.unnecessarySimpa false
open Go.RowKit
/-- A kind that is not for types, and stands in a place of its own. -/
def kindE (k : Int) : Prop := k < 80 ∧ k ≠ 67 ∧ k ≠ 48 ∧ k ≠ 50
def Cor (p : Plc) : Prop := ∀ (L : List Nd) (n : Int), p L n = true → kindE (nd L n).k ∧ ((nd L n).k = 2 → ∀ j ∈ (nd L n).ks, kindE (nd L j).k ∧ (nd L j).k ≠ 2)
theorem cor_of {l : List Int} (h : l.all (fun k => decide (k < 80) && !(k == 67) && !(k == 48) && !(k == 50) && !(k == 2)) = true) : Cor (ofP l) := fun L n hp => by
  have h1 : (nd L n).k ∈ l := by simpa [ofP] using hp
  have h2 := List.all_eq_true.1 h _ h1
  simp only [Bool.and_eq_true, decide_eq_true_eq, Bool.not_eq_true', beq_eq_false_iff_ne] at h2
  exact ⟨⟨h2.1.1.1.1, h2.1.1.1.2, h2.1.1.2, h2.1.2⟩, fun e => absurd e h2.2⟩
theorem cor_expr : Cor exprP := fun L n hp => by
  have h1 : exprK (nd L n).k = true := hp
  simp only [exprK, Bool.and_eq_true, decide_eq_true_eq] at h1
  exact ⟨by unfold kindE; omega, fun e => by omega⟩
theorem cor_stmt : Cor stmtP := fun L n hp => by
  have h1 : stmtK (nd L n).k = true := hp
  simp only [stmtK, Bool.or_eq_true, beq_iff_eq] at h1
  exact ⟨by unfold kindE; omega, fun e => by omega⟩
theorem cor_plain : Cor plainP := fun L n hp => by
  have h1 := (Bool.and_eq_true_iff.1 (show ((nd L n).k == 66 && _) = true from hp)).1
  have h2 : (nd L n).k = 66 := by simpa using h1
  exact ⟨by unfold kindE; omega, fun e => by omega⟩
theorem cor_let : Cor letP := fun L n hp => by
  have h1 := (Bool.and_eq_true_iff.1 (show ((nd L n).k == 40 && _) = true from hp)).1
  have h2 : (nd L n).k = 40 := by simpa using h1
  exact ⟨by unfold kindE; omega, fun e => by omega⟩
theorem cor_exp : Cor expP := fun L n hp => by
  have h1 := exp_kind (show expK (nd L n) = true from hp)
  exact ⟨by unfold kindE; omega, fun e => by omega⟩
theorem cor_path : Cor pathP := fun L n hp => by
  have h0 : pathIn L L.length n = true := hp
  have h1 : (nd L n).k = 29 ∨ (nd L n).k = 17 := by
    cases hf : L.length with
    | zero => rw [hf] at h0; cases h0
    | succ f =>
      rw [hf] at h0
      unfold pathIn at h0
      by_cases h29 : (nd L n).k = 29
      · exact .inl h29
      · rw [if_neg h29] at h0; exact .inr (by simpa using h0)
  exact ⟨by unfold kindE; omega, fun e => by omega⟩
theorem cor_or {p q : Plc} (hp : Cor p) (hq : Cor q) : Cor (orP p q) := fun L n h => by
  rcases Bool.or_eq_true_iff.1 (show (p L n || q L n) = true from h) with h | h
  · exact hp L n h
  · exact hq L n h
theorem cor_rows {p : Plc} (hp : ∀ L n, p L n = true → kindE (nd L n).k ∧ (nd L n).k ≠ 2) : Cor (rowsP p) := fun L n h => by
  obtain ⟨hk, hall⟩ := Bool.and_eq_true_iff.1 (show ((nd L n).k == 2 && (nd L n).ks.all fun j => inL L j && p L j) = true from h)
  have hk2 : (nd L n).k = 2 := by simpa using hk
  exact ⟨by unfold kindE; omega, fun _ j hj => hp L j (Bool.and_eq_true_iff.1 (List.all_eq_true.1 hall j hj)).2⟩
theorem not_list {p : Plc} (hp : Cor p) (h2 : ∀ L n, p L n = true → (nd L n).k ≠ 2) : ∀ L n, p L n = true → kindE (nd L n).k ∧ (nd L n).k ≠ 2 := fun L n h => ⟨(hp L n h).1, h2 L n h⟩
theorem crow_of {l : List Int} (h : l.all (fun k => decide (k < 80) && !(k == 67) && !(k == 48) && !(k == 50) && !(k == 2)) = true) : Cor (rowsP (ofP l)) := cor_rows (not_list (cor_of h) (fun L n hp => by
  have h1 : (nd L n).k ∈ l := by simpa [ofP] using hp
  have h2 := List.all_eq_true.1 h _ h1
  simp only [Bool.and_eq_true, decide_eq_true_eq, Bool.not_eq_true', beq_eq_false_iff_ne] at h2
  exact h2.2))
theorem crow_expr : Cor (rowsP exprP) := cor_rows (not_list cor_expr (fun L n hp => by
  have h1 : exprK (nd L n).k = true := hp
  simp only [exprK, Bool.and_eq_true, decide_eq_true_eq] at h1
  omega))
theorem crow_plain : Cor (rowsP plainP) := cor_rows (not_list cor_plain (fun L n hp => by
  have h1 := (Bool.and_eq_true_iff.1 (show ((nd L n).k == 66 && _) = true from hp)).1
  have h2 : (nd L n).k = 66 := by simpa using h1
  omega))
theorem cor_mem : Cor memP := fun L n hp => crow_of (l := [44, 45, 46]) (by decide) L n (Bool.and_eq_true_iff.1 (show (rowsP (ofP [44, 45, 46]) L n && _) = true from hp)).1
set_option maxRecDepth 100000 in
set_option maxHeartbeats 2000000 in
theorem tab_cor (k : Int) : ∀ x, tab k = some x → (k < 80 ∧ k ≠ 67 ∧ k ≠ 2 ∧ k ≠ 47 ∧ k ≠ 49 ∧ k ≠ 33 ∧ k ≠ 51 ∧ k ≠ 52) → ∀ q, emptied k q = false → (x.2 = true ∨ q < x.1.length) → Cor (x.1.getD (min q (x.1.length - 1)) anyP) := by
  unfold tab
  repeat' (refine ite_by (Q := fun x : List Plc × Bool => (k < 80 ∧ k ≠ 67 ∧ k ≠ 2 ∧ k ≠ 47 ∧ k ≠ 49 ∧ k ≠ 33 ∧ k ≠ 51 ∧ k ≠ 52) → ∀ q, emptied k q = false → (x.2 = true ∨ q < x.1.length) → Cor (x.1.getD (min q (x.1.length - 1)) anyP)) (fun hc => ?_) (fun hc => ?_))
  all_goals first
    | exact none_by
    | (refine some_by (Q := fun x : List Plc × Bool => (k < 80 ∧ k ≠ 67 ∧ k ≠ 2 ∧ k ≠ 47 ∧ k ≠ 49 ∧ k ≠ 33 ∧ k ≠ 51 ∧ k ≠ 52) → ∀ q, emptied k q = false → (x.2 = true ∨ q < x.1.length) → Cor (x.1.getD (min q (x.1.length - 1)) anyP)) ?_
       intro hk q he hq
       first
         | (exfalso; omega)
         | (simp only [List.length_cons, List.length_nil, Bool.false_eq_true, false_or, Nat.zero_add, Nat.reduceAdd, Nat.add_zero, Nat.sub_self, Nat.min_zero, Nat.reduceSub, Nat.not_lt_zero] at hq ⊢
            first
              | exact cor_stmt | exact cor_expr | exact cor_of (by decide)
              | (rcases (show q = 0 ∨ q = 1 ∨ q = 2 ∨ q = 3 by omega) with rfl | rfl | rfl | rfl
                 all_goals first
                   | (exfalso; omega)
                   | (simp only [Nat.zero_min, Nat.min_def, Nat.reduceLeDiff, if_true, if_false, List.getD_cons_zero, List.getD_cons_succ, Nat.le_refl]
                      first
                        | exact cor_expr | exact cor_path | exact cor_mem | exact crow_expr | exact crow_plain | exact cor_exp
                        | exact cor_of (by decide) | exact crow_of (by decide)
                        | exact cor_or cor_expr (cor_of (by decide)) | exact cor_or (cor_of (by decide)) cor_expr
                        | exact cor_or (cor_of (by decide)) (cor_of (by decide)) | exact cor_or cor_let (cor_of (by decide)))
                   | (exfalso
                      unfold emptied at he
                      repeat' (split at he)
                      all_goals first | omega | (simp at he)))
              | skip))
end
section
set_option linter.unusedVariables false
set_option linter.unusedSimpArgs false
set_option linter.unnecessarySimpa false
open Go.RowKit
/-- Makes a node something when the program runs? -/
def mkN (y : Nd) : Prop := y.k = 47 ∨ y.k = 49 ∨ (y.k = 66 ∧ y.m ≠ 0)
/-- All nodes of a Strip: nothing goes; no kind for types; what stands in an Enum or a Namespace alone, beside it. -/
structure Clean (S : List Nd) (r : Int) : Prop where
  own : ∀ j, j < S.length → OwnN S j
  low : ∀ j : Nat, j < S.length → (nd S j).k < 80 ∧ (nd S j).k ≠ 67
  par : (∃ j : Nat, j < S.length ∧ ((nd S j).k = 48 ∨ (nd S j).k = 50)) → (∃ j : Nat, j < S.length ∧ mkN (nd S j)) ∨ r = 48 ∨ r = 50
theorem norm_norm (y : Nd) : normN (normN y) = normN y := by
  by_cases h44 : y.k = 44
  · have e : normN y = { y with m := 0 } := by unfold normN; rw [if_pos h44]
    rw [e]
    unfold normN
    rw [if_pos h44]
  · by_cases h66 : y.k = 66
    · have e : normN y = { y with m := if 2 ≤ y.m then 2 else 0 } := by unfold normN; rw [if_neg h44, if_pos h66]
      rw [e]
      unfold normN
      rw [if_neg h44, if_pos h66]
      simp only
      split <;> rfl
    · have e : normN y = y := by unfold normN; rw [if_neg h44, if_neg h66]
      rw [e, e]
theorem norm_of {y z : Nd} (hk : z.k = y.k) (hm : z.m = y.m) (h : normN y = y) : normN z = z := by
  obtain ⟨k, x, m, ks, p⟩ := z
  simp only at hk hm
  subst hk
  subst hm
  unfold normN at h ⊢
  by_cases h44 : y.k = 44
  · rw [if_pos h44] at h ⊢
    have e := congrArg Nd.m h
    simp only at e
    rw [← e]
  · rw [if_neg h44] at h ⊢
    by_cases h66 : y.k = 66
    · rw [if_pos h66] at h ⊢
      have e := congrArg Nd.m h
      simp only at e
      rw [e]
    · rw [if_neg h66]
theorem own_emb {X l : List Nd} {b i : Nat} (he : Emb X b l) (hl : GoodT l) (hi : i < l.length) (h : OwnN l i) : OwnN X (b + i) := by
  have hin : inL l (i : Int) = true := by rw [inL_iff]; omega
  obtain ⟨e1, e2, e3, e4⟩ := he.kids hin
  rw [show ((i : Int) + (b : Int)) = ((b + i : Nat) : Int) by omega] at e1 e2 e3 e4
  have hkd : ∀ q, q < (nd l i).ks.length → inL l ((nd l i).ks.getD q 0) = true := fun q hq => by
    refine he.inKid hin _ ?_
    rw [List.getD_eq_getElem?_getD, List.getElem?_eq_getElem hq]; exact List.getElem_mem hq
  refine ⟨by rw [e2]; exact h.k, norm_of e2 e3 h.n, fun h44 => ?_, fun q hq hem => ?_⟩
  · rw [e2] at h44
    have hf := h.f h44
    have hq : 1 < (nd l i).ks.length := by
      obtain ⟨m, hS, -⟩ := (Ch.cons hl.1 hl.2.1 hl.2.2 (Ch.nil _) : Ch l [((0 : Nat) : Int)] 0 l.length).sub i (by omega) (by omega)
      have := field_kids hS.2.1 h44
      omega
    rw [e1, getD_map_add _ _ 1 hq, (he.kids (hkd 1 hq)).2.1]
    exact hf
  · rw [e1, List.length_map] at hq
    rw [e2] at hem
    have ho := h.e q hq hem
    rw [e1, getD_map_add _ _ q hq]
    have hk := hkd q hq
    obtain ⟨c, hc, hcl⟩ := inL_nat hk
    rw [hc] at ho ⊢
    have hx := he.at_ c hcl
    rw [show ((c : Int) + (b : Int)) = ((b + c : Nat) : Int) by omega, hx, shN_bare _ _ (one_bare ho)]
    exact ho
theorem good_sp {l : List Nd} (h : GoodT l) {i : Nat} (hi : i < l.length) : ∃ m, Sp l i m := by
  obtain ⟨m, hS, -⟩ := (Ch.cons h.1 h.2.1 h.2.2 (Ch.nil _) : Ch l [((0 : Nat) : Int)] 0 l.length).sub i (by omega) hi
  exact ⟨m, hS⟩
end
end Go.Proofs.YtpkdhciokiomlaaDoor
