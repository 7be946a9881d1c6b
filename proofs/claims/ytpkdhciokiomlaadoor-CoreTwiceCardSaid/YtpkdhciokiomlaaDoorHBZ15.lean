/- Some texts of this claim, put together. -/
import Derived.Test.YtpkdhciokiomlaaDoorHSw
import Derived.Test.YtpkdhciokiomlaaDoorHSt
namespace Go.Proofs.YtpkdhciokiomlaaDoor
section
set_option linter.unusedVariables false
set_option linter.unusedSimpArgs false
set_option linter.unnecessarySimpa false
open Go.RowKit
attribute [local go_sem] cell_alloc_add cell_set_add lt_more
/-- Kinds whose kids are a row. -/
def rowK (k : Int) : Bool := k == 3 || k == 63 || k == 49 || k == 2
/-- What the function value that strip keeps answers. -/
def KeepV (v : Value) (A : Option Addr) (L : List Nd) (N c b g2 : Nat) (r : Bool) : Prop :=
  ∃ F caps, v = .func (.func F) #[] caps ∧ (∀ args w, (callFunc F args).run Tryd.prog w = .ok (.enter F args) w) ∧ ∀ (W : World) (j e : Nat), TreeAt W W.heap.size A L → W.cell? ⟨b, 0, none⟩ = some (.slice A N c) → b < W.heap.size → W.cell? ⟨g2, 0, none⟩ = some (.pointer (some ⟨b, 0, none⟩)) → g2 < W.heap.size → Sp L j e →
    Calls Tryd.prog F (#[.int .i64 (j : Int)] ++ caps) W fun x W' => x = .returned (.bool (if r = true then !leftB L L.length j else true)) ∧ Below W.heap.size W W'
set_option maxHeartbeats 4000000 in
theorem keep_all (A : Option Addr) (L : List Nd) (N c b g2 : Nat) : KeepV (.func (.func 17) #[] #[]) A L N c b g2 false := by
  refine ⟨17, _, rfl, Tryd.call17, fun W j e hT hc hb hg hg2 hS => ?_⟩
  rw [if_neg (by simp)]
  show Calls Tryd.prog 17 #[.int .i64 (j : Int)] W _
  clear hT hc hb hg hg2 hS
  go_enter Tryd.func17, Tryd.ntmps17
  go_wp2
  go_ret
  exact ⟨rfl, (by (exact bl))⟩
set_option maxHeartbeats 4000000 in
theorem keep_row (A : Option Addr) (L : List Nd) (N c : Nat) (hN : L.length = N) (hc : N ≤ c) (hm : c ≤ maxLen) (b g2 : Nat) : KeepV (.func (.func 18) #[] #[.pointer (some ⟨g2, 0, none⟩)]) A L N c b g2 true := by
  refine ⟨18, _, rfl, Tryd.call18, fun W j e hT hcell hb hg hg2 hS => ?_⟩
  rw [if_pos rfl]
  show Calls Tryd.prog 18 #[.int .i64 (j : Int), .pointer (some ⟨g2, 0, none⟩)] W _
  have HC := Lib.hid (nothing_any A L N c hN hc hm b L.length j e W hS (by have := hS.len; omega) hT hcell hb)
  generalize leftB L L.length j = lj at *
  clear hT hS hcell hN
  go_enter Tryd.func18, Tryd.ntmps18
  go_wp2_with (first
    | (go_at_call 19; (with_reducible refine HC.out.mono ?_); rintro r w1 ⟨rfl, b1⟩)
    | fail)
  go_ret
  exact ⟨rfl, b1⟩
end
section
set_option linter.unusedVariables false
set_option linter.unusedSimpArgs false
set_option linter.unnecessarySimpa false
open Go.RowKit
theorem partsL_len (L : List Nd) (g : Int → List Nd) (k : Int) : ∀ (ks : List Int) (i : Nat), (partsL (stepS L g k) i ks).length ≤ ks.length
  | [], _ => by simp [partsL]
  | y :: ks, i => by
    show (stepS L g k i y ++ partsL (stepS L g k) (i + 1) ks).length ≤ _
    rw [List.length_append, List.length_cons]
    have := partsL_len L g k ks (i + 1)
    have h : (stepS L g k i y).length ≤ 1 := by
      unfold stepS
      split
      · simp
      · split <;> simp
    omega
theorem mkA_ks5 {B : Nat} : ∀ (Ls : List (List Nd)) (ks : List Int) (acc : List Nd), (∀ z ∈ acc, z.ks.length ≤ B) → (∀ l ∈ Ls, ∀ z ∈ l, z.ks.length ≤ B) → ∀ z ∈ (mkA ks acc Ls).2, z.ks.length ≤ B
  | [], ks, acc, h, _ => h
  | l :: ls, ks, acc, h, hl => by
    by_cases h0 : l.length = 0
    · rw [mkA_skip h0]
      exact mkA_ks5 ls ks acc h (fun m hm => hl m (by simp [hm]))
    · rw [mkA_step h0]
      refine mkA_ks5 ls _ _ (fun z hz => ?_) (fun m hm => hl m (by simp [hm]))
      rcases List.mem_append.1 hz with hz | hz
      · exact h z hz
      · obtain ⟨u, hu, rfl⟩ := List.mem_map.1 hz
        show (u.ks.map _).length ≤ B
        rw [List.length_map]
        exact hl l (by simp) u hu
theorem mkA_len5 : ∀ (Ls : List (List Nd)) (ks : List Int) (acc : List Nd), (mkA ks acc Ls).1.length ≤ ks.length + Ls.length
  | [], ks, acc => by rw [mkA_nil]; exact Nat.le_add_right _ _
  | l :: ls, ks, acc => by
    by_cases h : l.length = 0
    · rw [mkA_skip h, List.length_cons]
      have := mkA_len5 ls ks acc
      omega
    · rw [mkA_step h, List.length_cons]
      have := mkA_len5 ls (ks ++ [((acc.length + 1 : Nat) : Int)]) (acc ++ l.map (shN ((acc.length + 1 : Nat) : Int)))
      simp at this ⊢
      omega
theorem strip_ks {L : List Nd} {B : Nat} (hB : ∀ j : Int, (nd L j).ks.length ≤ B) : ∀ (f : Nat) (n : Int), ∀ z ∈ stripL L f n, z.ks.length ≤ B
  | 0, _, z, hz => by cases hz
  | f + 1, n, z, hz => by
    unfold stripL at hz
    split at hz
    · exact strip_ks hB f _ z hz
    · rcases List.mem_cons.1 hz with rfl | hz
      · show (mkA [] [] _).1.length ≤ B
        have h1 := mkA_len5 (partsL (stepS L (stripL L f) (nd L n).k) 0 (nd L n).ks) [] []
        have h2 := partsL_len L (stripL L f) (nd L n).k (nd L n).ks 0
        have h3 := hB n
        simp at h1
        omega
      · refine mkA_ks5 _ [] [] (fun z hz => by cases hz) ?_ z hz
        refine parts_mem _ _ (fun j y _ l hl z hz => ?_)
        unfold stepS at hl
        split at hl
        · simp at hl; subst hl; simp at hz; subst hz; simp [oneN]
        · split at hl
          · cases hl
          · simp at hl; subst hl
            exact strip_ks hB f y z hz
/-- Of the parts of a node: each has nodes, few in all, each with few kids. -/
theorem parts_ok {L : List Nd} {B f n e : Nat} (hB : ∀ j : Int, (nd L j).ks.length ≤ B) (h : Sp L n e) (hf : e - n ≤ f + 1) : sumL (partsL (stepS L (stripL L f) (nd L n).k) 0 (nd L n).ks) ≤ e - n - 1 ∧ (∀ l ∈ partsL (stepS L (stripL L f) (nd L n).k) 0 (nd L n).ks, l.length ≠ 0 ∧ ∀ z ∈ l, z.ks.length ≤ B) := by
  have hlt := h.lt
  obtain ⟨h1, h2, h3⟩ := h
  have hp : ∀ i s m, n + 1 ≤ s → m ≤ e → Sp L s m → sumL (stepS L (stripL L f) (nd L n).k i (s : Int)) ≤ m - s ∧ ∀ l ∈ stepS L (stripL L f) (nd L n).k i (s : Int), l.length ≠ 0 ∧ ∀ z ∈ l, z.ks.length ≤ B := by
    intro i s m hs hm hS
    have hl := hS.lt
    unfold stepS
    split
    · exact ⟨by simp [sumL]; omega, by simp [oneN]⟩
    · split
      · exact ⟨by simp [sumL], by simp⟩
      · have h5 := strip_len f s m hS (by omega)
        refine ⟨by simp [sumL]; omega, ?_⟩
        intro l hl
        simp at hl
        subst hl
        exact ⟨by omega, strip_ks hB f _⟩
  constructor
  · have := parts_sum h3 (fun i s m a b c => (hp i s m a b c).1) 0
    omega
  · apply parts_mem
    intro j y hy l hl
    obtain ⟨s, rfl, hs1, hs2⟩ := h3.kid y hy
    obtain ⟨m, hS, hm⟩ := h3.sub s hs1 hs2
    exact (hp j s m hs1 hm hS).2 l hl
end
section
set_option linter.unusedVariables false
set_option linter.unusedSimpArgs false
set_option linter.unnecessarySimpa false
open Go.RowKit
theorem row_emptied {k : Int} (h : rowK k = true) (i : Nat) : emptied k i = false := by
  have hk : k = 3 ∨ k = 63 ∨ k = 49 ∨ k = 2 := by
    simp only [rowK, Bool.or_eq_true, beq_iff_eq] at h
    omega
  rcases hk with rfl | rfl | rfl | rfl <;> simp [emptied]
theorem row_not {k : Int} (h : rowK k = false) : k ≠ 2 ∧ k ≠ 3 ∧ k ≠ 49 ∧ k ≠ 63 := by
  simp only [rowK, Bool.or_eq_false_iff, beq_eq_false_iff_ne] at h
  omega
/-- Is a kid kept, by the program's rule; then it leaves what the document's says. -/
theorem kept_says {L : List Nd} {n : Nat} {g : Int → List Nd} (h : fitsB L n = true) (hl : leftB L L.length n = false) (hn : n < L.length) (q : Nat) (hq : q < (nd L n).ks.length) {j : Nat} (hj : (nd L n).ks.getD q 0 = (j : Int)) :
    ((if rowK (nd L n).k = true then !leftB L L.length j else true) = false → stepS L g (nd L n).k q (j : Int) = []) ∧
    ((if rowK (nd L n).k = true then !leftB L L.length j else true) = true → emptied (nd L n).k q = true → stepS L g (nd L n).k q (j : Int) = [[oneN (nd L j)]]) ∧
    ((if rowK (nd L n).k = true then !leftB L L.length j else true) = true → emptied (nd L n).k q = false → stepS L g (nd L n).k q (j : Int) = [g j] ∧ leftB L L.length j = false) := by
  unfold stepS
  cases hr : rowK (nd L n).k with
  | true =>
    have he := row_emptied hr q
    rw [he]
    simp only [if_pos, Bool.not_eq_false', Bool.not_eq_true']
    refine ⟨fun h => by rw [if_neg (by simp), if_pos h], fun _ h => (by cases h), fun h _ => ⟨by rw [if_neg (by simp), if_neg (by rw [h]; simp)], h⟩⟩
  | false =>
    have hs := step_stays h hl hn (row_not hr) q hq
    rw [hj] at hs
    refine ⟨fun h => (by simp at h), fun _ h => by rw [if_pos h], fun _ h => ⟨by rw [if_neg (by rw [h]; simp), if_neg (by rw [hs]; simp)], hs⟩⟩
theorem leaf_sh (z : Int) (y : Nd) : [oneN y].map (shN z) = [oneN y] := by
  simp only [List.map_cons, List.map_nil]
  rw [shN_bare]
  rfl
/-- The nodes of a good tree of kind Param have marks of three bits. -/
theorem param_marks {L : List Nd} {n : Int} (h : fitsB L n = true) (hk : (nd L n).k = 66) : 0 ≤ (nd L n).m ∧ (nd L n).m ≤ 7 := by
  have h1 := (Bool.and_eq_true_iff.1 (show (saidB (nd L n) && kidsP L (nd L n)) = true from h)).1
  have h2 := (Bool.and_eq_true_iff.1 (show (textK (nd L n).k (nd L n).x && numK (nd L n).k (nd L n).m) = true from h1)).2
  unfold numK at h2
  rw [if_neg (by omega), if_neg (by omega), if_neg (by omega), if_neg (by omega), if_pos hk] at h2
  simpa using h2
theorem offs_len : ∀ (Ls : List (List Nd)) (b : Nat), (offs b Ls).length = Ls.length
  | [], _ => rfl
  | l :: ls, b => by
    show (offs (b + l.length) ls).length + 1 = _
    rw [offs_len ls, List.length_cons]
theorem offs_mem : ∀ (Ls : List (List Nd)) (b : Nat), ∀ k ∈ offs b Ls, 0 ≤ k ∧ k ≤ ((b + sumL Ls : Nat) : Int)
  | [], _, k, hk => by cases hk
  | l :: ls, b, k, hk => by
    have hs : sumL (l :: ls) = l.length + sumL ls := by simp [sumL]
    rcases List.mem_cons.1 (show k ∈ (b : Int) :: offs (b + l.length) ls from hk) with rfl | hk
    · rw [hs]; omega
    · have := offs_mem ls (b + l.length) k hk
      rw [hs]; omega
theorem offs_next (b : Nat) (A : List (List Nd)) (s : List Nd) : offs b A ++ [((b + sumL A : Nat) : Int)] = offs b (A ++ [s]) := by rw [offs_app]; rfl
theorem body_next (b : Nat) (A : List (List Nd)) (s : List Nd) : body b A ++ s.map (shN ((b + sumL A : Nat) : Int)) = body b (A ++ [s]) := by rw [body_app, body_one]
theorem ch_split {L : List Nd} {ks : List Int} {a e : Nat} (h : Ch L ks a e) : ∀ q, q < ks.length → ∃ j m : Nat, ks.getD q 0 = (j : Int) ∧ Ch L (ks.take q) a j ∧ Sp L j m ∧ m ≤ e := by
  induction h with
  | nil a => intro q hq; simp at hq
  | @cons ks a m e h0 hf h1 h2 _ ih =>
    intro q hq
    cases q with
    | zero => exact ⟨a, m, rfl, Ch.nil a, ⟨h0, hf, h1⟩, h2.le⟩
    | succ q =>
      obtain ⟨j, m', e1, e2, e3, e4⟩ := ih q (by simpa using hq)
      exact ⟨j, m', by simpa using e1, by rw [List.take_succ_cons]; exact Ch.cons h0 hf h1 e2, e3, e4⟩
/-- What the kids ahead of a kid leave is no more than they span. -/
theorem parts_upto {L : List Nd} {f n e : Nat} (h : Sp L n e) (hf : e - n ≤ f + 1) {q : Nat} (hq : q < (nd L n).ks.length) {j : Nat} (hj : (nd L n).ks.getD q 0 = (j : Int)) : sumL (partsL (stepS L (stripL L f) (nd L n).k) 0 ((nd L n).ks.take q)) + n + 1 ≤ j := by
  obtain ⟨h1, h2, h3⟩ := h
  have hlt : n < e := by have := h3.le; omega
  obtain ⟨j', m, e1, e2, e3, e4⟩ := ch_split h3 q hq
  obtain rfl : j = j' := by omega
  have hlj := e2.le
  have hje := e3.lt
  have := parts_sum e2 (P := stepS L (stripL L f) (nd L n).k) (fun i s m hs hm hS => by
    have hl := hS.lt
    unfold stepS
    split
    · simp [sumL]; omega
    · split
      · simp [sumL]
      · have h5 := strip_len f s m hS (by omega)
        simp [sumL]; omega) 0
  omega
end
end Go.Proofs.YtpkdhciokiomlaaDoor
