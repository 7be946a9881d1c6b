/- Some texts of this claim, put together. -/
import Derived.Test.YtpkdhciokiomlaaDoorHTw8
import Derived.Test.YtpkdhciokiomlaaDoorHBZ1
import Derived.Deep.QuietTactic
import Derived.BigQuiet
import Derived.Test.YtpkdhciokiomlaaDoorHBZ22
import Derived.StillTailTactics
namespace Go.Proofs.YtpkdhciokiomlaaDoor
section
set_option linter.unusedVariables false
set_option linter.unusedSimpArgs false
set_option linter.unnecessarySimpa false
open Go.RowKit
def bareB (L : List Nd) (n : Int) (i : Nat) : Bool := decide ((nd L ((nd L n).ks.getD i 0)).ks.length = 0)
def noneB (L : List Nd) (n : Int) (i : Nat) : Bool := (nd L ((nd L n).ks.getD i 0)).k == 1
/-- Is a node plain. -/
def plainB (L : List Nd) (n : Int) : Bool :=
  if (nd L n).k = 33 ∨ (nd L n).k = 34 ∨ (nd L n).k = 47 ∨ (nd L n).k = 48 ∨ (nd L n).k = 49 ∨ (nd L n).k = 50 ∨ (nd L n).k = 51 ∨ (nd L n).k = 52 ∨ (nd L n).k = 67 then false
  else if (nd L n).k = 22 ∨ (nd L n).k = 43 then bareB L n 0
  else if (nd L n).k = 27 ∨ (nd L n).k = 28 then bareB L n 1
  else if (nd L n).k = 41 ∨ (nd L n).k = 45 then bareB L n 0 && noneB L n 2
  else if (nd L n).k = 42 then bareB L n 0 && bareB L n 2
  else if (nd L n).k = 40 then noneB L n 0
  else if (nd L n).k = 66 then noneB L n 0 && (nd L n).m == 0
  else if (nd L n).k = 44 then noneB L n 0 && (nd L n).m == 0 && !(noneB L n 1)
  else decide ((nd L n).k < 80) || decide (87 < (nd L n).k)
/-- The kids of a kind of the table, with their places. -/
theorem tab_kids {L : List Nd} {n : Int} (h : fitsB L n = true) {ps : List Plc} (ht : tab (nd L n).k = some (ps, false)) (h12 : (nd L n).k ≠ 12) (h87 : (nd L n).k ≠ 87) : (nd L n).ks.length = ps.length ∧ ∀ q, q < ps.length → (ps.getD q anyP) L ((nd L n).ks.getD q 0) = true := by
  have h1 := (Bool.and_eq_true_iff.1 (show (saidB (nd L n) && kidsP L (nd L n)) = true from h)).2
  unfold kidsP at h1
  have h3 := (Bool.and_eq_true_iff.1 h1).2
  rw [if_neg h12, if_neg h87, ht] at h3
  simp only [Bool.false_or] at h3
  obtain ⟨h4, -⟩ := Bool.and_eq_true_iff.1 h3
  obtain ⟨hlen, heach⟩ := Bool.and_eq_true_iff.1 h4
  have hl : ps.length = (nd L n).ks.length := by simpa using hlen
  refine ⟨hl.symm, fun q hq => ?_⟩
  have h5 := (each_iff _ 0).1 heach q (by omega)
  rw [show min (0 + q) (ps.length - 1) = q by omega] at h5
  exact h5
theorem empty_text {x : ByteArray} (h : x.data.toList.isEmpty = true) : x = ⟨#[]⟩ := by
  obtain ⟨⟨l⟩⟩ := x
  simp at h
  subst h
  rfl
/-- None, and a List of none, are what they leave. -/
theorem one_self {L : List Nd} {j : Int} (h : fitsB L j = true) (hk : (nd L j).k = 1 ∨ ((nd L j).k = 2 ∧ (nd L j).ks.length = 0)) : oneN (nd L j) = nd L j := by
  have hs := (Bool.and_eq_true_iff.1 (show (saidB (nd L j) && kidsP L (nd L j)) = true from h)).1
  obtain ⟨hx, hm⟩ := Bool.and_eq_true_iff.1 (show (textK (nd L j).k (nd L j).x && numK (nd L j).k (nd L j).m) = true from hs)
  have hks : (nd L j).ks.length = 0 := by
    rcases hk with hk | hk
    · have := (tab_kids h (ps := []) (by rw [hk]; rfl) (by omega) (by omega)).1
      simpa using this
    · exact hk.2
  generalize nd L j = y at *
  obtain ⟨k, x, m, ks, p⟩ := y
  simp only at hk hx hm hks
  have hk12 : k = 1 ∨ k = 2 := by omega
  have hks0 := List.eq_nil_of_length_eq_zero hks
  subst hks0
  have hxe : x = ⟨#[]⟩ := by
    rcases hk12 with rfl | rfl <;> exact empty_text hx
  have hme : m = 0 := by
    rcases hk12 with rfl | rfl
    · have e : (m == 0) = true := hm
      simpa using e
    · have e : (m == 0) = true := hm
      simpa using e
  subst hxe
  subst hme
  unfold oneN
  rcases hk12 with rfl | rfl
  · rfl
  · rfl
/-- A place of a type, or of none. -/
theorem type_none {L : List Nd} {j : Int} (h : orP typeP (ofP [1]) L j = true) : typeK (nd L j).k = true ∨ (nd L j).k = 1 := by
  rcases Bool.or_eq_true_iff.1 (show (typeK (nd L j).k || ([1] : List Int).contains (nd L j).k) = true from h) with h | h
  · exact .inl h
  · exact .inr (by simpa using h)
theorem rows_two {L : List Nd} {p : Plc} {j : Int} (h : rowsP p L j = true) : (nd L j).k = 2 := by
  have := (Bool.and_eq_true_iff.1 (show ((nd L j).k == 2 && _) = true from h)).1
  simpa using this
/-- Of a plain tree nothing goes. -/
theorem plain_own {L : List Nd} (hg : GoodT L) {n : Nat} (hn : n < L.length) (h : plainB L n = true) : OwnN L n := by
  obtain ⟨e, hS⟩ := good_sp hg hn
  have hkid : ∀ q, q < (nd L n).ks.length → fitsB L ((nd L n).ks.getD q 0) = true := fun q hq => by
    obtain ⟨j, m, e1, hj, -, -⟩ := kid_sp hS hq
    rw [e1]; exact hj.2.1
  have hfit := hS.2.1
  unfold plainB at h
  by_cases h0 : (nd L n).k = 33 ∨ (nd L n).k = 34 ∨ (nd L n).k = 47 ∨ (nd L n).k = 48 ∨ (nd L n).k = 49 ∨ (nd L n).k = 50 ∨ (nd L n).k = 51 ∨ (nd L n).k = 52 ∨ (nd L n).k = 67
  · rw [if_pos h0] at h; cases h
  rw [if_neg h0] at h
  have hbare : ∀ i, i < (nd L n).ks.length → (nd L ((nd L n).ks.getD i 0)).k = 2 → bareB L n i = true → oneN (nd L ((nd L n).ks.getD i 0)) = nd L ((nd L n).ks.getD i 0) := fun i hi hk hb => one_self (hkid i hi) (.inr ⟨hk, by simpa [bareB] using hb⟩)
  have hnone : ∀ i, i < (nd L n).ks.length → noneB L n i = true → oneN (nd L ((nd L n).ks.getD i 0)) = nd L ((nd L n).ks.getD i 0) := fun i hi hb => one_self (hkid i hi) (.inl (by simpa [noneB] using hb))
  refine ⟨by omega, ?_, fun h44 => ?_, fun q hq he => ?_⟩
  · by_cases h44 : (nd L n).k = 44
    · rw [if_neg (by omega), if_neg (by omega), if_neg (by omega), if_neg (by omega), if_neg (by omega), if_neg (by omega), if_pos h44] at h
      simp only [Bool.and_eq_true, beq_iff_eq] at h
      have hm := h.1.2
      unfold normN
      rw [if_pos h44, ← hm]
    · by_cases h66 : (nd L n).k = 66
      · rw [if_neg (by omega), if_neg (by omega), if_neg (by omega), if_neg (by omega), if_neg (by omega), if_pos h66] at h
        simp only [Bool.and_eq_true, beq_iff_eq] at h
        have hm := h.2
        unfold normN
        rw [if_neg h44, if_pos h66, if_neg (by omega), ← hm]
      · unfold normN
        rw [if_neg h44, if_neg h66]
  · rw [if_neg (by omega), if_neg (by omega), if_neg (by omega), if_neg (by omega), if_neg (by omega), if_neg (by omega), if_pos h44] at h
    simp only [Bool.and_eq_true, Bool.not_eq_true'] at h
    simpa [noneB] using h.2
  · rcases emptied_kind he with ⟨hk, rfl⟩ | ⟨hk, rfl⟩ | ⟨hk, hq2⟩
    · rcases hk with hk | hk | hk | hk | hk
      · have ht := (tab_kids hfit (ps := [rowsP (ofP [67]), rowsP plainP, orP (ofP [63]) exprP]) (by rw [hk]; rfl) (by omega) (by omega)).2 0 (by simp)
        rw [if_pos (.inl hk)] at h
        exact hbare 0 hq (rows_two ht) h
      · have ht := (tab_kids hfit (ps := [rowsP typeP]) (by rw [hk]; rfl) (by omega) (by omega)).2 0 (by simp)
        rw [if_pos (.inr hk)] at h
        exact hbare 0 hq (rows_two ht) h
      · rw [if_neg (by omega), if_neg (by omega), if_neg (by omega), if_neg (by omega), if_pos hk] at h
        exact hnone 0 hq h
      · rw [if_neg (by omega), if_neg (by omega), if_neg (by omega), if_neg (by omega), if_neg (by omega), if_neg (by omega), if_pos hk] at h
        simp only [Bool.and_eq_true] at h
        exact hnone 0 hq h.1.1
      · rw [if_neg (by omega), if_neg (by omega), if_neg (by omega), if_neg (by omega), if_neg (by omega), if_pos hk] at h
        simp only [Bool.and_eq_true] at h
        exact hnone 0 hq h.1
    · have ht : (nd L ((nd L n).ks.getD 1 0)).k = 2 := by
        rcases hk with hk | hk
        · exact rows_two ((tab_kids hfit (ps := [exprP, rowsP typeP, rowsP exprP]) (by rw [hk]; rfl) (by omega) (by omega)).2 1 (by simp))
        · exact rows_two ((tab_kids hfit (ps := [pathP, rowsP typeP, rowsP exprP]) (by rw [hk]; rfl) (by omega) (by omega)).2 1 (by simp))
      rw [if_neg (by omega), if_pos hk] at h
      exact hbare 1 hq ht h
    · by_cases h42 : (nd L n).k = 42
      · have ht := (tab_kids hfit (ps := [rowsP (ofP [67]), orP (ofP [43]) (ofP [1]), rowsP (ofP [80]), memP]) (by rw [h42]; rfl) (by omega) (by omega)).2
        rw [if_neg (by omega), if_neg (by omega), if_neg (by omega), if_pos h42] at h
        simp only [Bool.and_eq_true] at h
        rcases hq2 with rfl | rfl
        · exact hbare 0 hq (rows_two (ht 0 (by simp))) h.1
        · exact hbare 2 hq (rows_two (ht 2 (by simp))) h.2
      · have h41 : (nd L n).k = 41 ∨ (nd L n).k = 45 := by omega
        have ht := (tab_kids hfit (ps := [rowsP (ofP [67]), rowsP plainP, orP typeP (ofP [1]), ofP [63]]) (by rcases h41 with h | h <;> (rw [h]; rfl)) (by omega) (by omega)).2
        rw [if_neg (by omega), if_neg (by omega), if_pos h41] at h
        simp only [Bool.and_eq_true] at h
        rcases hq2 with rfl | rfl
        · exact hbare 0 hq (rows_two (ht 0 (by simp))) h.1
        · exact hnone 2 hq h.2
end
section
set_option linter.unusedVariables false
set_option linter.unusedSimpArgs false
set_option linter.unnecessarySimpa false
open Go.RowKit
/-- A world that stands on wc: all that wc held is as it was. -/
structure Later (wc : World) where
  w : World
  h : Below wc.heap.size wc w
instance (wc : World) : Nonempty (Later wc) := ⟨⟨wc, Below.refl _ _⟩⟩
section
variable {wc : World}
theorem Later.cell (x : Later wc) {b o : Nat} (hb : b < wc.heap.size) : x.w.cell? ⟨b, o, none⟩ = wc.cell? ⟨b, o, none⟩ := x.h.cell (p := ⟨b, o, none⟩) hb
theorem Later.frozen (x : Later wc) {b o : Nat} (hb : b < wc.heap.size) : x.w.frozen? ⟨b, o, none⟩ = wc.frozen? ⟨b, o, none⟩ := x.h.frozen (p := ⟨b, o, none⟩) hb
theorem Later.cellAt (x : Later wc) {a : Addr} (hb : a.block < wc.heap.size) : x.w.cell? a = wc.cell? a := x.h.cell hb
theorem Later.call {P : Program} {f : FuncId} {args : Array Value} {x : Later wc} {v : Value} (h : Calls P f args x.w fun e w' => e = .returned v ∧ Below x.w.heap.size x.w w') :
    Calls P f args x.w fun e w'' => e = .returned v ∧ ∃ y : Later wc, w'' = y.w :=
  h.mono fun _ w' ⟨he, hb⟩ => ⟨he, ⟨w', x.h.trans (hb.mono x.h.size)⟩, rfl⟩
theorem Later.call_same {P : Program} {f : FuncId} {args : Array Value} {x : Later wc} {v : Value} (h : Calls P f args x.w fun e w' => e = .returned v ∧ w' = x.w) :
    Calls P f args x.w fun e w'' => e = .returned v ∧ ∃ y : Later wc, w'' = y.w :=
  h.mono fun _ w' ⟨he, hb⟩ => ⟨he, x, hb⟩
theorem wp_region_later {P : Program} {id : Nat} {Q : Exit → Act → World → Prop} {a : Act} {w : World} {l : List Oper} (wc : World) (hw : Below wc.heap.size wc w) (hm : P.follows .mixedOrders = true) (hB : Region.lexB .any l.toArray = true)
    (h : wpQuiet P l.toArray (fun w' => ∃ x : Later wc, w' = x.w) (fun a' => ∀ w', (∃ x : Later wc, w' = x.w) → Q .normal a' w') l a) : (Code.region id l.toArray true).wp P Q a w :=
  wp_region_quiet (C := fun w' => ∃ x : Later wc, w' = x.w) hm hB ⟨⟨_, hw.drew⟩, rfl⟩ (by simpa using h)
end
end
section
set_option linter.unusedVariables false
set_option linter.unusedSimpArgs false
set_option linter.unnecessarySimpa false
open Go.RowKit
attribute [local go_sem] cell_alloc_add cell_set_add lt_more
set_option maxRecDepth 100000 in
set_option maxHeartbeats 4000000 in
theorem bare_any (A : Option Addr) (L : List Nd) (N c : Nat) (hN : L.length = N) (hc : N ≤ c) (hm : c ≤ maxLen) (j : Nat) (hj : j < L.length) (w : World) (hT : TreeAt w w.heap.size A L) : Calls Tryd.prog 24 #[.agg #[.slice A N c], .int .i64 (j : Int)] w fun e w' => e = .returned (.bool (decide ((nd L j).ks.length = 0))) ∧ Below w.heap.size w w' := by
  obtain ⟨ad, rfl, hn⟩ := hT j hj
  have hb2 := hn.blk
  have hb1 : ad.block < w.heap.size := (by rw [block_add] at hb2; exact hb2)
  obtain ⟨K, kc, c0, c1, c2, c3, c4, hK, hkk, hkm⟩ := node_open hn
  unfold maxLen at hm hkm
  rw [hN] at hj
  have hji : (j : Int) < (N : Int) := by omega
  clear hn hT hK
  generalize nd L (j : Int) = y at *
  obtain ⟨k, x, m, ks, p⟩ := y
  simp only at c0 c1 c2 c3 c4 hkk
  generalize hM : ks.length = M at *
  clear hM
  by_cases h0 : M = 0
  · have h0' : ((M : Int) == 0) = true := beq_iff_eq.2 (by omega)
    rw [decide_eq_true h0]
    clear h0
    go_enter Tryd.func24, Tryd.ntmps24
    go_wp2
    go_ret
    exact ⟨rfl, (by (exact bl))⟩
  · have h0' : ((M : Int) == 0) = false := beq_eq_false_iff_ne.2 (by omega)
    rw [decide_eq_false h0]
    clear h0
    go_enter Tryd.func24, Tryd.ntmps24
    go_wp2
    go_ret
    exact ⟨rfl, (by (exact bl))⟩
set_option maxRecDepth 100000 in
set_option maxHeartbeats 4000000 in
theorem plain1_any (A : Option Addr) (L : List Nd) (N c : Nat) (hN : L.length = N) (hc : N ≤ c) (hm : c ≤ maxLen) (n q j : Nat) (z : Int) (hz : (q : Int) = z) (hn : n < L.length) (hq : q < (nd L n).ks.length) (hj : (nd L n).ks.getD q 0 = (j : Int)) (hjL : j < L.length) (K : Option Addr) (kc g2 g5 : Nat) (hkk : (nd L n).ks.length ≤ kc) (hkm : kc ≤ maxLen) (w : World) (hT : TreeAt w w.heap.size A L) (hK : Rd w w.heap.size K (nd L n).ks.length (ksV (nd L n).ks)) (h2 : w.cell? ⟨g2, 0, none⟩ = some (.slice A N c)) (h5 : w.cell? ⟨g5, 3, none⟩ = some (.slice K (nd L n).ks.length kc)) :
    Calls Tryd.prog 23 #[.int .i64 z, .pointer (some ⟨g2, 0, none⟩), .pointer (some ⟨g5, 0, none⟩)] w fun e w' => e = .returned (.bool ((nd L j).k == 1)) ∧ Below w.heap.size w w' := by
  subst hz
  unfold maxLen at hm hkm
  obtain ⟨kd, rfl, hkb, kcell⟩ := hK q hq
  rw [show ksV (nd L n).ks q = .int .i64 (j : Int) from by unfold ksV; rw [hj]] at kcell
  obtain ⟨ad, rfl, hd⟩ := hT j hjL
  have d0 := hd.c0
  have hdb := hd.blk
  have hab : ad.block < w.heap.size := by rw [block_add] at hdb; exact hdb
  have hqM : (q : Int) < ((nd L n).ks.length : Int) := by omega
  rw [hN] at hjL
  have hji : (j : Int) < (N : Int) := by omega
  have l2 := World.block_lt_of_cell? w _ h2
  have l5 := World.block_lt_of_cell? w _ h5
  have hkb2 : kd.block < w.heap.size := by first | exact hkb | (rw [block_add] at hkb; exact hkb)
  generalize (nd L n).ks.length = M at *
  generalize (nd L (j : Int)).k = kj at *
  clear hK hT hd hj
  go_enter Tryd.func23, Tryd.ntmps23
  go_wp2
  go_quiet (fail)
  go_wp2
  go_ret
  exact ⟨rfl, (by (exact bl))⟩
end
end Go.Proofs.YtpkdhciokiomlaaDoor
