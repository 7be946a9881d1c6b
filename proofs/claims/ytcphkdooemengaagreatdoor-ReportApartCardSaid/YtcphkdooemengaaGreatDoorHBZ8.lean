/- Some texts of this claim, put together. -/
import Derived.Test.YtcphkdooemengaaGreatDoorHBZ6
import Derived.Test.YtcphkdooemengaaGreatDoorHBZ4
import Derived.Test.YtcphkdooemengaaGreatDoorHBZ27
import Derived.Test.YtcphkdooemengaaGreatDoorHBZ11
import Derived.Test.YtcphkdooemengaaGreatDoorHBZ7
import Derived.Test.YtcphkdooemengaaGreatDoorHTrE
namespace Go.Proofs.YtcphkdooemengaaGreatDoor
section
set_option linter.unusedVariables false
set_option linter.unusedSimpArgs false
set_option linter.unnecessarySimpa false
open Go.RowKit
/-- How deep the nodes stand; nothing, if the tree is none. -/
def depsL (L : List Nd) : List Int := if (chk L).2 = 0 then deepL L else []
theorem depsL_len (L : List Nd) : (depsL L).length ≤ L.length := by
  unfold depsL
  split
  · rw [deepL_len]; exact Nat.le_refl _
  · exact Nat.zero_le _
/-- The first q places. -/
def fins (n : Nat) : Nat → List (Fin n)
  | 0 => []
  | q + 1 => if h : q < n then fins n q ++ [⟨q, h⟩] else fins n q
theorem fins_step {n q : Nat} (h : q < n) : fins n (q + 1) = fins n q ++ [⟨q, h⟩] := by
  show (if h : q < n then _ else _) = _; rw [dif_pos h]
theorem fins_len {n : Nat} : ∀ q, q ≤ n → (fins n q).length = q
  | 0, _ => rfl
  | q + 1, h => by rw [fins_step (by omega), List.length_append, fins_len q (by omega)]; rfl
end
section
set_option linter.unusedVariables false
set_option linter.unusedSimpArgs false
set_option linter.unnecessarySimpa false
open Go.RowKit
/-! ### kids by how deep the nodes stand -/
section
variable {L M : List Nd}
theorem Ch.kids_eq (h : Sp L 0 L.length) {ks : List Int} {a e : Nat} (hc : Ch L ks a e) {d : Int} : (∀ j : Nat, (j : Int) ∈ ks → dp L j = d) → ks = ((List.range' a (e - a)).filter fun x => decide (dp L x = d)).map fun (x : Nat) => (x : Int) := by
  induction hc with
  | nil a => intro _; simp
  | @cons ks a m e h0 hf h1 h2 ih1 ih2 =>
    intro hd
    have l1 := h1.le
    have l2 := h2.le
    have ha := hd a (by simp)
    have e1 : List.range' a (e - a) = a :: (List.range' (a + 1) (m - (a + 1)) ++ List.range' m (e - m)) := by
      rw [show e - a = ((m - (a + 1)) + (e - m)) + 1 by omega, List.range'_succ, ← List.range'_append_1, show a + 1 + (m - (a + 1)) = m by omega]
    have e2 : (List.range' (a + 1) (m - (a + 1))).filter (fun x => decide (dp L x = d)) = [] := by
      rw [List.filter_eq_nil_iff]
      intro x hx
      rw [List.mem_range'_1] at hx
      have := h1.deep h (d := d + 1) (fun j hj => by rw [dp_kid h h0 hj, ha]) x hx.1 (by omega)
      simp
      omega
    rw [e1, List.filter_cons_of_pos (by simpa using ha), List.filter_append, e2, List.nil_append, List.map_cons, ← ih2 (fun j hj => hd j (by simp [hj]))]
theorem sp_end (hL : Sp L 0 L.length) (hM : Sp M 0 M.length) (hlen : L.length = M.length) (hd : ∀ j, j < L.length → dp L j = dp M j) {n e e' : Nat} (h : Sp L n e) (h' : Sp M n e') : e ≤ e' := by
  rcases Nat.lt_or_ge e' e with hlt | hge
  · have h1 := h.len
    have h2 := h'.lt
    have h3 := sp_deep hL h h2 hlt
    have h4 := sp_next hM h' (by omega)
    rw [← hd e' (by omega), ← hd n h.1] at h4
    omega
  · exact hge
theorem kids_eq (hL : Sp L 0 L.length) (hM : Sp M 0 M.length) (hlen : L.length = M.length) (hd : ∀ j, j < L.length → dp L j = dp M j) (n : Nat) (hn : n < L.length) : (nd L n).ks = (nd M n).ks := by
  obtain ⟨e, hs⟩ := good_sub hL hn
  obtain ⟨e', hs'⟩ := good_sub hM (by omega : n < M.length)
  have h1 := sp_end hL hM hlen hd hs hs'
  have h2 := sp_end hM hL hlen.symm (fun j hj => (hd j (by omega)).symm) hs' hs
  obtain rfl : e = e' := by omega
  have hle := hs.len
  rw [hs.2.2.kids_eq hL (fun j hj => dp_kid hL hs.1 hj), hs'.2.2.kids_eq hM (fun j hj => dp_kid hM hs'.1 hj)]
  congr 1
  apply List.filter_congr
  intro x hx
  rw [List.mem_range'_1] at hx
  rw [hd x (by omega), hd n hn]
theorem deepG_same (hlen : L.length = M.length) (hk : ∀ j : Nat, j < L.length → (nd L j).ks = (nd M j).ks) : ∀ i, i ≤ L.length → deepG L i = deepG M i
  | 0, _ => by unfold deepG; rw [hlen]
  | i + 1, h => by
    show setK (deepG L i) (nd L i).ks _ = setK (deepG M i) (nd M i).ks _
    rw [deepG_same hlen hk i (by omega), hk i (by omega)]
end
/-! ### the text -/
def pairsT (L : List Nd) : List (Nat × Nd) := (List.range L.length).map fun (i : Nat) => ((dp L i).toNat, nd L i)
/-- A tree's text; nothing, if the tree is none. -/
def treeT (L : List Nd) : ByteArray := if (chk L).2 = 0 then ⟨(linesT (pairsT L)).toArray⟩ else ⟨#[]⟩
theorem pairs_at {L : List Nd} {j : Nat} (hj : j < L.length) : (pairsT L).getD j (0, nd0) = ((dp L j).toNat, nd L j) := by
  unfold pairsT
  rw [List.getD_eq_getElem?_getD, List.getElem?_map, List.getElem?_range hj]; rfl
theorem pairs_len (L : List Nd) : (pairsT L).length = L.length := by simp [pairsT]
theorem lineT_same {d : Nat} {y z : Nd} (h1 : y.k = z.k) (h2 : y.x = z.x) (h3 : y.m = z.m) : lineT d y = lineT d z := by unfold lineT; rw [h1, h2, h3]
theorem lines_apart {L M : List Nd} (hL : (chk L).2 = 0) (hM : (chk M).2 = 0) (hgL : ∀ j : Nat, good (nd L j).x = true) (hgM : ∀ j : Nat, good (nd M j).x = true) : linesT (pairsT L) = linesT (pairsT M) ↔ sameB L M = true := by
  have hsL := (good_iff (L := L)).1 hL
  have hsM := (good_iff (L := M)).1 hM
  have hgp : ∀ (K : List Nd), (∀ j : Nat, good (nd K j).x = true) → ∀ p ∈ pairsT K, good p.2.x = true := fun K hg p hp => by
    obtain ⟨i, _, rfl⟩ := List.mem_map.1 hp
    exact hg i
  rw [sameB_iff]
  constructor
  · intro h
    obtain ⟨h1, h2⟩ := lines_eq (hgp L hgL) (hgp M hgM) h
    rw [pairs_len, pairs_len] at h1
    rw [pairs_len] at h2
    have h3 : ∀ j, j < L.length → (dp L j).toNat = (dp M j).toNat ∧ (nd L j).k = (nd M j).k ∧ (nd L j).x = (nd M j).x ∧ (nd L j).m = (nd M j).m := fun j hj => by
      have := h2 j hj
      rw [pairs_at hj, pairs_at (by omega)] at this
      exact this
    have hd : ∀ j, j < L.length → dp L j = dp M j := fun j hj => by
      have e1 := dp_pos hsL hj
      have e2 := dp_pos hsM (by omega : j < M.length)
      have := (h3 j hj).1
      omega
    refine ⟨h1, fun i hi => (sameN_iff _ _).2 ⟨(h3 i hi).2.1, (h3 i hi).2.2.1, (h3 i hi).2.2.2, kids_eq hsL hsM h1 hd i hi⟩⟩
  · rintro ⟨h1, h2⟩
    have h3 : ∀ j : Nat, j < L.length → (nd L j).k = (nd M j).k ∧ (nd L j).x = (nd M j).x ∧ (nd L j).m = (nd M j).m ∧ (nd L j).ks = (nd M j).ks := fun j hj => (sameN_iff _ _).1 (h2 j hj)
    have hdd : deepL L = deepL M := by
      show deepG L L.length = deepG M M.length
      rw [deepG_same h1 (fun j hj => (h3 j hj).2.2.2) _ (Nat.le_refl _), h1]
    unfold pairsT linesT
    rw [List.flatMap_map, List.flatMap_map, ← h1]
    rw [List.flatMap_def, List.flatMap_def]
    congr 1
    apply List.map_congr_left
    intro i hi
    have hi := List.mem_range.1 hi
    obtain ⟨e1, e2, e3, _⟩ := h3 i hi
    show lineT (dp L i).toNat (nd L i) = lineT (dp M i).toNat (nd M i)
    unfold dp
    rw [hdd]
    exact lineT_same e1 e2 e3
/-! ### the texts of a good tree are good -/
theorem ascii_good {x : ByteArray} (h : ∀ c ∈ x.data.toList, c.toNat < 128) : good x = true := by
  unfold good
  rw [List.all_eq_true]
  intro k hk
  have hk2 := mem_places hk
  have hb : bt x k < 128 := by
    have h1 : x.data.toList[k]? = some (x.data[k]'(by simpa using hk2)) := by simp [List.getElem?_eq_getElem, show k < x.data.toList.length from by simpa using hk2]
    have h2 := h _ (List.mem_of_getElem? h1)
    rw [← bt_list h1] at h2
    exact h2
  have h3 := dec3_at x k
  rw [dec3_one hb] at h3
  exact congrArg (fun p => p.2.2) h3
/-- A list of small bytes. -/
def smallB (l : List UInt8) : Prop := ∀ c ∈ l, c.toNat < 128
theorem name_small {l : List UInt8} (h : isName l = true) : smallB l := fun c hc => by
  unfold isName at h
  simp only [Bool.and_eq_true, List.all_eq_true] at h
  have := h.2 c hc
  simp [nameB, letterB, digitB] at this
  omega
theorem in_small {l : List UInt8} {ws : List (List UInt8)} (hw : (ws.all fun w => w.all fun c => decide (c.toNat < 128)) = true) (h : inS l ws = true) : smallB l := fun c hc => by
  have h1 : l ∈ ws := of_decide_eq_true h
  have h2 := List.all_eq_true.1 hw l h1
  exact of_decide_eq_true (List.all_eq_true.1 h2 c hc)
theorem dots_small : ∀ (l acc : List UInt8), (dots acc l).all isName = true → smallB (acc ++ l)
  | [], acc, h => by
    rw [dots, List.all_cons, Bool.and_eq_true] at h
    rw [List.append_nil]
    exact name_small h.1
  | c :: l, acc, h => by
    rw [dots] at h
    split at h
    · rename_i h46
      rw [List.all_cons, Bool.and_eq_true] at h
      have h1 := name_small h.1
      have h2 := dots_small l [] h.2
      intro x hx
      rcases List.mem_append.1 hx with hx | hx
      · exact h1 x hx
      · rcases List.mem_cons.1 hx with rfl | hx
        · rw [h46]; decide
        · exact h2 x (by simpa using hx)
    · have := dots_small l _ h
      rw [List.append_assoc] at this
      exact this
theorem text_good {k : Int} {x : ByteArray} (h : textK k x = true) : good x = true := by
  unfold textK at h
  split at h
  · exact h
  split at h
  · exact ascii_good (name_small h)
  split at h
  · exact ascii_good (in_small (by decide) h)
  split at h
  · exact ascii_good (in_small (by decide) h)
  split at h
  · exact ascii_good (in_small (by decide) h)
  split at h
  · rcases Bool.or_eq_true _ _ ▸ h with h | h
    · exact ascii_good (show smallB x.data.toList from by have := dots_small _ [] h; rwa [List.nil_append] at this)
    · exact ascii_good (in_small (by decide) h)
  · refine ascii_good (fun c hc => ?_)
    rw [List.isEmpty_iff] at h
    rw [h] at hc
    cases hc
theorem good_nd0 : good nd0.x = true := by decide
theorem tree_texts {L : List Nd} (h : (chk L).2 = 0) (j : Nat) : good (nd L j).x = true := by
  rcases Nat.lt_or_ge j L.length with hj | hj
  · obtain ⟨e, hs⟩ := good_sub ((good_iff (L := L)).1 h) hj
    have hf := hs.2.1
    unfold fitsB saidB at hf
    simp only [Bool.and_eq_true] at hf
    exact text_good hf.1.1
  · rw [nd_nat, List.getD_eq_getElem?_getD, List.getElem?_eq_none hj]
    exact good_nd0
theorem trees_apart {L M : List Nd} (hL : (chk L).2 = 0) (hM : (chk M).2 = 0) : treeT L = treeT M ↔ sameB L M = true := by
  rw [← lines_apart hL hM (tree_texts hL) (tree_texts hM)]
  unfold treeT
  rw [if_pos hL, if_pos hM]
  constructor
  · intro h
    have := congrArg (fun s : ByteArray => s.data.toList) h
    simpa using this
  · intro h; rw [h]
end
section
set_option linter.unusedVariables false
set_option linter.unusedSimpArgs false
set_option linter.unnecessarySimpa false
open Go.RowKit
theorem kind_bd {L : List Nd} (h : (chk L).2 = 0) {j : Nat} (hj : j < L.length) : 1 ≤ (nd L j).k ∧ (nd L j).k ≤ 87 := by
  obtain ⟨e, hs⟩ := good_sub ((good_iff (L := L)).1 h) hj
  have hf := hs.2.1
  rw [← fits_same] at hf
  simp only [Bool.and_eq_true] at hf
  have hk := hf.1.1
  simp [kindK] at hk
  omega
theorem line_00 {d : Nat} {k m : Int} {x : ByteArray} {ks : List Int} {p : Int} (hx : x.size = 0) (hm : m = 0) : (spaces (2 * d) ++ digits k).data.toList ++ [10] = lineT d ⟨k, x, m, ks, p⟩ := by
  unfold lineT; rw [if_pos hx, if_pos hm]; simp [spaces, digits]
theorem line_10 {d : Nat} {k m : Int} {x : ByteArray} {ks : List Int} {p : Int} (hx : x.size ≠ 0) (hm : m = 0) : (spaces (2 * d) ++ digits k ++ (⟨#[32]⟩ ++ quoteB x)).data.toList ++ [10] = lineT d ⟨k, x, m, ks, p⟩ := by
  unfold lineT; rw [if_neg hx, if_pos hm]; simp [spaces, digits]
theorem line_01 {d : Nat} {k m : Int} {x : ByteArray} {ks : List Int} {p : Int} (hx : x.size = 0) (hm : m ≠ 0) : (spaces (2 * d) ++ digits k ++ (⟨#[32]⟩ ++ digits m)).data.toList ++ [10] = lineT d ⟨k, x, m, ks, p⟩ := by
  unfold lineT; rw [if_pos hx, if_neg hm]; simp [spaces, digits]
theorem line_11 {d : Nat} {k m : Int} {x : ByteArray} {ks : List Int} {p : Int} (hx : x.size ≠ 0) (hm : m ≠ 0) : (spaces (2 * d) ++ digits k ++ (⟨#[32]⟩ ++ quoteB x) ++ (⟨#[32]⟩ ++ digits m)).data.toList ++ [10] = lineT d ⟨k, x, m, ks, p⟩ := by
  unfold lineT; rw [if_neg hx, if_neg hm]; simp [spaces, digits]
theorem rows_one (s : ByteArray) : rowsL [s] = s.data.toList ++ [10] := by simp [rowsL]
theorem text_full {x : ByteArray} (h : x.size ≠ 0) : x.toList.isEmpty = false := by
  rw [ByteArray.toList_eq]
  cases hx : x.data.toList.isEmpty with
  | false => rfl
  | true =>
    rw [List.isEmpty_iff] at hx
    have := congrArg List.length hx
    rw [Array.length_toList] at this
    exact absurd this h
theorem quote_le (x : ByteArray) : (quoteB x).size ≤ 6 * x.size + 2 := by
  have h1 := quote_size x
  have h2 := qbody_len x (places x)
  have h3 := places_len x
  omega
/-- The lines of some nodes. -/
def linesN (L : List Nd) (D : List Int) {n : Nat} (l : List (Fin n)) : List UInt8 := l.flatMap fun i => lineT (D.getD i.1 0).toNat (nd L (i.1 : Nat))
theorem linesN_snoc (L : List Nd) (D : List Int) {n : Nat} (l : List (Fin n)) (x : Fin n) : linesN L D (l ++ [x]) = linesN L D l ++ lineT (D.getD x.1 0).toNat (nd L (x.1 : Nat)) := by simp [linesN]
theorem fins_map {α : Type} (f : Nat → List α) (n : Nat) : ∀ q, q ≤ n → (fins n q).flatMap (fun i => f i.1) = (List.range q).flatMap f
  | 0, _ => rfl
  | q + 1, h => by rw [fins_step (by omega), List.flatMap_append, fins_map f n q (by omega), List.range_succ, List.flatMap_append]; rfl
theorem linesN_all {L : List Nd} (h : (chk L).2 = 0) {n : Nat} (hn : L.length = n) : linesN L (depsL L) (fins n n) = linesT (pairsT L) := by
  subst hn
  have hD : depsL L = deepL L := if_pos h
  have := fins_map (fun i => lineT ((depsL L).getD i 0).toNat (nd L (i : Nat))) L.length L.length (Nat.le_refl _)
  unfold linesN
  rw [this]
  unfold linesT pairsT
  rw [List.flatMap_map, hD]; rfl
theorem linesN_len {L : List Nd} {D : List Int} {n B : Nat} (hx : ∀ j : Nat, (nd L j).x.size ≤ B) (hD : ∀ j, j < n → 0 ≤ D.getD j 0 ∧ D.getD j 0 ≤ B) (hk : ∀ j : Nat, j < n → 1 ≤ (nd L j).k ∧ (nd L j).k ≤ 87) (hm : ∀ j : Nat, j < n → -9223372036854775808 ≤ (nd L j).m ∧ (nd L j).m ≤ 9223372036854775807) : ∀ l : List (Fin n), (linesN L D l).length ≤ l.length * (8 * B + 50)
  | [] => Nat.zero_le _
  | x :: l => by
    have h1 := linesN_len hx hD hk hm l
    have h2 : (lineT (D.getD x.1 0).toNat (nd L (x.1 : Nat))).length ≤ 8 * B + 50 := by
      have a1 := hD x.1 x.2
      have a2 := Lib.itoa_length_le (nd L (x.1 : Nat)).k (by have := hk x.1 x.2; omega) (by have := hk x.1 x.2; omega)
      have a3 := Lib.itoa_length_le (nd L (x.1 : Nat)).m (by have := hm x.1 x.2; omega) (by have := hm x.1 x.2; omega)
      have a4 := quote_le (nd L (x.1 : Nat)).x
      have a5 := hx x.1
      have a6 : (quoteB (nd L (x.1 : Nat)).x).data.toList.length = (quoteB (nd L (x.1 : Nat)).x).size := Array.length_toList
      unfold lineT
      rw [List.length_append, List.length_append, List.length_append, List.length_append, List.length_replicate]
      have b1 : (if (nd L (x.1 : Nat)).x.size = 0 then [] else 32 :: (quoteB (nd L (x.1 : Nat)).x).data.toList).length ≤ 6 * B + 3 := by
        split
        · exact Nat.zero_le _
        · rw [List.length_cons, a6]; omega
      have b2 : (if (nd L (x.1 : Nat)).m = 0 then [] else 32 :: Lib.itoa (nd L (x.1 : Nat)).m).length ≤ 22 := by
        split
        · exact Nat.zero_le _
        · rw [List.length_cons]; omega
      simp only [List.length_cons, List.length_nil]
      omega
    have e : linesN L D (x :: l) = lineT (D.getD x.1 0).toNat (nd L (x.1 : Nat)) ++ linesN L D l := rfl
    rw [e, List.length_append, List.length_cons, Nat.succ_mul]
    omega
end
end Go.Proofs.YtcphkdooemengaaGreatDoor
