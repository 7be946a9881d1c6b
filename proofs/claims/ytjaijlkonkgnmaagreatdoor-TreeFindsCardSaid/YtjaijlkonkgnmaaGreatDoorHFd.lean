/- Plain: what Find goes through: one node after another (the program), span after span (the reference). No program in sight. -/
import Derived.Test.YtjaijlkonkgnmaaGreatDoorHBB
namespace Go.Proofs.YtjaijlkonkgnmaaGreatDoor
set_option linter.unusedVariables false
set_option linter.unusedSimpArgs false
set_option linter.unnecessarySimpa false
open Go.RowKit
/-- What is found in f nodes from i on; those deeper than `over` are passed by. -/
def scanF (L : List Nd) (kind : Int) : Nat → Nat → Int → List Int
  | 0, _, _ => []
  | f + 1, i, over =>
    if 0 ≤ over ∧ over < dp L i then scanF L kind f (i + 1) over
    else if (nd L (i : Int)).k = kind then (i : Int) :: scanF L kind f (i + 1) (dp L i) else scanF L kind f (i + 1) (-1)
section
variable {L : List Nd} {kind : Int}
theorem scan_skip {f i : Nat} {over : Int} (h : 0 ≤ over ∧ over < dp L i) : scanF L kind (f + 1) i over = scanF L kind f (i + 1) over := by
  rw [scanF, if_pos h]
theorem scan_hit {f i : Nat} {over : Int} (h : ¬ (0 ≤ over ∧ over < dp L i)) (hk : (nd L (i : Int)).k = kind) : scanF L kind (f + 1) i over = (i : Int) :: scanF L kind f (i + 1) (dp L i) := by
  rw [scanF, if_neg h, if_pos hk]
theorem scan_miss {f i : Nat} {over : Int} (h : ¬ (0 ≤ over ∧ over < dp L i)) (hk : (nd L (i : Int)).k ≠ kind) : scanF L kind (f + 1) i over = scanF L kind f (i + 1) (-1) := by
  rw [scanF, if_neg h, if_neg hk]
theorem scan_len : ∀ f i over, (scanF L kind f i over).length ≤ f
  | 0, _, _ => Nat.le_refl _
  | f + 1, i, over => by
    rw [scanF]
    split
    · have := scan_len f (i + 1) over; omega
    · split
      · have := scan_len f (i + 1) (dp L i); rw [List.length_cons]; omega
      · have := scan_len f (i + 1) (-1); omega
theorem scan_in (h : Sp L 0 L.length) {i m e : Nat} (hs : Sp L i m) (he : m ≤ e) : ∀ d x, x + d = m → i < x → scanF L kind (e - x) x (dp L i) = scanF L kind (e - m) m (dp L i)
  | 0, x, hx, _ => by rw [show x = m from by omega]
  | d + 1, x, hx, hi => by
    rw [show e - x = (e - (x + 1)) + 1 by omega, scan_skip ⟨dp_pos h hs.1, sp_deep h hs hi (by omega)⟩]
    exact scan_in h hs he d (x + 1) (by omega) (by omega)
theorem scan_out (h : Sp L 0 L.length) {i m e : Nat} (hs : Sp L i m) (he : e ≤ L.length) : scanF L kind (e - m) m (dp L i) = scanF L kind (e - m) m (-1) := by
  rcases Nat.lt_or_ge m e with hm | hm
  · rw [show e - m = (e - (m + 1)) + 1 by omega]
    have h1 := sp_next h hs (by omega)
    show (if _ then _ else _) = (if _ then _ else _)
    rw [if_neg (show ¬ (0 ≤ dp L i ∧ dp L i < dp L m) by omega), if_neg (show ¬ ((0 : Int) ≤ -1 ∧ -1 < dp L m) by omega)]
  · rw [show e - m = 0 by omega]; rfl
/-- A node that is found: what lies beneath it is passed by. -/
theorem scan_span (h : Sp L 0 L.length) {i m e : Nat} (hs : Sp L i m) (hm : m ≤ e) (he : e ≤ L.length) (hk : (nd L (i : Int)).k = kind) : scanF L kind (e - i) i (-1) = (i : Int) :: scanF L kind (e - m) m (-1) := by
  have := hs.lt
  rw [show e - i = (e - (i + 1)) + 1 by omega, scan_hit (by omega) hk, scan_in h hs hm (m - (i + 1)) (i + 1) (by omega) (by omega), scan_out h hs he]
end
/-- What Find goes through. -/
def FindOf (L : List Nd) (n kind : Int) (l : List Int) : Prop :=
  (¬ ((chk L).2 = 0 ∧ 0 ≤ n ∧ n < (L.length : Int)) → l = []) ∧
  ((chk L).2 = 0 ∧ 0 ≤ n ∧ n < (L.length : Int) → ∃ e, Sp L n.toNat e ∧ l = scanF L kind (e - (n.toNat + 1)) (n.toNat + 1) (-1))
theorem findOf_det {L : List Nd} {n kind : Int} {l l' : List Int} (h : FindOf L n kind l) (h' : FindOf L n kind l') : l = l' := by
  by_cases h0 : (chk L).2 = 0 ∧ 0 ≤ n ∧ n < (L.length : Int)
  · obtain ⟨e, h1, h2⟩ := h.2 h0
    obtain ⟨e', h3, h4⟩ := h'.2 h0
    obtain rfl := h1.det h3
    rw [h2, h4]
  · rw [h.1 h0, h'.1 h0]
theorem findOf_len {L : List Nd} {n kind : Int} {l : List Int} (h : FindOf L n kind l) : l.length ≤ L.length := by
  by_cases h0 : (chk L).2 = 0 ∧ 0 ≤ n ∧ n < (L.length : Int)
  · obtain ⟨e, h1, h2⟩ := h.2 h0
    have := h1.len
    have := scan_len (L := L) (kind := kind) (e - (n.toNat + 1)) (n.toNat + 1) (-1)
    rw [h2]; omega
  · rw [h.1 h0]; exact Nat.zero_le _
/-! ### one node after another -/
/-- Where the program stands once it has seen the first q nodes and goes on: how deep n stands, one that was found, what was found. -/
def FdS (L : List Nd) (n : Nat) (e : Nat) (kind : Int) (R : List Int) (q : Nat) (top over : Int) (found : List Int) : Prop :=
  (q ≤ n ∧ top = -1 ∧ over = -1 ∧ found = []) ∨ (n < q ∧ q ≤ e ∧ top = dp L n ∧ -1 ≤ over ∧ found ++ scanF L kind (e - q) q over = R)
theorem fdS_start {L : List Nd} {n e : Nat} {kind : Int} {R : List Int} : FdS L n e kind R 0 (-1) (-1) [] := .inl ⟨Nat.zero_le _, rfl, rfl, rfl⟩
section
variable {L : List Nd} {n e : Nat} {kind : Int} {R : List Int} {q : Nat} {top over : Int} {found : List Int}
/-- The node itself. -/
theorem fdS_self (hs : Sp L n e) (hR : R = scanF L kind (e - (n + 1)) (n + 1) (-1)) (h : FdS L n e kind R n top over found) : FdS L n e kind R (n + 1) (dp L n) over found := by
  have := hs.lt
  rcases h with ⟨_, h2, h3, h4⟩ | ⟨h1, _⟩
  · subst h2 h3 h4 hR
    exact .inr ⟨by omega, by omega, rfl, by omega, rfl⟩
  · omega
/-- Ahead of the node. -/
theorem fdS_ahead (h0 : Sp L 0 L.length) (hs : Sp L n e) (hqn : q ≠ n) (ht : top < 0) (h : FdS L n e kind R q top over found) : FdS L n e kind R (q + 1) top over found := by
  rcases h with ⟨h1, h2, h3, h4⟩ | ⟨_, _, h2, _⟩
  · exact .inl ⟨by omega, h2, h3, h4⟩
  · have := dp_pos h0 hs.1; omega
/-- Behind all beneath the node. -/
theorem fdS_end (h0 : Sp L 0 L.length) (hs : Sp L n e) (ht : 0 ≤ top) (hd : dp L q ≤ top) (h : FdS L n e kind R q top over found) : found = R := by
  rcases h with ⟨_, h2, _⟩ | ⟨h1, h2, h3, _, h5⟩
  · omega
  · rcases Nat.eq_or_lt_of_le h2 with rfl | h6
    · rw [Nat.sub_self] at h5; simpa [scanF] using h5
    · have := sp_deep h0 hs h1 h6; omega
theorem fdS_lt (h0 : Sp L 0 L.length) (hs : Sp L n e) (hq : q < L.length) (ht : 0 ≤ top) (hd : top < dp L q) (h : FdS L n e kind R q top over found) : n < q ∧ q < e ∧ top = dp L n ∧ -1 ≤ over ∧ found ++ scanF L kind (e - q) q over = R := by
  rcases h with ⟨_, h2, _⟩ | ⟨h1, h2, h3, h4, h5⟩
  · omega
  · refine ⟨h1, ?_, h3, h4, h5⟩
    rcases Nat.eq_or_lt_of_le h2 with rfl | h6
    · have := sp_next h0 hs hq; omega
    · exact h6
theorem fdS_skip (h0 : Sp L 0 L.length) (hs : Sp L n e) (hq : q < L.length) (ht : 0 ≤ top) (hd : top < dp L q) (ho : 0 ≤ over) (hod : over < dp L q) (h : FdS L n e kind R q top over found) : FdS L n e kind R (q + 1) top over found := by
  obtain ⟨h1, h2, h3, h4, h5⟩ := fdS_lt h0 hs hq ht hd h
  rw [show e - q = (e - (q + 1)) + 1 by omega, scan_skip ⟨ho, hod⟩] at h5
  exact .inr ⟨by omega, by omega, h3, h4, h5⟩
theorem fdS_hit (h0 : Sp L 0 L.length) (hs : Sp L n e) (hq : q < L.length) (ht : 0 ≤ top) (hd : top < dp L q) (ho : ¬ (0 ≤ over ∧ over < dp L q)) (hk : (nd L (q : Int)).k = kind) (h : FdS L n e kind R q top over found) : FdS L n e kind R (q + 1) top (dp L q) (found ++ [(q : Int)]) := by
  obtain ⟨h1, h2, h3, h4, h5⟩ := fdS_lt h0 hs hq ht hd h
  rw [show e - q = (e - (q + 1)) + 1 by omega, scan_hit ho hk] at h5
  exact .inr ⟨by omega, by omega, h3, by omega, by rw [List.append_assoc]; exact h5⟩
theorem fdS_miss (h0 : Sp L 0 L.length) (hs : Sp L n e) (hq : q < L.length) (ht : 0 ≤ top) (hd : top < dp L q) (ho : ¬ (0 ≤ over ∧ over < dp L q)) (hk : (nd L (q : Int)).k ≠ kind) (h : FdS L n e kind R q top over found) : FdS L n e kind R (q + 1) top (-1) found := by
  obtain ⟨h1, h2, h3, h4, h5⟩ := fdS_lt h0 hs hq ht hd h
  rw [show e - q = (e - (q + 1)) + 1 by omega, scan_miss ho hk] at h5
  exact .inr ⟨by omega, by omega, h3, by omega, h5⟩
/-- All nodes seen. -/
theorem fdS_all (hs : Sp L n e) (h : FdS L n e kind R L.length top over found) : found = R := by
  have := hs.len
  have := hs.1
  rcases h with ⟨h1, _⟩ | ⟨h1, h2, h3, _, h5⟩
  · omega
  · rw [show e - L.length = 0 by omega] at h5; simpa [scanF] using h5
theorem fdS_few (h : FdS L n e kind R q top over found) (hq : n < q → R.length ≤ L.length) : found.length ≤ L.length := by
  rcases h with ⟨_, _, _, h4⟩ | ⟨h1, _, _, _, h5⟩
  · rw [h4]; exact Nat.zero_le _
  · have := hq h1
    rw [← h5, List.length_append] at this
    omega
end
end Go.Proofs.YtjaijlkonkgnmaaGreatDoor
