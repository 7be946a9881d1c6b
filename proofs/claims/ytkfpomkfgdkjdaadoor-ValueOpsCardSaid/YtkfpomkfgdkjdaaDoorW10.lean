/- Plain: rows of runes compared. The walks of value.compared and shuckref14.less. -/
import Derived.Test.YtkfpomkfgdkjdaaDoorRefRun
import Derived.WalkMore
import Derived.TacticsInMore
import Derived.Deep.DeepCutAuto
import Derived.Deep.RegionWith
import Derived.Deep.RegionHeld3
namespace Go.Proofs.YtkfpomkfgdkjdaaDoor
set_option linter.unusedVariables false
set_option linter.unusedSimpArgs false
open Go.RowKit
attribute [local go_sem] cell_alloc_add cell_set_add lt_more
/-- The first difference of two rows, else the difference of their lengths. -/
def cmpL : List Int → List Int → Int
  | x :: xs, y :: ys => if x = y then cmpL xs ys else x - y
  | xs, ys => (xs.length : Int) - (ys.length : Int)
theorem cmp_nil (l m : List Int) (h : l = [] ∨ m = []) : cmpL l m = (l.length : Int) - (m.length : Int) := by
  rcases h with rfl | rfl
  · cases m <;> rfl
  · cases l <;> rfl
theorem cmp_end {l m : List Int} {i : Nat} (hl : i ≤ l.length) (hm : i ≤ m.length) (h : l.length = i ∨ m.length = i) : cmpL (l.drop i) (m.drop i) = (l.length : Int) - (m.length : Int) := by
  rw [cmp_nil _ _ (by rcases h with h | h; exact .inl (List.drop_of_length_le (by omega)); exact .inr (List.drop_of_length_le (by omega)))]
  simp; omega
theorem drop_at {l : List Int} {i : Nat} (h : i < l.length) : l.drop i = l.getD i 0 :: l.drop (i + 1) := by
  rw [List.drop_eq_getElem_cons h]; simp [h]
theorem cmp_same {l m : List Int} {i : Nat} (hl : i < l.length) (hm : i < m.length) (h : l.getD i 0 = m.getD i 0) : cmpL (l.drop i) (m.drop i) = cmpL (l.drop (i + 1)) (m.drop (i + 1)) := by
  rw [drop_at hl, drop_at hm]; exact if_pos h
theorem cmp_diff {l m : List Int} {i : Nat} (hl : i < l.length) (hm : i < m.length) (h : l.getD i 0 ≠ m.getD i 0) : cmpL (l.drop i) (m.drop i) = l.getD i 0 - m.getD i 0 := by
  rw [drop_at hl, drop_at hm]; exact if_neg h
/-- How two texts compare, rune by rune. -/
def cmpT (s t : ByteArray) : Int := cmpL (runesOf s) (runesOf t)
theorem runesOf_len (s : ByteArray) : (runesOf s).length = (places s).length := by simp [runesOf]
theorem runesOf_at {s : ByteArray} {k p : Nat} (h : (places s)[k]? = some p) : (runesOf s).getD k 0 = (rn s p : Int) := by simp [runesOf, h]
theorem runesOf_bd (s : ByteArray) (k : Nat) : 0 ≤ (runesOf s).getD k 0 ∧ (runesOf s).getD k 0 ≤ 1114111 := by
  cases h : (places s)[k]? with
  | none => simp [runesOf, h]
  | some p => rw [runesOf_at h]; have := rn_bd s p; omega
def runesRow (s : ByteArray) (cap : Nat) : Array Value := ((runesOf s).map fun r => Value.int .i32 r).toArray ++ Array.replicate (cap - (places s).length) (.int .i32 0)
theorem runesFrom_row (s : ByteArray) : Conv.runesFrom s s.size 0 #[] = ((runesOf s).map fun r => Value.int .i32 r).toArray := by
  rw [runes_eq]; simp [runesOf]
theorem run_runes {P : Program} (src dst e : TypeId) (w : World) (s : ByteArray) (hs : P.underlying src = some .string) (hd : P.underlying dst = some (.slice e)) (he : P.underlying e = some (.int .i32)) (hz : s.size ≤ 1099511627776) :
    (convert src dst (.string s)).run P w = .ok (.slice (some ⟨w.heap.size, 0, none⟩) (places s).length (grownCap w (places s).length 0 e)) (w.drew.alloc (.cells (runesRow s (grownCap w (places s).length 0 e)) e)) := by
  have hn : (Conv.runesFrom s s.size 0 #[]).size = (places s).length := by rw [runes_eq]; simp
  have := run_runes_of_string w src dst e s hs hd he (by rw [hn]; have := places_len s; omega)
  rw [hn] at this
  rw [this, runesFrom_row]; rfl
theorem rd_runes (w : World) (s : ByteArray) (cap : Nat) (t : TypeId) (fr : Nat × Nat) : Rd (w.alloc (.cells (runesRow s cap) t fr)) (w.heap.size + 1) (some ⟨w.heap.size, 0, none⟩) (places s).length (fun j => .int .i32 ((runesOf s).getD j 0)) := fun j hj =>
  ⟨_, rfl, by simp, by
    rw [add_row, Nat.zero_add, World.cell?_alloc_mark]
    have hl : j < (runesOf s).length := by rw [runesOf_len]; exact hj
    unfold runesRow
    rw [Array.getElem?_append_left (by simpa using hl)]
    simp [hl]⟩
/-- The world behind a conversion to runes. -/
def runesW (w : World) (s : ByteArray) (e : TypeId) : World := w.drew.alloc (.cells (runesRow s (grownCap w (places s).length 0 e)) e)
def runesC (w : World) (s : ByteArray) (e : TypeId) : Nat := grownCap w (places s).length 0 e
theorem run_runesW {P : Program} (src dst e : TypeId) (w : World) (s : ByteArray) (hs : P.underlying src = some .string) (hd : P.underlying dst = some (.slice e)) (he : P.underlying e = some (.int .i32)) (hz : s.size ≤ 1099511627776) :
    (convert src dst (.string s)).run P w = .ok (.slice (some ⟨w.heap.size, 0, none⟩) (places s).length (runesC w s e)) (runesW w s e) := run_runes src dst e w s hs hd he hz
theorem runesW_size (w : World) (s : ByteArray) (e : TypeId) : (runesW w s e).heap.size = w.heap.size + 1 := by simp [runesW]
theorem runesW_below (w : World) (s : ByteArray) (e : TypeId) {B : Nat} (hB : B ≤ w.heap.size) : Below B w (runesW w s e) := (Below.refl B w).drew.alloc hB _
theorem runesW_rd (w : World) (s : ByteArray) (e : TypeId) : Rd (runesW w s e) (w.heap.size + 1) (some ⟨w.heap.size, 0, none⟩) (places s).length (fun j => .int .i32 ((runesOf s).getD j 0)) := rd_runes w.drew s _ e _
theorem rd_flat {w : World} {B n g : Nat} {f : Nat → Value} (h : Rd w B (some ⟨g, 0, none⟩) n f) {k : Nat} (hk : k < n) : w.cell? ⟨g, k, none⟩ = some (f k) := by
  have := h.at_ rfl hk
  rwa [add_row, Nat.zero_add] at this
set_option maxRecDepth 100000 in
set_option maxHeartbeats 4000000 in
theorem compared_any (s t : ByteArray) (hs : s.size ≤ 1099511627776) (ht : t.size ≤ 1099511627776) (w : World) :
    Calls Tryd.prog 40 #[.string s, .string t] w fun e w' => e = .returned (.int .i64 (cmpT s t)) ∧ Below w.heap.size w w' := by
  have ks := fun (w : World) => run_runesW (P := Tryd.prog) 9 70 21 w s Tryd.underlying9 Tryd.underlying70 Tryd.underlying21 hs
  have kt := fun (w : World) => run_runesW (P := Tryd.prog) 9 70 21 w t Tryd.underlying9 Tryd.underlying70 Tryd.underlying21 ht
  have hls := places_len s
  have hlt := places_len t
  have hS := fun k (hk : k < (places s).length) => rd_flat ((runesW_rd w s 21).below (runesW_below (runesW w s 21) t 21 (Nat.le_of_eq (runesW_size w s 21).symm))) hk
  have hT := fun k (hk : k < (places t).length) => rd_flat (runesW_rd (runesW w s 21) t 21) hk
  have hb : Below w.heap.size w (runesW (runesW w s 21) t 21) := (runesW_below w s _ (Nat.le_refl _)).trans (runesW_below _ t _ (by rw [runesW_size]; omega))
  have HS := Lib.hid hS
  have HT := Lib.hid hT
  have HN := Lib.hid (And.intro (runesOf_len s) (runesOf_len t))
  clear hS hT
  generalize (places s).length = n at *
  generalize (places t).length = m at *
  go_enter Tryd.func40, Tryd.ntmps40
  go_wp2
  go_step3
  go_wp2
  all_goals clear ks kt
  all_goals generalize runesW (runesW w s 21) t 21 = wt at *
  all_goals generalize (runesW w s 21).heap.size = gt at *
  refine wp_label ?_
  go_wp2
  go_loop [7, 8, 9, 21] (fun c _ _ i => ∃ k : Nat, k ≤ n ∧ k ≤ m ∧ i = .int .i64 k ∧ c = .int .i64 ((n : Int) - (m : Int)) ∧ cmpT s t = cmpL ((runesOf s).drop k) ((runesOf t).drop k)) (fun _ _ _ i => n - (intOf i).toNat)
  case atStart => exact ⟨0, Nat.zero_le _, Nat.zero_le _, rfl, rfl, rfl⟩
  case round =>
    obtain ⟨k, hk, hm, rfl, rfl, hco⟩ := hrel
    have HC := Lib.hid hco
    clear hco
    by_cases hkn : k < n
    · by_cases hlm : k < m
      · have c1 := HS.out k hkn
        have c2 := HT.out k hlm
        have b1 := runesOf_bd s k
        have b2 := runesOf_bd t k
        have H1 := Lib.hid (cmp_same (l := runesOf s) (m := runesOf t) (i := k) (by rw [HN.out.1]; exact hkn) (by rw [HN.out.2]; exact hlm))
        have H2 := Lib.hid (cmp_diff (l := runesOf s) (m := runesOf t) (i := k) (by rw [HN.out.1]; exact hkn) (by rw [HN.out.2]; exact hlm))
        generalize (runesOf s).getD k 0 = x at *
        generalize (runesOf t).getD k 0 = y at *
        have ekm : ((k : Int) == (m : Int)) = false := by simp; omega
        by_cases hxy : x = y
        · have exy : (x != y) = false := by simp [hxy]
          go_wp2
          exact ⟨⟨k + 1, by omega, by omega, by go_num, rfl, by rw [HC.out, H1.out hxy]⟩, by simp [intOf]; omega⟩
        · have exy : (x != y) = true := by simpa using hxy
          go_wp2
          go_ret
          exact ⟨by rw [HC.out, H2.out hxy]; rfl, hb⟩
      · obtain rfl : k = m := by omega
        have c1 := HS.out k hkn
        have H1 := Lib.hid (cmp_end (l := runesOf s) (m := runesOf t) (i := k) (by rw [HN.out.1]; omega) (by rw [HN.out.2]; omega) (.inr HN.out.2))
        generalize (runesOf s).getD k 0 = x at *
        go_wp2
        go_ret
        exact ⟨by rw [HC.out, H1.out, HN.out.1, HN.out.2]; rfl, hb⟩
    · obtain rfl : k = n := by omega
      have H1 := Lib.hid (cmp_end (l := runesOf s) (m := runesOf t) (i := k) (by rw [HN.out.1]; omega) (by rw [HN.out.2]; omega) (.inl HN.out.1))
      go_wp2
      go_ret
      exact ⟨by rw [HC.out, H1.out, HN.out.1, HN.out.2]; rfl, hb⟩
theorem rowsC_at (s : ByteArray) : ∀ (l : List Nat) (k p j : Nat), l[k]? = some p → j < 4 → (rowsC s l)[k * 4 + j]? = (rowC s p)[j]? := by
  intro l
  induction l with
  | nil => intro k p j h _; simp at h
  | cons a l ih =>
    intro k p j h hj
    have e : rowsC s (a :: l) = rowC s a ++ rowsC s l := by simp [rowsC]
    have hl : (rowC s a).length = 4 := rfl
    rw [e]
    cases k with
    | zero => simp at h; subst h; rw [List.getElem?_append_left (by omega)]; simp
    | succ k => simp at h; rw [List.getElem?_append_right (by omega), hl, show (k + 1) * 4 + j - 4 = k * 4 + j by omega]; exact ih k p j h hj
/-- A row of the reference's rows, read: the rune of the k-th. -/
theorem rows_read {w : World} {B : Nat} {v : Value} {s : ByteArray} (hown : w.ownsRow B 66 4 v (places s).length (rowsC s (places s))) :
    ∃ A c, v = .slice A (places s).length c ∧ ∀ k, k < (places s).length → ∃ g, A = some ⟨g, 0, none⟩ ∧ g < w.heap.size ∧ w.cell? ⟨g, k * 4 + 1, none⟩ = some (.int .i32 ((runesOf s).getD k 0)) := by
  rcases hown.2 with ⟨rfl, h0⟩ | ⟨g, cap, cur, rfl, _⟩
  · exact ⟨none, 0, by rw [h0], fun k hk => by omega⟩
  · refine ⟨_, _, rfl, fun k hk => ⟨g, rfl, own_lt hown g rfl, ?_⟩⟩
    obtain ⟨p, hp⟩ : ∃ p, (places s)[k]? = some p := ⟨_, List.getElem?_eq_getElem hk⟩
    have := hown.cells (g := g) rfl (k * 4 + 1) (.int .i32 (rn s p : Int)) (by rw [rowsC_at s _ k p 1 hp (by omega)]; rfl)
    rw [runesOf_at hp]
    rwa [add_row, Nat.zero_add] at this
set_option maxRecDepth 100000 in
set_option maxHeartbeats 4000000 in
theorem less_any (s t : ByteArray) (hs : s.size ≤ 1099511627776) (ht : t.size ≤ 1099511627776) (w : World) :
    Calls Tryd.prog 44 #[.string s, .string t] w fun e w' => e = .returned (.int .i64 (cmpT s t)) ∧ Below w.heap.size w w' := by
  have kb := fun (w : World) (x : ByteArray) => run_bytes_of_string (P := Tryd.prog) w 9 64 5 x Tryd.underlying9 Tryd.underlying64 Tryd.underlying5
  have hls := places_len s
  have hlt := places_len t
  go_enter Tryd.func44, Tryd.ntmps44
  go_upto_region 2 with (first | (go_at_call 48; (with_reducible refine (rRunes_any s (some ⟨w.heap.size, 0, none⟩) _ hs (grownCap_ge _ _ _ _) _ (by simp) (rd_row w s _ _ _).drew).mono ?_); rintro e w1 ⟨⟨v, rfl, hown⟩, hb1⟩))
  obtain ⟨A, c, rfl, hr⟩ := rows_read hown
  have hb : Below w.heap.size w w1 := ((Below.refl _ w).alloc (Nat.le_refl _) _).drew.trans (hb1.mono (by simp))
  have HR := Lib.hid hr
  clear hr hown hb1
  go_upto_region 3 with (first | (go_at_call 48; (with_reducible refine (rRunes_any t (some ⟨w1.heap.size, 0, none⟩) _ ht (grownCap_ge _ _ _ _) _ (by simp) (rd_row w1 t _ _ _).drew).mono ?_); rintro e w2 ⟨⟨v2, rfl, hown2⟩, hb2⟩))
  obtain ⟨A2, c2, rfl, hr2⟩ := rows_read hown2
  have hbb : Below w1.heap.size w1 w2 := ((Below.refl _ w1).alloc (Nat.le_refl _) _).drew.trans (hb2.mono (by simp))
  have hS : ∀ k, k < (places s).length → ∃ g, A = some ⟨g, 0, none⟩ ∧ g < w2.heap.size ∧ w2.cell? ⟨g, k * 4 + 1, none⟩ = some (.int .i32 ((runesOf s).getD k 0)) := fun k hk => by
    obtain ⟨g, e, hl, hc⟩ := HR.out k hk
    exact ⟨g, e, Nat.lt_of_lt_of_le hl hbb.size, (hbb.cell (p := ⟨g, k * 4 + 1, none⟩) hl).trans hc⟩
  have hT : ∀ k, k < (places t).length → ∃ g, A2 = some ⟨g, 0, none⟩ ∧ g < w2.heap.size ∧ w2.cell? ⟨g, k * 4 + 1, none⟩ = some (.int .i32 ((runesOf t).getD k 0)) := fun k hk => by
    obtain ⟨g, e, hl, hc⟩ := hr2 k hk
    exact ⟨g, e, hl, hc⟩
  have hbw : Below w.heap.size w w2 := hb.trans (hbb.mono hb.size)
  have HS := Lib.hid hS
  have HT := Lib.hid hT
  have HN := Lib.hid (And.intro (runesOf_len s) (runesOf_len t))
  clear hS hT hr2 hown2 hb2 HR hbb hb kb
  generalize (places s).length = n at *
  generalize (places t).length = m at *
  go_wp2
  go_loopw [7] (fun i wr => ∃ k : Nat, k ≤ n ∧ k ≤ m ∧ i = .int .i64 k ∧ Below w2.heap.size w2 wr ∧ cmpT s t = cmpL ((runesOf s).drop k) ((runesOf t).drop k)) (fun i _ => n - (intOf i).toNat)
  case atStart => exact ⟨0, Nat.zero_le _, Nat.zero_le _, rfl, Below.refl _ _, rfl⟩
  case round =>
    obtain ⟨k, hk, hm, rfl, hbr, hco⟩ := hrel
    have hzw := hbw.size
    have hbf := hbw.trans (hbr.mono hzw)
    have HC := Lib.hid hco
    clear hco
    by_cases hkn : k < n
    · by_cases hkm : k < m
      · obtain ⟨g, rfl, l1, d1⟩ := HS.out k hkn
        have c1 := (hbr.cell (p := ⟨g, k * 4 + 1, none⟩) l1).trans d1
        obtain ⟨g2, rfl, l2, d2⟩ := HT.out k hkm
        have c2 := (hbr.cell (p := ⟨g2, k * 4 + 1, none⟩) l2).trans d2
        clear d1 d2
        have b1 := runesOf_bd s k
        have b2 := runesOf_bd t k
        have H1 := Lib.hid (cmp_same (l := runesOf s) (m := runesOf t) (i := k) (by rw [HN.out.1]; exact hkn) (by rw [HN.out.2]; exact hkm))
        have H2 := Lib.hid (cmp_diff (l := runesOf s) (m := runesOf t) (i := k) (by rw [HN.out.1]; exact hkn) (by rw [HN.out.2]; exact hkm))
        generalize (runesOf s).getD k 0 = x at *
        generalize (runesOf t).getD k 0 = y at *
        by_cases hxy : x = y
        · have exy : (x != y) = false := by simp [hxy]
          go_wp2
          go_region
          all_goals go_wp2
          go_roundw
          case rel => exact ⟨k + 1, by omega, by omega, by go_num, hbr.drew, by rw [HC.out, H1.out hxy]⟩
          case measure => simp [intOf]; omega
        · have exy : (x != y) = true := by simpa using hxy
          go_wp2
          go_region
          all_goals go_wp2
          go_region
          all_goals go_wp2
          all_goals go_ret
          all_goals exact ⟨by rw [HC.out, H2.out hxy]; rfl, hbf.drew.drew⟩
      · obtain rfl : k = m := by omega
        have H1 := Lib.hid (cmp_end (l := runesOf s) (m := runesOf t) (i := k) (by rw [HN.out.1]; omega) (by rw [HN.out.2]; omega) (.inr HN.out.2))
        go_wp2
        go_ret
        exact ⟨by rw [HC.out, H1.out, HN.out.1, HN.out.2]; rfl, hbf⟩
    · obtain rfl : k = n := by omega
      have H1 := Lib.hid (cmp_end (l := runesOf s) (m := runesOf t) (i := k) (by rw [HN.out.1]; omega) (by rw [HN.out.2]; omega) (.inl HN.out.1))
      go_wp2
      go_ret
      exact ⟨by rw [HC.out, H1.out, HN.out.1, HN.out.2]; rfl, hbf⟩
end Go.Proofs.YtkfpomkfgdkjdaaDoor
