/- Some texts of this claim, put together. -/
import Derived.Test.YtpkdhciokiomlaaDoorHPgDec
import Derived.Test.YtpkdhciokiomlaaDoorHBZ3
import Derived.Test.YtpkdhciokiomlaaDoorHBZ2
import Derived.Test.YtpkdhciokiomlaaDoorHT1
import Derived.Lib.SplitLaws
namespace Go.Proofs.YtpkdhciokiomlaaDoor
section
set_option linter.unusedVariables false
set_option linter.unusedSimpArgs false
set_option linter.unnecessarySimpa false
open Go.RowKit
attribute [local go_sem] cell_alloc_add cell_set_add lt_more
theorem DecW (s : ByteArray) (k : Nat) (hk : k < s.size) (hs : s.size ≤ 140737488351232) (hi m cap : Nat) (w : World) (fr : Nat × Nat) (hhi : hi = min s.size (k + 4)) (hm : m = hi - k) (hcap : m ≤ cap) :
    Calls Tryd.prog 50 #[.slice (some ⟨w.heap.size, 0, none⟩) m cap, .int .i64 0] (w.alloc (.cells (bytesRow (s.extract k hi) cap) 5 fr)).drew
      fun e w' => e = .returned (.tuple #[.int .i32 (rn s k : Int), .int .i64 (wd s k : Int), .bool (gd s k)]) ∧ Below w.heap.size w w' := by
  have hsz : (s.extract k hi).size = m := by rw [ByteArray.size_extract]; omega
  have hrd := (rd_row w (s.extract k hi) cap 5 fr).drew
  have hd := Decode_any (s.extract k hi) (some ⟨w.heap.size, 0, none⟩) cap 0 (by omega) (by omega) _ hrd
  rw [hsz] at hd
  obtain ⟨e1, e2, e3⟩ := dec_window hk
  rw [← hhi] at e1 e2 e3
  refine hd.mono fun e w' ⟨he, hw⟩ => ⟨?_, ?_⟩
  · rw [he]; exact ret_iib (by rw [← e1]; exact decR_in (i := 0) (by omega)) (by rw [← e2]; exact decN_in (i := 0) (by omega)) (by rw [← e3]; exact decG_in (i := 0) (by omega))
  · subst hw; exact ((Below.refl _ _).alloc (Nat.le_refl _) _).drew
theorem good_at {s : ByteArray} {pre : List Nat} {k : Nat} (hp : AtPlace s pre k) (hk : k < s.size) (h : good s = true) : gd s k = true := by
  have h1 : k ∈ places s := by rw [hp.1, placesAt_step hk]; simp
  exact List.all_eq_true.1 h k h1
theorem good_not {s : ByteArray} {pre : List Nat} {k : Nat} (hp : AtPlace s pre k) (hk : k < s.size) (h : gd s k = false) : good s = false := by
  rcases Bool.eq_false_or_eq_true (good s) with h1 | h1
  · have := good_at hp hk h1; rw [h] at this; cases this
  · exact h1
theorem good_end {s : ByteArray} {pre : List Nat} {k : Nat} (hp : AtPlace s pre k) (hk : ¬ k < s.size) (h : pre.all (gd s) = true) : good s = true := by
  rw [hp.fin hk] at h; exact h
set_option maxRecDepth 100000 in
set_option maxHeartbeats 4000000 in
theorem good_any (s : ByteArray) (hs : s.size ≤ 140737488351232) (w : World) : Calls Tryd.prog 33 #[.string s] w fun e w' => e = .returned (.bool (good s)) ∧ Below w.heap.size w w' := by
  have kb := fun (w : World) (x : ByteArray) => run_bytes_of_string (P := Tryd.prog) w 9 72 5 x Tryd.underlying9 Tryd.underlying72 Tryd.underlying5
  obtain ⟨R, hR⟩ : ∃ R, R = good s := ⟨_, rfl⟩
  rw [← hR]
  have HR := Lib.hid hR
  clear hR
  go_enter Tryd.func33, Tryd.ntmps33
  go_wp2
  go_loopw [3] (fun i wr => ∃ (pre : List Nat) (k : Nat), i = .int .i64 (k : Int) ∧ AtPlace s pre k ∧ Hid (pre.all (gd s) = true) ∧ Below w.heap.size w wr) (fun i _ => s.size - (intOf i).toNat)
  case atStart => exact ⟨[], 0, rfl, AtPlace.start s, Lib.hid rfl, Below.refl _ _⟩
  case round =>
    obtain ⟨pre, k, rfl, hp, HA, hb⟩ := hrel
    have hk := hp.2
    by_cases hlt : k < s.size
    · have hw1 := wd_bd hlt
      cases hg : gd s k
      · have hRf : R = false := by rw [HR.out]; exact good_not hp hlt hg
        subst hRf
        go_wp2_with (first
          | (go_at_call 50; (with_reducible refine (DecW s k hlt hs _ _ _ wr _ (by omega) (by omega) (by first | exact grownCap_ge _ _ _ _ | omega)).mono ?_); rintro e w1 ⟨rfl, hb1⟩)
          | fail)
        go_ret
        exact ⟨rfl, hb.trans (hb1.mono hb.size)⟩
      · go_wp2_with (first
          | (go_at_call 50; (with_reducible refine (DecW s k hlt hs _ _ _ wr _ (by omega) (by omega) (by first | exact grownCap_ge _ _ _ _ | omega)).mono ?_); rintro e w1 ⟨rfl, hb1⟩)
          | fail)
        exact ⟨⟨pre ++ [k], k + wd s k, by go_num, hp.step hlt, Lib.hid (by rw [List.all_append, HA.out]; simp [hg]), hb.trans (hb1.mono hb.size)⟩, by simp [intOf]; omega⟩
    · have hRt : R = true := by rw [HR.out]; exact good_end hp hlt HA.out
      subst hRt
      go_wp2
      go_ret
      exact ⟨rfl, hb⟩
end
section
set_option linter.unusedVariables false
set_option linter.unusedSimpArgs false
set_option linter.unnecessarySimpa false
open Go.RowKit
attribute [local go_sem] cell_alloc_add cell_set_add lt_more get_btT
theorem letter_digit {c : Nat} (h : letterB c = true) : digitB c = false := by
  simp [letterB, digitB] at *
  omega
theorem isName_letter {s : ByteArray} (h : 0 < s.size) : isName s.data.toList = (letterB (bt s 0) && !reserved s.data.toList && namesL (s.data.toList.drop 1)) := by
  rw [isName_eq s h]
  have h0 := names_from h
  rw [show s.data.toList.drop 0 = s.data.toList from rfl] at h0
  rw [h0]
  unfold nameB
  cases hl : letterB (bt s 0)
  · cases digitB (bt s 0) <;> simp
  · rw [letter_digit hl]; simp
theorem nonempty_str {s : ByteArray} (h : 0 < s.size) : s.toList.isEmpty = false ∧ s.toList ≠ [] := by
  have := str_eq s ⟨#[]⟩
  cases hl : s.toList with
  | nil =>
    rw [hl] at this
    have h9 : s.data.toList = [] := by simpa using this
    have h8 : s.size = 0 := by show s.data.size = 0; rw [← Array.length_toList, h9]; rfl
    omega
  | cons a l => exact ⟨rfl, by simp⟩
theorem empty_str {s : ByteArray} (h : s.size = 0) : s = ⟨#[]⟩ := by
  apply ByteArray.ext
  apply Array.eq_empty_of_size_eq_zero
  exact h
/-! ### texts between dots -/
theorem dots_snoc (acc : List UInt8) : ∀ (l : List UInt8) (c : UInt8) , c ≠ 46 → (∀ x ∈ l, x ≠ 46) → dots acc (l ++ [c]) = [acc ++ l ++ [c]]
  | [], c, hc, _ => by simp [dots, hc]
  | a :: l, c, hc, hl => by
    have ha : a ≠ 46 := hl a (by simp)
    simp only [List.cons_append, dots, if_neg ha]
    rw [dots_snoc (acc ++ [a]) l c hc (fun x hx => hl x (by simp [hx]))]
    simp
/-- What is still to be asked, with a part begun. -/
def dotsB (acc l : List UInt8) : Bool := (dots acc l).all isName
theorem dotsB_nil (acc : List UInt8) : dotsB acc [] = isName acc := by simp [dotsB, dots]
theorem dotsB_dot (acc l : List UInt8) : dotsB acc (46 :: l) = (isName acc && dotsB [] l) := by simp [dotsB, dots]
theorem dotsB_other (acc : List UInt8) {c : UInt8} (l : List UInt8) (h : c ≠ 46) : dotsB acc (c :: l) = dotsB (acc ++ [c]) l := by simp [dotsB, dots, h]
theorem drop_at {s : ByteArray} {j : Nat} (h : j < s.size) : s.data.toList.drop j = s.data.toList[j]'(by simpa using h) :: s.data.toList.drop (j + 1) := List.drop_eq_getElem_cons (by simpa using h)
theorem extract_one {s : ByteArray} {i : Nat} (h : i < s.size) : (s.extract i (i + 1)).data.toList = [s.data.toList[i]'(by simpa using h)] := by
  have : i < s.data.toList.length := by simpa using h
  rw [ByteArray.data_extract]
  simp [List.take_one, List.drop_eq_getElem_cons this]
/-! ### a text among others -/
def amongTo (l : List UInt8) (ws : List ByteArray) (k : Nat) : Prop := ¬ l ∈ (ws.take k).map fun b => b.data.toList
theorem among_next {l : List UInt8} {ws : List ByteArray} {k : Nat} (hk : k < ws.length) (h : amongTo l ws k) (hne : (ws.getD k ⟨#[]⟩).data.toList ≠ l) : amongTo l ws (k + 1) := by
  unfold amongTo at *
  rw [List.take_succ_eq_append_getElem hk, List.map_append, List.mem_append]
  rintro (h1 | h1)
  · exact h h1
  · have e : ws.getD k ⟨#[]⟩ = ws[k] := by simp [List.getD, hk]
    rw [e] at hne
    simp at h1
    exact hne h1.symm
def amongB (l : List UInt8) (ws : List ByteArray) : Bool := decide (l ∈ ws.map fun b => b.data.toList)
end
section
set_option linter.unusedVariables false
set_option linter.unusedSimpArgs false
set_option linter.unnecessarySimpa false
open Go.RowKit
attribute [local go_sem] cell_alloc_add cell_set_add lt_more
theorem splitK_ne (c : UInt8) (hc : c ≠ 46) : ∀ (k : Nat) (l : List UInt8), ∃ h t, Lib.splitK [46] 0 k l = h :: t ∧ Lib.splitK [46] 0 k (c :: l) = (c :: h) :: t
  | 0, l => ⟨l, [], rfl, rfl⟩
  | k + 1, l => by
    have hp : ([46] : List UInt8).isPrefixOf (c :: l) = false := by simp [List.isPrefixOf, Ne.symm hc]
    have hix : Lib.index (c :: l) [46] = if Lib.index l [46] == -1 then -1 else Lib.index l [46] + 1 := by rw [Lib.index, hp]; simp
    by_cases hm : Lib.index l [46] = -1
    · refine ⟨l, [], ?_, ?_⟩
      · unfold Lib.splitK; rw [if_pos (by simpa using hm)]
      · unfold Lib.splitK; rw [if_pos (by rw [hix]; simp [hm])]
    · have hge := Lib.index_ge l [46]
      obtain ⟨j, hj⟩ : ∃ j : Nat, Lib.index l [46] = j := ⟨(Lib.index l [46]).toNat, by omega⟩
      have hix' : Lib.index (c :: l) [46] = ((j + 1 : Nat) : Int) := by rw [hix, if_neg (fun e => hm (beq_iff_eq.1 e)), hj]; omega
      refine ⟨l.take j, Lib.splitK [46] 0 k (l.drop (j + 1)), ?_, ?_⟩
      · rw [Lib.splitK, if_neg (by simp [hj] <;> omega), hj]; simp
      · rw [Lib.splitK, if_neg (by simp [hix'] <;> omega), hix']; simp
theorem dots_split : ∀ (l acc : List UInt8), ∃ h t, Lib.splitK [46] 0 (Lib.count l [46]) l = h :: t ∧ dots acc l = (acc ++ h) :: t
  | [], acc => ⟨[], [], by rw [Lib.count_one]; rfl, by simp [dots]⟩
  | c :: l, acc => by
    by_cases hc : c = 46
    · subst hc
      obtain ⟨h, t, e1, e2⟩ := dots_split l []
      have hix : Lib.index (46 :: l) [46] = 0 := by rw [Lib.index]; simp [List.isPrefixOf]
      refine ⟨[], Lib.splitK [46] 0 (Lib.count l [46]) l, ?_, ?_⟩
      · rw [Lib.count_cons_eq, show 1 + Lib.count l [46] = Lib.count l [46] + 1 by omega, Lib.splitK, if_neg (by rw [hix]; decide), hix]; simp
      · simp [dots, e2, e1]
    · obtain ⟨h, t, e1, e2⟩ := dots_split l (acc ++ [c])
      obtain ⟨h', t', f1, f2⟩ := splitK_ne c hc (Lib.count l [46]) l
      rw [e1] at f1
      injection f1 with f1 f1'
      subst f1 f1'
      refine ⟨c :: h, t, ?_, ?_⟩
      · rw [Lib.count_cons_ne c 46 l hc]; exact f2
      · simp only [dots, if_neg hc, e2]; simp
theorem dots_len : ∀ (l acc : List UInt8), ∀ p ∈ dots acc l, p.length ≤ acc.length + l.length
  | [], acc, p, hp => by simp [dots] at hp; subst hp; simp
  | c :: l, acc, p, hp => by
    unfold dots at hp
    split at hp
    · rcases List.mem_cons.1 hp with rfl | hp
      · simp
      · have := dots_len l [] p hp; simp at this ⊢; omega
    · have := dots_len l (acc ++ [c]) p hp; simp at this ⊢; omega
/-- The parts of a text between dots. -/
def partsB (s : ByteArray) : List ByteArray := Lib.splitB ⟨#[46]⟩ 0 (Lib.countB s ⟨#[46]⟩) s
theorem parts_map (s : ByteArray) : (partsB s).map (fun b => b.data.toList) = dots [] s.data.toList := by
  have h1 : (partsB s).map (fun b => b.data.toList) = Lib.splitK [46] 0 (Lib.countB s ⟨#[46]⟩) s.data.toList := Lib.splitB_data ⟨#[46]⟩ 0 _ s
  obtain ⟨h, t, e1, e2⟩ := dots_split s.data.toList []
  rw [h1, e2, List.nil_append, ← e1]
  first | rfl | done
theorem parts_len (s : ByteArray) : (partsB s).length = Lib.countB s ⟨#[46]⟩ + 1 := Lib.splitB_all ⟨#[46]⟩ (by decide) 0 _ s rfl
theorem part_size {s p : ByteArray} (h : p ∈ partsB s) : p.size ≤ s.size := by
  have h1 : p.data.toList ∈ dots [] s.data.toList := by rw [← parts_map]; exact List.mem_map_of_mem (f := fun b : ByteArray => b.data.toList) h
  have h2 := dots_len _ _ _ h1
  have e1 : p.data.toList.length = p.size := by rw [Array.length_toList]; rfl
  have e2 : s.data.toList.length = s.size := by rw [Array.length_toList]; rfl
  simp at h2
  have e3 : p.data.size = p.size := rfl
  have e4 : s.data.size = s.size := rfl
  omega
theorem dotted_parts (s : ByteArray) : dottedB s.data.toList = (partsB s).all fun b => isName b.data.toList := by
  unfold dottedB
  rw [← parts_map, List.all_map]
  rfl
theorem mem_contains (l : List UInt8) : Lib.contains l [32] = decide ((32 : UInt8) ∈ l) := by
  rw [Bool.eq_iff_iff, contains_iff, decide_eq_true_eq]
  constructor
  · rintro ⟨p, q, h⟩
    rw [← h]; simp
  · intro h
    obtain ⟨p, q, e⟩ := List.append_of_mem h
    exact ⟨p, q, by rw [e]; simp⟩
theorem mem_false (l : List UInt8) (h : Lib.contains l [32] = false) : ∀ x ∈ l, x ≠ 32 := fun x hx e => by
  subst e
  rw [mem_contains, decide_eq_false_iff_not] at h
  exact h hx
/-- Words, none of them empty, none with a blank. -/
def wordsOk (ws : List (List UInt8)) : Bool := ws.all fun w => !w.isEmpty && w.all fun x => x != 32
theorem inS_space {l : List UInt8} {ws : List (List UInt8)} (hw : wordsOk ws = true) (h : Lib.contains l [32] = true) : inS l ws = false := by
  rw [mem_contains, decide_eq_true_eq] at h
  unfold inS
  rw [decide_eq_false_iff_not]
  intro hl
  have h1 := List.all_eq_true.1 hw l hl
  rw [Bool.and_eq_true] at h1
  have h2 := List.all_eq_true.1 h1.2 32 h
  simp at h2
theorem inS_empty {ws : List (List UInt8)} (hw : wordsOk ws = true) : inS [] ws = false := by
  unfold inS
  rw [decide_eq_false_iff_not]
  intro hl
  have h1 := List.all_eq_true.1 hw [] hl
  simp at h1
theorem words_all {ws : List (List UInt8)} (hw : wordsOk ws = true) : (ws.all fun w => w.all fun x => x != 32) = true :=
  List.all_eq_true.2 fun w h => by have h1 := List.all_eq_true.1 hw w h; rw [Bool.and_eq_true] at h1; exact h1.2
theorem cat_data (s : ByteArray) : (⟨#[32]⟩ ++ s ++ ⟨#[32]⟩ : ByteArray).data.toList = 32 :: (s.data.toList ++ [32]) := by simp
set_option maxRecDepth 100000 in
set_option maxHeartbeats 4000000 in
theorem among_any (s W : ByteArray) (ws : List (List UInt8)) (hz : s.size ≤ 4000000) (hW : (⟨#[32]⟩ ++ W ++ ⟨#[32]⟩ : ByteArray).data.toList = blanked ws) (hWz : W.size ≤ 1000) (hw : wordsOk ws = true) (w : World) (hm : Mx w) :
    Calls Tryd.prog 34 #[.string s, .string W] w fun e w' => e = .returned (.bool (inS s.data.toList ws)) ∧ w = w' := by
  obtain ⟨m, hm⟩ := hm
  by_cases h0 : s.size = 0
  · obtain rfl := empty_str h0
    have hE := Lib.hid (inS_empty hw)
    go_enter Tryd.func34, Tryd.ntmps34
    go_wp2
    go_ret
    exact ⟨ret_bool hE.out.symm, rfl⟩
  · obtain ⟨hne, hne2⟩ := nonempty_str (s := s) (by omega)
    have hne3 : (!s.toList.isEmpty) = true := by rw [hne]; rfl
    have H1 := Lib.hid ((Tryd.strings_Contains s ⟨#[32]⟩ m w (by omega) hm).mono fun _ _ ⟨h1, h2⟩ => (⟨h1, h2.symm⟩ : _ ∧ w = _))
    have z1 : (⟨#[32]⟩ ++ W ++ ⟨#[32]⟩ : ByteArray).size < 4294967281 := by rw [ByteArray.size_append, ByteArray.size_append]; show 1 + W.size + 1 < _; omega
    have H2 := Lib.hid ((Tryd.strings_Contains (⟨#[32]⟩ ++ W ++ ⟨#[32]⟩) (⟨#[32]⟩ ++ s ++ ⟨#[32]⟩) m w z1 hm).mono fun _ _ ⟨h1, h2⟩ => (⟨h1, h2.symm⟩ : _ ∧ w = _))
    have hcc := Lib.hid (fun h : Lib.contains s.data.toList [32] = false => (show Lib.contains (⟨#[32]⟩ ++ W ++ ⟨#[32]⟩ : ByteArray).data.toList (⟨#[32]⟩ ++ s ++ ⟨#[32]⟩ : ByteArray).data.toList = inS s.data.toList ws by rw [hW, cat_data, among_eq _ (mem_false _ h) ws (words_all hw)]; rfl))
    have hss := Lib.hid (fun h => inS_space (l := s.data.toList) hw h)
    clear hm hW
    cases hc : Lib.contains s.data.toList [32]
    · have hr := hcc.out hc
      have H3 := H2.out
      rw [hr] at H3
      have H4 := Lib.hid H3
      have hc' : Lib.contains s.data.toList (⟨#[32]⟩ : ByteArray).data.toList = false := hc
      have H5 := H1.out
      rw [hc'] at H5
      have H6 := Lib.hid H5
      clear H1 H2 H3 H5 hcc hss hr hc hc'
      generalize inS s.data.toList ws = R at *
      go_enter Tryd.func34, Tryd.ntmps34
      go_wp2_with (first | (go_at_call 51; (with_reducible refine H6.out.mono ?_); rintro e w9 ⟨rfl, rfl⟩) | (go_at_call 51; (with_reducible refine H4.out.mono ?_); rintro e w9 ⟨rfl, rfl⟩) | fail)
      go_ret
      exact ⟨rfl, rfl⟩
    · have hr := Lib.hid (hss.out hc)
      have hc' : Lib.contains s.data.toList (⟨#[32]⟩ : ByteArray).data.toList = true := hc
      have H5 := H1.out
      rw [hc'] at H5
      have H6 := Lib.hid H5
      clear H1 H2 H5 hcc hss hc hc'
      go_enter Tryd.func34, Tryd.ntmps34
      go_wp2_with (first | (go_at_call 51; (with_reducible refine H6.out.mono ?_); rintro e w9 ⟨rfl, rfl⟩) | fail)
      go_ret
      exact ⟨ret_bool hr.out.symm, rfl⟩
end
end Go.Proofs.YtpkdhciokiomlaaDoor
