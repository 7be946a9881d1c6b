/- Some texts of this claim, put together. -/
import Derived.Test.YtpkdhciokiomlaaGreatDoorHPgDec
import Derived.Test.YtpkdhciokiomlaaGreatDoorHBZ3
import Derived.Test.YtpkdhciokiomlaaGreatDoorHBZ1
import Derived.Test.YtpkdhciokiomlaaGreatDoorHBZ12
import Derived.Lib.SplitLaws
namespace Go.Proofs.YtpkdhciokiomlaaGreatDoor
section
set_option linter.unusedVariables false
set_option linter.unusedSimpArgs false
set_option linter.unnecessarySimpa false
open Go.RowKit
attribute [local go_sem] cell_alloc_add cell_set_add lt_more
theorem DecW (s : ByteArray) (k : Nat) (hk : k < s.size) (hs : s.size ≤ 140737488351232) (hi m cap : Nat) (w : World) (fr : Nat × Nat) (hhi : hi = min s.size (k + 4)) (hm : m = hi - k) (hcap : m ≤ cap) :
    Calls Tryz.prog 64 #[.slice (some ⟨w.heap.size, 0, none⟩) m cap, .int .i64 0] (w.alloc (.cells (bytesRow (s.extract k hi) cap) 5 fr)).drew
      fun e w' => e = .returned (.tuple #[.int .i32 (rn s k : Int), .int .i64 (wd s k : Int), .bool (gd s k)]) ∧ Below w.heap.size w w' := by
  have hsz : (s.extract k hi).size = m := by rw [ByteArray.size_extract]; omega
  have hrd := (rd_row w (s.extract k hi) cap 5 fr).drew
  have hd := Decode_any (s.extract k hi) (some ⟨w.heap.size, 0, none⟩) cap 0 (by omega) (by omega) _ hrd
  rw [hsz] at hd
  obtain ⟨e1, e2, e3⟩ := dec_window hk
  rw [← hhi] at e1 e2 e3
  refine hd.mono fun e w' ⟨he, hw⟩ => ⟨?_, ?_⟩
  · rw [he]; exact ret_iib (by rw [← e1]; exact decR_in (i := 0) (by omega)) (by rw [← e2]; exact decN_in (i := 0) (by omega)) (by rw [← e3]; exact decG_in (i := 0) (by omega))
  · subst hw; exact ((Below.refl _ _).alloc (Nat.le_refl _) _).drew
theorem good_at {s : ByteArray} {pre : List Nat} {k : Nat} (hp : AtPlace s pre k) (hk : k < s.size) (h : good s = true) : gd s k = true := by
  have h1 : k ∈ places s := by rw [hp.1, placesAt_step hk]; simp
  exact List.all_eq_true.1 h k h1
theorem good_not {s : ByteArray} {pre : List Nat} {k : Nat} (hp : AtPlace s pre k) (hk : k < s.size) (h : gd s k = false) : good s = false := by
  rcases Bool.eq_false_or_eq_true (good s) with h1 | h1
  · have := good_at hp hk h1; rw [h] at this; cases this
  · exact h1
theorem good_end {s : ByteArray} {pre : List Nat} {k : Nat} (hp : AtPlace s pre k) (hk : ¬ k < s.size) (h : pre.all (gd s) = true) : good s = true := by
  rw [hp.fin hk] at h; exact h
set_option maxRecDepth 100000 in
set_option maxHeartbeats 4000000 in
theorem good_any (s : ByteArray) (hs : s.size ≤ 140737488351232) (w : World) : Calls Tryz.prog 45 #[.string s] w fun e w' => e = .returned (.bool (good s)) ∧ Below w.heap.size w w' := by
  have kb := fun (w : World) (x : ByteArray) => run_bytes_of_string (P := Tryz.prog) w 9 83 5 x Tryz.underlying9 Tryz.underlying83 Tryz.underlying5
  obtain ⟨R, hR⟩ : ∃ R, R = good s := ⟨_, rfl⟩
  rw [← hR]
  have HR := Lib.hid hR
  clear hR
  go_enter Tryz.func45, Tryz.ntmps45
  go_wp2
  go_loopw [3] (fun i wr => ∃ (pre : List Nat) (k : Nat), i = .int .i64 (k : Int) ∧ AtPlace s pre k ∧ Hid (pre.all (gd s) = true) ∧ Below w.heap.size w wr) (fun i _ => s.size - (intOf i).toNat)
  case atStart => exact ⟨[], 0, rfl, AtPlace.start s, Lib.hid rfl, Below.refl _ _⟩
  case round =>
    obtain ⟨pre, k, rfl, hp, HA, hb⟩ := hrel
    have hk := hp.2
    by_cases hlt : k < s.size
    · have hw1 := wd_bd hlt
      cases hg : gd s k
      · have hRf : R = false := by rw [HR.out]; exact good_not hp hlt hg
        subst hRf
        go_wp2_with (first
          | (go_at_call 64; (with_reducible refine (DecW s k hlt hs _ _ _ wr _ (by omega) (by omega) (by first | exact grownCap_ge _ _ _ _ | omega)).mono ?_); rintro e w1 ⟨rfl, hb1⟩)
          | fail)
        go_ret
        exact ⟨rfl, hb.trans (hb1.mono hb.size)⟩
      · go_wp2_with (first
          | (go_at_call 64; (with_reducible refine (DecW s k hlt hs _ _ _ wr _ (by omega) (by omega) (by first | exact grownCap_ge _ _ _ _ | omega)).mono ?_); rintro e w1 ⟨rfl, hb1⟩)
          | fail)
        exact ⟨⟨pre ++ [k], k + wd s k, by go_num, hp.step hlt, Lib.hid (by rw [List.all_append, HA.out]; simp [hg]), hb.trans (hb1.mono hb.size)⟩, by simp [intOf]; omega⟩
    · have hRt : R = true := by rw [HR.out]; exact good_end hp hlt HA.out
      subst hRt
      go_wp2
      go_ret
      exact ⟨rfl, hb⟩
end
section
set_option linter.unusedVariables false
set_option linter.unusedSimpArgs false
set_option linter.unnecessarySimpa false
open Go.RowKit
attribute [local go_sem] cell_alloc_add cell_set_add lt_more
theorem splitK_ne (c : UInt8) (hc : c ≠ 46) : ∀ (k : Nat) (l : List UInt8), ∃ h t, Lib.splitK [46] 0 k l = h :: t ∧ Lib.splitK [46] 0 k (c :: l) = (c :: h) :: t
  | 0, l => ⟨l, [], rfl, rfl⟩
  | k + 1, l => by
    have hp : ([46] : List UInt8).isPrefixOf (c :: l) = false := by simp [List.isPrefixOf, Ne.symm hc]
    have hix : Lib.index (c :: l) [46] = if Lib.index l [46] == -1 then -1 else Lib.index l [46] + 1 := by rw [Lib.index, hp]; simp
    by_cases hm : Lib.index l [46] = -1
    · refine ⟨l, [], ?_, ?_⟩
      · unfold Lib.splitK; rw [if_pos (by simpa using hm)]
      · unfold Lib.splitK; rw [if_pos (by rw [hix]; simp [hm])]
    · have hge := Lib.index_ge l [46]
      obtain ⟨j, hj⟩ : ∃ j : Nat, Lib.index l [46] = j := ⟨(Lib.index l [46]).toNat, by omega⟩
      have hix' : Lib.index (c :: l) [46] = ((j + 1 : Nat) : Int) := by rw [hix, if_neg (fun e => hm (beq_iff_eq.1 e)), hj]; omega
      refine ⟨l.take j, Lib.splitK [46] 0 k (l.drop (j + 1)), ?_, ?_⟩
      · rw [Lib.splitK, if_neg (by simp [hj] <;> omega), hj]; simp
      · rw [Lib.splitK, if_neg (by simp [hix'] <;> omega), hix']; simp
theorem dots_split : ∀ (l acc : List UInt8), ∃ h t, Lib.splitK [46] 0 (Lib.count l [46]) l = h :: t ∧ dots acc l = (acc ++ h) :: t
  | [], acc => ⟨[], [], by rw [Lib.count_one]; rfl, by simp [dots]⟩
  | c :: l, acc => by
    by_cases hc : c = 46
    · subst hc
      obtain ⟨h, t, e1, e2⟩ := dots_split l []
      have hix : Lib.index (46 :: l) [46] = 0 := by rw [Lib.index]; simp [List.isPrefixOf]
      refine ⟨[], Lib.splitK [46] 0 (Lib.count l [46]) l, ?_, ?_⟩
      · rw [Lib.count_cons_eq, show 1 + Lib.count l [46] = Lib.count l [46] + 1 by omega, Lib.splitK, if_neg (by rw [hix]; decide), hix]; simp
      · simp [dots, e2, e1]
    · obtain ⟨h, t, e1, e2⟩ := dots_split l (acc ++ [c])
      obtain ⟨h', t', f1, f2⟩ := splitK_ne c hc (Lib.count l [46]) l
      rw [e1] at f1
      injection f1 with f1 f1'
      subst f1 f1'
      refine ⟨c :: h, t, ?_, ?_⟩
      · rw [Lib.count_cons_ne c 46 l hc]; exact f2
      · simp only [dots, if_neg hc, e2]; simp
theorem dots_len : ∀ (l acc : List UInt8), ∀ p ∈ dots acc l, p.length ≤ acc.length + l.length
  | [], acc, p, hp => by simp [dots] at hp; subst hp; simp
  | c :: l, acc, p, hp => by
    unfold dots at hp
    split at hp
    · rcases List.mem_cons.1 hp with rfl | hp
      · simp
      · have := dots_len l [] p hp; simp at this ⊢; omega
    · have := dots_len l (acc ++ [c]) p hp; simp at this ⊢; omega
/-- The parts of a text between dots. -/
def partsB (s : ByteArray) : List ByteArray := Lib.splitB ⟨#[46]⟩ 0 (Lib.countB s ⟨#[46]⟩) s
theorem parts_map (s : ByteArray) : (partsB s).map (fun b => b.data.toList) = dots [] s.data.toList := by
  have h1 : (partsB s).map (fun b => b.data.toList) = Lib.splitK [46] 0 (Lib.countB s ⟨#[46]⟩) s.data.toList := Lib.splitB_data ⟨#[46]⟩ 0 _ s
  obtain ⟨h, t, e1, e2⟩ := dots_split s.data.toList []
  rw [h1, e2, List.nil_append, ← e1]
  first | rfl | done
theorem parts_len (s : ByteArray) : (partsB s).length = Lib.countB s ⟨#[46]⟩ + 1 := Lib.splitB_all ⟨#[46]⟩ (by decide) 0 _ s rfl
theorem part_size {s p : ByteArray} (h : p ∈ partsB s) : p.size ≤ s.size := by
  have h1 : p.data.toList ∈ dots [] s.data.toList := by rw [← parts_map]; exact List.mem_map_of_mem (f := fun b : ByteArray => b.data.toList) h
  have h2 := dots_len _ _ _ h1
  have e1 : p.data.toList.length = p.size := by rw [Array.length_toList]; rfl
  have e2 : s.data.toList.length = s.size := by rw [Array.length_toList]; rfl
  simp at h2
  have e3 : p.data.size = p.size := rfl
  have e4 : s.data.size = s.size := rfl
  omega
theorem dotted_parts (s : ByteArray) : dottedB s.data.toList = (partsB s).all fun b => isName b.data.toList := by
  unfold dottedB
  rw [← parts_map, List.all_map]
  rfl
theorem mem_contains (l : List UInt8) : Lib.contains l [32] = decide ((32 : UInt8) ∈ l) := by
  rw [Bool.eq_iff_iff, contains_iff, decide_eq_true_eq]
  constructor
  · rintro ⟨p, q, h⟩
    rw [← h]; simp
  · intro h
    obtain ⟨p, q, e⟩ := List.append_of_mem h
    exact ⟨p, q, by rw [e]; simp⟩
theorem mem_false (l : List UInt8) (h : Lib.contains l [32] = false) : ∀ x ∈ l, x ≠ 32 := fun x hx e => by
  subst e
  rw [mem_contains, decide_eq_false_iff_not] at h
  exact h hx
/-- Words, none of them empty, none with a blank. -/
def wordsOk (ws : List (List UInt8)) : Bool := ws.all fun w => !w.isEmpty && w.all fun x => x != 32
theorem inS_space {l : List UInt8} {ws : List (List UInt8)} (hw : wordsOk ws = true) (h : Lib.contains l [32] = true) : inS l ws = false := by
  rw [mem_contains, decide_eq_true_eq] at h
  unfold inS
  rw [decide_eq_false_iff_not]
  intro hl
  have h1 := List.all_eq_true.1 hw l hl
  rw [Bool.and_eq_true] at h1
  have h2 := List.all_eq_true.1 h1.2 32 h
  simp at h2
theorem inS_empty {ws : List (List UInt8)} (hw : wordsOk ws = true) : inS [] ws = false := by
  unfold inS
  rw [decide_eq_false_iff_not]
  intro hl
  have h1 := List.all_eq_true.1 hw [] hl
  simp at h1
theorem words_all {ws : List (List UInt8)} (hw : wordsOk ws = true) : (ws.all fun w => w.all fun x => x != 32) = true :=
  List.all_eq_true.2 fun w h => by have h1 := List.all_eq_true.1 hw w h; rw [Bool.and_eq_true] at h1; exact h1.2
theorem cat_data (s : ByteArray) : (⟨#[32]⟩ ++ s ++ ⟨#[32]⟩ : ByteArray).data.toList = 32 :: (s.data.toList ++ [32]) := by simp
set_option maxRecDepth 100000 in
set_option maxHeartbeats 4000000 in
theorem among_any (s W : ByteArray) (ws : List (List UInt8)) (hz : s.size ≤ 4000000) (hW : (⟨#[32]⟩ ++ W ++ ⟨#[32]⟩ : ByteArray).data.toList = blanked ws) (hWz : W.size ≤ 1000) (hw : wordsOk ws = true) (w : World) (hm : Mx w) :
    Calls Tryz.prog 46 #[.string s, .string W] w fun e w' => e = .returned (.bool (inS s.data.toList ws)) ∧ w = w' := by
  obtain ⟨m, hm⟩ := hm
  by_cases h0 : s.size = 0
  · obtain rfl := empty_str h0
    have hE := Lib.hid (inS_empty hw)
    go_enter Tryz.func46, Tryz.ntmps46
    go_wp2
    go_ret
    exact ⟨ret_bool hE.out.symm, rfl⟩
  · obtain ⟨hne, hne2⟩ := nonempty_str (s := s) (by omega)
    have hne3 : (!s.toList.isEmpty) = true := by rw [hne]; rfl
    have H1 := Lib.hid ((Tryz.strings_Contains s ⟨#[32]⟩ m w (by omega) hm).mono fun _ _ ⟨h1, h2⟩ => (⟨h1, h2.symm⟩ : _ ∧ w = _))
    have z1 : (⟨#[32]⟩ ++ W ++ ⟨#[32]⟩ : ByteArray).size < 4294967281 := by rw [ByteArray.size_append, ByteArray.size_append]; show 1 + W.size + 1 < _; omega
    have H2 := Lib.hid ((Tryz.strings_Contains (⟨#[32]⟩ ++ W ++ ⟨#[32]⟩) (⟨#[32]⟩ ++ s ++ ⟨#[32]⟩) m w z1 hm).mono fun _ _ ⟨h1, h2⟩ => (⟨h1, h2.symm⟩ : _ ∧ w = _))
    have hcc := Lib.hid (fun h : Lib.contains s.data.toList [32] = false => (show Lib.contains (⟨#[32]⟩ ++ W ++ ⟨#[32]⟩ : ByteArray).data.toList (⟨#[32]⟩ ++ s ++ ⟨#[32]⟩ : ByteArray).data.toList = inS s.data.toList ws by rw [hW, cat_data, among_eq _ (mem_false _ h) ws (words_all hw)]; rfl))
    have hss := Lib.hid (fun h => inS_space (l := s.data.toList) hw h)
    clear hm hW
    cases hc : Lib.contains s.data.toList [32]
    · have hr := hcc.out hc
      have H3 := H2.out
      rw [hr] at H3
      have H4 := Lib.hid H3
      have hc' : Lib.contains s.data.toList (⟨#[32]⟩ : ByteArray).data.toList = false := hc
      have H5 := H1.out
      rw [hc'] at H5
      have H6 := Lib.hid H5
      clear H1 H2 H3 H5 hcc hss hr hc hc'
      generalize inS s.data.toList ws = R at *
      go_enter Tryz.func46, Tryz.ntmps46
      go_wp2_with (first | (go_at_call 65; (with_reducible refine H6.out.mono ?_); rintro e w9 ⟨rfl, rfl⟩) | (go_at_call 65; (with_reducible refine H4.out.mono ?_); rintro e w9 ⟨rfl, rfl⟩) | fail)
      go_ret
      exact ⟨rfl, rfl⟩
    · have hr := Lib.hid (hss.out hc)
      have hc' : Lib.contains s.data.toList (⟨#[32]⟩ : ByteArray).data.toList = true := hc
      have H5 := H1.out
      rw [hc'] at H5
      have H6 := Lib.hid H5
      clear H1 H2 H5 hcc hss hc hc'
      go_enter Tryz.func46, Tryz.ntmps46
      go_wp2_with (first | (go_at_call 65; (with_reducible refine H6.out.mono ?_); rintro e w9 ⟨rfl, rfl⟩) | fail)
      go_ret
      exact ⟨ret_bool hr.out.symm, rfl⟩
end
section
set_option linter.unusedVariables false
set_option linter.unusedSimpArgs false
set_option linter.unnecessarySimpa false
open Go.RowKit
attribute [local go_sem] cell_alloc_add cell_set_add lt_more
def constB (s : ByteArray) : Bool := inS s.data.toList consts
theorem parts_next {ps : List ByteArray} {q : Nat} {f : ByteArray → Bool} (h : q < ps.length) (ht : (ps.take q).all f = true) (hn : f (ps.getD q ⟨#[]⟩) = true) : (ps.take (q + 1)).all f = true := by
  rw [List.take_succ_eq_append_getElem h, List.all_append, ht, Bool.true_and]
  have e : ps.getD q ⟨#[]⟩ = ps[q] := by simp [List.getD, h]
  rw [e] at hn
  simp [hn]
theorem parts_bad {ps : List ByteArray} {q : Nat} {f : ByteArray → Bool} (h : q < ps.length) (hn : f (ps.getD q ⟨#[]⟩) = false) : ps.all f = false := by
  have e : ps.getD q ⟨#[]⟩ = ps[q] := by simp [List.getD, h]
  rw [e] at hn
  rcases Bool.eq_false_or_eq_true (ps.all f) with h1 | h1
  · have := List.all_eq_true.1 h1 _ (List.getElem_mem h); rw [hn] at this; cases this
  · exact h1
theorem const_eq (s : ByteArray) : constB s = ((s.toList == [110, 117, 108, 108]) || (s.toList == [117, 110, 100, 101, 102, 105, 110, 101, 100]) || (s.toList == [116, 114, 117, 101]) || (s.toList == [102, 97, 108, 115, 101])) := by
  rw [ByteArray.toList_eq]
  unfold constB inS consts
  rw [Bool.eq_iff_iff]
  simp [or_assoc]
set_option maxRecDepth 100000 in
set_option maxHeartbeats 8000000 in
theorem path_any (s : ByteArray) (hz : s.size ≤ 4000000) (w : World) (hm : Mx w) (hw00 : 0 < w.heap.size) :
    Calls Tryz.prog 47 #[.string s] w fun e w' => e = .returned (.bool (dottedB s.data.toList || constB s)) ∧ Below w.heap.size w w' := by
  have HC := Lib.hid (const_eq s)
  have hmx := Lib.hid hm
  obtain ⟨m, hm⟩ := hm
  have hS : Calls Tryz.prog 66 #[.string s, .string ⟨#[46]⟩] w fun e w' => e = .returned (.slice (some ⟨w.heap.size, 0, none⟩) (partsB s).length (partsB s).length) ∧ w' = w.alloc (.cells ((partsB s).map Value.string).toArray 9) := by
    have h := Tryz.strings_Split s ⟨#[46]⟩ m w (by omega) hm (by decide)
    rw [show Lib.countB s ⟨#[46]⟩ + 1 = (partsB s).length from (parts_len s).symm] at h
    exact h
  have hpz : (partsB s).length ≤ 8000000 := by
    have := parts_len s
    have h2 := Lib.countB_le ⟨#[46]⟩ (by decide) s.size s (Nat.le_refl _)
    omega
  have HS := Lib.hid hS
  clear hS
  have HP := Lib.hid (dotted_parts s)
  have HZ := Lib.hid (fun p (hp : p ∈ partsB s) => part_size hp)
  obtain ⟨R, hR⟩ : ∃ R, R = dottedB s.data.toList := ⟨_, rfl⟩
  rw [← hR] at HP ⊢
  clear hR hm
  cases hc : constB s
  · have hC := HC.out
    rw [hc] at hC
    have hC2 := hC.symm
    simp only [Bool.or_eq_false_iff] at hC2
    obtain ⟨⟨⟨e1, e2⟩, e3⟩, e4⟩ := hC2
    rw [Bool.or_false]
    clear hC HC hc
    generalize partsB s = ps at *
    generalize hn : ps.length = n at *
    have HN := Lib.hid hn
    clear hn
    go_enter Tryz.func47, Tryz.ntmps47
    go_wp2_with (first
      | (go_at_call 66; (with_reducible refine HS.out.mono ?_); rintro e w1 ⟨rfl, hw0⟩; have hW1 := Lib.hid hw0; clear hw0)
      | fail)
    have hcell : ∀ q, q < n → w1.cell? ⟨w.heap.size, q, none⟩ = some (.string (ps.getD q ⟨#[]⟩)) := fun q hq => by
      rw [hW1.out, World.cell?_alloc_mark]
      rw [← HN.out] at hq
      simp [hq]
    have bw : Below w.heap.size w w1 := by rw [hW1.out]; (exact bl)
    have hm1 : Mx w1 := hmx.out.below bw hw00
    have HCell := Lib.hid hcell
    clear hW1 hcell e1 e2 e3 e4 HS hmx
    go_loop [14] (fun t => ∃ q : Nat, q ≤ n ∧ t = .int .i64 (q : Int) ∧ Hid ((ps.take q).all (fun b => isName b.data.toList) = true)) (fun t => n - (intOf t).toNat)
    case atStart => exact ⟨0, Nat.zero_le _, rfl, Lib.hid rfl⟩
    case round =>
      obtain ⟨q, hq, rfl, HT⟩ := hrel
      by_cases hlt : q < n
      · have hq2 : q < ps.length := by rw [HN.out]; exact hlt
        have c0 := HCell.out q hlt
        have eK : ps.getD q ⟨#[]⟩ = ps[q] := by simp [List.getD, hq2]
        have hsz := HZ.out (ps.getD q ⟨#[]⟩) (by rw [eK]; exact List.getElem_mem _)
        have HY := Lib.hid (fun e => parts_next (f := fun b => isName b.data.toList) hq2 HT.out e)
        have HB := Lib.hid (fun e => parts_bad (f := fun b => isName b.data.toList) hq2 e)
        clear eK
        generalize ps.getD q ⟨#[]⟩ = x at *
        have HX := Lib.hid (Name_any x (by omega) w1 hm1)
        cases hx : isName x.data.toList
        · have hRf : R = false := by rw [HP.out]; exact HB.out hx
          subst hRf
          go_wp2_with (first
            | (go_at_call 48; (with_reducible refine HX.out.mono ?_); rintro e w9 ⟨rfl, rfl⟩)
            | fail)
          go_ret
          exact ⟨rfl, bw⟩
        · go_wp2_with (first
            | (go_at_call 48; (with_reducible refine HX.out.mono ?_); rintro e w9 ⟨rfl, rfl⟩)
            | fail)
          go_round
          case rel => exact ⟨q + 1, by omega, by go_num, Lib.hid (HY.out hx)⟩
          case measure => simp [intOf]; omega
      · obtain rfl : q = n := by omega
        have hRt : R = true := by
          have := HT.out
          rw [← HN.out, List.take_length] at this
          rw [HP.out]; exact this
        subst hRt
        go_wp2
        go_ret
        exact ⟨rfl, bw⟩
  · have hC := HC.out
    rw [hc] at hC
    rw [Bool.or_true]
    clear HC hc HS
    cases e1 : (s.toList == [110, 117, 108, 108])
    · cases e2 : (s.toList == [117, 110, 100, 101, 102, 105, 110, 101, 100])
      · cases e3 : (s.toList == [116, 114, 117, 101])
        · cases e4 : (s.toList == [102, 97, 108, 115, 101])
          · rw [e1, e2, e3, e4] at hC; cases hC
          · clear hC
            go_enter Tryz.func47, Tryz.ntmps47
            go_wp2
            go_ret
            exact ⟨rfl, Below.refl _ _⟩
        · clear hC
          go_enter Tryz.func47, Tryz.ntmps47
          go_wp2
          go_ret
          exact ⟨rfl, Below.refl _ _⟩
      · clear hC
        go_enter Tryz.func47, Tryz.ntmps47
        go_wp2
        go_ret
        exact ⟨rfl, Below.refl _ _⟩
    · clear hC
      go_enter Tryz.func47, Tryz.ntmps47
      go_wp2
      go_ret
      exact ⟨rfl, Below.refl _ _⟩
end
end Go.Proofs.YtpkdhciokiomlaaGreatDoor
