/- The walks of chapter 2's scanner: word. -/
import Derived.Test.YtdlppdoankeilaaDoorScan1
namespace Go.Proofs.YtdlppdoankeilaaDoor
set_option linter.unusedVariables false
set_option linter.unusedSimpArgs false
set_option linter.unnecessarySimpa false
open Go.RowKit
attribute [local go_sem] cell_alloc_add cell_set_add lt_more
theorem wordEnd_name (s : ByteArray) : ∀ (n i j : Nat), s.size - i ≤ n → i ≤ j → j < wordEnd s i → nameB (bt s j) = true := by
  intro n
  induction n with
  | zero => intro i j h hi hj; rw [wordEnd_stop (by omega)] at hj; omega
  | succ n ih =>
    intro i j h hi hj
    by_cases c : i < s.size ∧ nameB (bt s i) = true
    · rw [wordEnd_go c.1 c.2] at hj
      by_cases e : j = i
      · rw [e]; exact c.2
      · exact ih (i + 1) j (by omega) (by omega) hj
    · rw [wordEnd_stop c] at hj; omega
theorem bt_mem {s : ByteArray} {x : UInt8} (h : x ∈ s.data.toList) : ∃ j, j < s.size ∧ bt s j = x.toNat := by
  obtain ⟨j, hj, e⟩ := List.mem_iff_getElem.1 h
  refine ⟨j, by simpa using hj, ?_⟩
  have hj2 : j < s.data.size := by simpa using hj
  unfold bt
  subst e
  show (s.data[j]!).toNat = _
  rw [getElem!_pos s.data j hj2, Array.getElem_toList]
theorem word_noblank (s : ByteArray) (i : Nat) (hi : i ≤ s.size) : ∀ x ∈ (s.extract i (wordEnd s i)).data.toList, x ≠ 32 := fun x hx e => by
  subst e
  have hb := wordEnd_bd s _ i (Nat.le_refl _) hi
  obtain ⟨j, hj, e⟩ := bt_mem hx
  rw [ByteArray.size_extract] at hj
  rw [bt_extract (by omega) hb.2] at e
  have := wordEnd_name s _ i (i + j) (Nat.le_refl _) (by omega) (by omega)
  rw [e] at this
  exact absurd this (by decide)
/-- The word that begins here. -/
def tokW (s : ByteArray) (i : Nat) : Tok := ⟨if reserved (s.extract i (wordEnd s i)).data.toList = true then 2 else 1, s.extract i (wordEnd s i), i, wordEnd s i⟩
set_option maxRecDepth 100000 in
set_option maxHeartbeats 8000000 in
theorem word_any (s : ByteArray) (A : Option Addr) (c : Nat) (hs : s.size ≤ 4000000) (hcap : s.size ≤ c) (w : World) (hm : Mx w) (h : Rd w w.heap.size A s.size (byteC s)) (g i : Nat) (hv : Value) (hg : Scn w g A s.size c i hv) (hi : i < s.size) : Calls Tryd.prog 25 #[.pointer (some ⟨g, 0, none⟩)] w fun e w' =>
    e = .returned (.agg (tokA (tokW s i))) ∧ Below w.heap.size w w' := by
  have hE := wordEnd_bd s _ i (Nat.le_refl _) (by omega)
  have HN := Lib.hid h
  have HRV := Lib.hid (fun W (hm : Mx W) => Reserved_any (s.extract i (wordEnd s i)) W hm (by rw [ByteArray.size_extract]; omega) (word_noblank s i (by omega)))
  obtain ⟨ad, rfl, hadB, ci⟩ := h i hi
  clear ci
  have lz := hg.lt
  have z0 := hg.cell 0
  have z1 := hg.cell 1
  have fz0 := hg.free 0
  have fz1 := hg.free 1
  simp at z0 z1
  go_enter Tryd.func25, Tryd.ntmps25
  go_upto_block 0 with (fail)
  obtain ⟨wo, hwo⟩ : ∃ wo : World, wo = w.alloc (.cells #[.int .i64 0, .string ⟨#[]⟩, .int .i64 0, .int .i64 0] 29) := ⟨_, rfl⟩
  rw [← hwo]
  have rz : Row wo w.heap.size 29 #[.int .i64 0, .string ⟨#[]⟩, .int .i64 0, .int .i64 0] := by rw [hwo]; exact row_new rfl
  have hbr : Below w.heap.size w wo := by rw [hwo]; (repeat (first | (with_reducible exact Below.refl _ _) | (with_reducible assumption) | (with_reducible refine Below.setCell ?_ (by first | omega | (simp <;> omega)) _) | (with_reducible refine Below.alloc ?_ (by first | omega | (simp <;> omega)) _) | (with_reducible refine Below.drew ?_) | (with_reducible refine below_drewN ?_ _) | (with_reducible refine Below.trans ?_ (Below.mono (by with_reducible assumption) (by first | omega | (simp <;> omega))))))
  have hzo : wo.heap.size = w.heap.size + 1 := by rw [hwo]; simp
  clear hwo z0 z1 fz0 fz1
  have rg := Row.below hg hbr lz
  have z0 := rg.cell 0
  have z1 := rg.cell 1
  have fz0 := rg.free 0
  have fz1 := rg.free 1
  simp at z0 z1
  go_cut [3] (fun a wx => a = .int .i64 (wordEnd s i : Nat) ∧ wx = wo)
  case first =>
    go_wp2_with fail
    go_loop [3] (fun a => ∃ (j : Nat), i ≤ j ∧ j ≤ s.size ∧ a = .int .i64 j ∧ wordEnd s i = wordEnd s j) (fun a => s.size - (intOf a).toNat)
    case atStart => exact ⟨i, Nat.le_refl _, by omega, rfl, rfl⟩
    case round =>
      obtain ⟨j, hij, hj, rfl, he⟩ := hrel
      have HE := Lib.hid he
      clear he
      by_cases hjs : j < s.size
      · obtain ⟨ad2, e2, _, c1⟩ := HN.out j hjs
        obtain rfl : ad = ad2 := by injection e2
        clear e2
        unfold byteC at c1
        have d1 := (hbr.cell (p := ad.add j) (by rw [block_add]; omega)).trans c1
        clear c1
        have HA := Lib.hid (Letter_any (bt s j))
        have HB := Lib.hid (Digit_any (bt s j))
        have HG := Lib.hid (fun h => wordEnd_go (s := s) (i := j) hjs h)
        have HS := Lib.hid (fun h => wordEnd_stop (s := s) (i := j) h)
        have hnm : nameB (bt s j) = (letterB (bt s j) || digitB (bt s j)) := rfl
        cases ha : letterB (bt s j)
        · cases hb : digitB (bt s j)
          · have HX := HS.out (by rw [hnm, ha, hb]; simp)
            have HXX := Lib.hid HX
            rw [ha] at HA
            rw [hb] at HB
            clear hnm ha hb HX
            go_wp2_with (first | (go_at_call 24; (with_reducible refine (HA.out _).mono ?_); rintro e w1 ⟨rfl, rfl⟩) | (go_at_call 26; (with_reducible refine (HB.out _).mono ?_); rintro e w1 ⟨rfl, rfl⟩))
            go_meet
            exact ⟨by rw [HE.out, HXX.out], rfl⟩
          · have HX := HG.out (by rw [hnm, ha, hb]; rfl)
            have HXX := Lib.hid HX
            rw [ha] at HA
            rw [hb] at HB
            clear hnm ha hb HX
            go_wp2_with (first | (go_at_call 24; (with_reducible refine (HA.out _).mono ?_); rintro e w1 ⟨rfl, rfl⟩) | (go_at_call 26; (with_reducible refine (HB.out _).mono ?_); rintro e w1 ⟨rfl, rfl⟩))
            go_round
            case rel => exact ⟨j + 1, by omega, by omega, by go_num, by rw [HE.out, HXX.out]⟩
            case measure => simp [intOf]; omega
        · have HX := HG.out (by rw [hnm, ha]; rfl)
          have HXX := Lib.hid HX
          rw [ha] at HA
          clear hnm ha HX
          go_wp2_with (first | (go_at_call 24; (with_reducible refine (HA.out _).mono ?_); rintro e w1 ⟨rfl, rfl⟩) | (go_at_call 26; (with_reducible refine (HB.out _).mono ?_); rintro e w1 ⟨rfl, rfl⟩))
          go_round
          case rel => exact ⟨j + 1, by omega, by omega, by go_num, by rw [HE.out, HXX.out]⟩
          case measure => simp [intOf]; omega
      · have HS := Lib.hid (wordEnd_stop (s := s) (i := j) (by omega))
        go_wp2
        go_meet
        exact ⟨by rw [HE.out, HS.out], rfl⟩
  case rest =>
    obtain ⟨rfl, rfl⟩ := hcut
    have HT := Lib.hid (show tokW s i = ⟨if reserved (s.extract i (wordEnd s i)).data.toList = true then 2 else 1, s.extract i (wordEnd s i), i, wordEnd s i⟩ from rfl)
    generalize wordEnd s i = E at *
    have HC := Lib.hid (cut_any s (some ad) c hs hcap wc ((HN.out.below hbr).more (by omega)) g i hv rg hi 1 E hE.1 hE.2)
    unfold tokA at HC
    clear HN h hg
    generalize s.extract i E = tx at *
    cases hres : reserved tx.data.toList
    all_goals
      rw [hres] at HRV HT
      clear hres
      go_wp2_with (first | (go_at_call 42; (with_reducible refine (HC.out).mono ?_); rintro e wb1 ⟨rfl, b1⟩; have zb1 := Below.size b1; have rzb := rz.below b1 (by omega); have y0 := rzb.cell 0; have y1 := rzb.cell 1; have y2 := rzb.cell 2; have y3 := rzb.cell 3; have fy0 := rzb.free 0; have fy1 := rzb.free 1; have fy2 := rzb.free 2; have fy3 := rzb.free 3; have lz2 : w.heap.size < wb1.heap.size := (by omega); have lz3 : w.heap.size < wb1.heap.size + 1 := (by omega)) | (go_at_call 43; (with_reducible refine (HRV.out _ (hm.keep (by (repeat (first | (with_reducible exact Below.refl _ _) | (with_reducible assumption) | (with_reducible refine Below.setCell ?_ (by first | omega | (simp <;> omega)) _) | (with_reducible refine Below.alloc ?_ (by first | omega | (simp <;> omega)) _) | (with_reducible refine Below.drew ?_) | (with_reducible refine below_drewN ?_ _) | (with_reducible refine Below.trans ?_ (Below.mono (by with_reducible assumption) (by first | omega | (simp <;> omega))))))))).mono ?_); rintro e w1 ⟨rfl, rfl⟩))
    · exact bodyPost_ret (v := .agg (tokA ⟨1, tx, i, E⟩)) (by simp [results, Tryd.results25, go_sem, tokA, *]) rfl ⟨by rw [HT.out]; rfl, (by (repeat (first | (with_reducible exact Below.refl _ _) | (with_reducible assumption) | (with_reducible refine Below.setCell ?_ (by first | omega | (simp <;> omega)) _) | (with_reducible refine Below.alloc ?_ (by first | omega | (simp <;> omega)) _) | (with_reducible refine Below.drew ?_) | (with_reducible refine below_drewN ?_ _) | (with_reducible refine Below.trans ?_ (Below.mono (by with_reducible assumption) (by first | omega | (simp <;> omega)))))))⟩
    · exact bodyPost_ret (v := .agg (tokA ⟨2, tx, i, E⟩)) (by simp [results, Tryd.results25, go_sem, tokA, *]) rfl ⟨by rw [HT.out]; rfl, (by (repeat (first | (with_reducible exact Below.refl _ _) | (with_reducible assumption) | (with_reducible refine Below.setCell ?_ (by first | omega | (simp <;> omega)) _) | (with_reducible refine Below.alloc ?_ (by first | omega | (simp <;> omega)) _) | (with_reducible refine Below.drew ?_) | (with_reducible refine below_drewN ?_ _) | (with_reducible refine Below.trans ?_ (Below.mono (by with_reducible assumption) (by first | omega | (simp <;> omega)))))))⟩
end Go.Proofs.YtdlppdoankeilaaDoor
