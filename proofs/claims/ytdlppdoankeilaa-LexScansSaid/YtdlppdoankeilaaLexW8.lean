/- The walk of chapter 2's reference 'next': a word. -/
import Derived.Test.YtdlppdoankeilaaLexW7
namespace Go.Proofs.Ytdlppdoankeilaa
set_option linter.unusedVariables false
set_option linter.unusedSimpArgs false
set_option linter.unnecessarySimpa false
open Go.RowKit
attribute [local go_sem] cell_alloc_add cell_set_add lt_more
/-- The brackets that are open, as a slice holds them. -/
def holeC (hs : List Bool) (j : Nat) : Value := .bool (hs.getD j false)
/-- The block of a slice of bools is one of bools. -/
def BoolAt (w : World) (A : Option Addr) (n : Nat) : Prop := 0 < n → ∀ ad, A = some ad → ∃ cs fr, w.heap[ad.block]? = some (.cells cs 4 fr)
def HR (w : World) (B : Nat) (A : Option Addr) (n : Nat) (hs : List Bool) : Prop := Rd w B A n (holeC hs) ∧ BoolAt w A n
theorem HR.later {w w' : World} {B n : Nat} {A : Option Addr} {hs : List Bool} (h : HR w B A n hs) (hb : Below B w w') (hB : B ≤ w'.heap.size) : HR w' w'.heap.size A n hs :=
  ⟨(h.1.below hb).more hB, fun hn ad e => by
    obtain ⟨ad2, e2, hl, _⟩ := h.1 0 hn
    obtain rfl : ad = ad2 := by rw [e] at e2; injection e2
    obtain ⟨cs, fr, hc⟩ := h.2 hn ad e
    exact ⟨cs, fr, (hb.block _ hl).trans hc⟩⟩
theorem HR.part_congr {w : World} {B n m : Nat} {A : Option Addr} {hs hs' : List Bool} (h : HR w B A n hs) (hm : m ≤ n) (he : ∀ j, j < m → holeC hs j = holeC hs' j) : HR w B A m hs' :=
  ⟨(h.1.part hm).congr he, fun hn => h.2 (by omega)⟩
theorem HR.none_ {w : World} {B : Nat} {A : Option Addr} {hs : List Bool} : HR w B A 0 hs := ⟨Rd.none_, fun h => absurd h (by omega)⟩
/-- What next answers. -/
def NPost (s : ByteArray) (i : Nat) (holes : List Bool) (e : Ending) (w' : World) : Prop := ∃ (t : Tok) (A' : Option Addr) (n' c' : Nat) (ok : Bool), e = .returned (.tuple #[.agg (tokA t), .slice A' n' c', .bool ok]) ∧ n' ≤ c' ∧
  (match tokAt s i holes with
  | some p => ok = true ∧ t = p.1 ∧ n' = p.2.length ∧ HR w' w'.heap.size A' n' p.2
  | none => ok = false)
theorem NPost.yes {s : ByteArray} {i : Nat} {holes : List Bool} {w' : World} {t : Tok} {hs : List Bool} (h : tokAt s i holes = some (t, hs)) {A' : Option Addr} {n' c' : Nat} (hn : n' = hs.length) (hc : n' ≤ c') (hr : HR w' w'.heap.size A' n' hs) :
    NPost s i holes (.returned (.tuple #[.agg (tokA t), .slice A' n' c', .bool true])) w' := ⟨_, _, _, _, _, rfl, hc, by rw [h]; exact ⟨rfl, rfl, hn, hr⟩⟩
theorem NPost.no {s : ByteArray} {i : Nat} {holes : List Bool} {w' : World} {t : Tok} (h : tokAt s i holes = none) {A' : Option Addr} {n' c' : Nat} (hc : n' ≤ c') : NPost s i holes (.returned (.tuple #[.agg (tokA t), .slice A' n' c', .bool false])) w' :=
  ⟨_, _, _, _, _, rfl, hc, by rw [h]⟩
theorem tok_word {s : ByteArray} {i : Nat} {holes : List Bool} (h : letterB (bt s i) = true) : tokAt s i holes = some (⟨if reserved (s.extract i (wordEnd s i)).data.toList = true then 2 else 1, s.extract i (wordEnd s i), i, wordEnd s i⟩, holes) := by
  unfold tokAt; rw [if_pos h]
set_option maxRecDepth 100000 in
set_option maxHeartbeats 4000000 in
theorem next_word (s : ByteArray) (A : Option Addr) (c : Nat) (hs : s.size ≤ 4000000) (hcap : s.size ≤ c) (w : World) (h : Rd w w.heap.size A s.size (byteC s)) (i : Nat) (hi : i < s.size) (holes : List Bool) (A2 : Option Addr) (n2 c2 : Nat) (hn2 : n2 = holes.length) (hc2 : n2 ≤ c2) (h2 : HR w w.heap.size A2 n2 holes) (hl : letterB (bt s i) = true) : Calls Try.prog 33 #[.slice A s.size c, .int .i64 (i : Int), .slice A2 n2 c2] w fun e w' => NPost s i holes e w' ∧ Below w.heap.size w w' := by
  have HN := Lib.hid h
  obtain ⟨ad, rfl, hadB, ci⟩ := h i hi
  unfold byteC at ci
  have HT := Lib.hid (tok_word (holes := holes) hl)
  have HL := Lib.hid (rLetter_any (bt s i))
  rw [hl] at HL
  have H2 := Lib.hid h2
  have HH := Lib.hid hn2
  clear h h2 hn2
  go_enter Try.func33, Try.ntmps33
  go_upto_block 1 with (go_at_call 42; (with_reducible refine (HL.out _).mono ?_); rintro e w1 ⟨rfl, rfl⟩)
  obtain ⟨wo, hwo⟩ : ∃ wo : World, wo = w.alloc (.cells #[.int .i64 0, .string ⟨#[]⟩, .int .i64 0, .int .i64 0] 33) := ⟨_, rfl⟩
  rw [← hwo]
  have rz : Row wo w.heap.size 33 #[.int .i64 0, .string ⟨#[]⟩, .int .i64 0, .int .i64 0] := by rw [hwo]; exact row_new rfl
  have hbr : Below w.heap.size w wo := by rw [hwo]; (repeat (first | (with_reducible exact Below.refl _ _) | (with_reducible assumption) | (with_reducible refine Below.setCell ?_ (by first | omega | (simp <;> omega)) _) | (with_reducible refine Below.alloc ?_ (by first | omega | (simp <;> omega)) _) | (with_reducible refine Below.drew ?_) | (with_reducible refine below_drewN ?_ _) | (with_reducible refine Below.trans ?_ (Below.mono (by with_reducible assumption) (by first | omega | (simp <;> omega))))))
  clear hwo
  go_cut [10] (fun a wx => a = .int .i64 (wordEnd s i : Nat) ∧ wx = wo)
  case first =>
    go_wp2_with fail
    go_loop [10] (fun a => ∃ (j : Nat), i ≤ j ∧ j ≤ s.size ∧ a = .int .i64 j ∧ wordEnd s i = wordEnd s j) (fun a => s.size - (intOf a).toNat)
    case atStart => exact ⟨i, Nat.le_refl _, by omega, rfl, rfl⟩
    case round =>
      obtain ⟨j, hij, hj, rfl, he⟩ := hrel
      have HE := Lib.hid he
      clear he
      by_cases hjs : j < s.size
      · obtain ⟨ad2, e2, _, c1⟩ := HN.out j hjs
        obtain rfl : ad = ad2 := by injection e2
        clear e2
        unfold byteC at c1
        have d1 := (hbr.cell (p := ad.add j) (by rw [block_add]; omega)).trans c1
        clear c1
        have HA := Lib.hid (rLetter_any (bt s j))
        have HB := Lib.hid (rDigit_any (bt s j))
        have HG := Lib.hid (fun h => wordEnd_go (s := s) (i := j) hjs h)
        have HS := Lib.hid (fun h => wordEnd_stop (s := s) (i := j) h)
        have hnm : nameB (bt s j) = (letterB (bt s j) || digitB (bt s j)) := rfl
        cases ha : letterB (bt s j)
        · cases hb : digitB (bt s j)
          · have HX := HS.out (by rw [hnm, ha, hb]; simp)
            have HXX := Lib.hid HX
            rw [ha] at HA
            rw [hb] at HB
            clear hnm ha hb HX
            go_wp2_with (first | (go_at_call 42; (with_reducible refine (HA.out _).mono ?_); rintro e w1 ⟨rfl, rfl⟩) | (go_at_call 43; (with_reducible refine (HB.out _).mono ?_); rintro e w1 ⟨rfl, rfl⟩))
            go_meet
            exact ⟨by rw [HE.out, HXX.out], rfl⟩
          · have HX := HG.out (by rw [hnm, ha, hb]; rfl)
            have HXX := Lib.hid HX
            rw [ha] at HA
            rw [hb] at HB
            clear hnm ha hb HX
            go_wp2_with (first | (go_at_call 42; (with_reducible refine (HA.out _).mono ?_); rintro e w1 ⟨rfl, rfl⟩) | (go_at_call 43; (with_reducible refine (HB.out _).mono ?_); rintro e w1 ⟨rfl, rfl⟩))
            go_round
            case rel => exact ⟨j + 1, by omega, by omega, by go_num, by rw [HE.out, HXX.out]⟩
            case measure => simp [intOf]; omega
        · have HX := HG.out (by rw [hnm, ha]; rfl)
          have HXX := Lib.hid HX
          rw [ha] at HA
          clear hnm ha HX
          go_wp2_with (first | (go_at_call 42; (with_reducible refine (HA.out _).mono ?_); rintro e w1 ⟨rfl, rfl⟩) | (go_at_call 43; (with_reducible refine (HB.out _).mono ?_); rintro e w1 ⟨rfl, rfl⟩))
          go_round
          case rel => exact ⟨j + 1, by omega, by omega, by go_num, by rw [HE.out, HXX.out]⟩
          case measure => simp [intOf]; omega
      · have HS := Lib.hid (wordEnd_stop (s := s) (i := j) (by omega))
        go_wp2
        go_meet
        exact ⟨by rw [HE.out, HS.out], rfl⟩
  case rest =>
    obtain ⟨rfl, rfl⟩ := hcut
    have hE := wordEnd_bd s _ i (Nat.le_refl _) (by omega)
    have HR := Lib.hid (rReserved_any (s.extract i (wordEnd s i)))
    generalize wordEnd s i = E at *
    have kc : ∀ m, (convert 22 9 (.slice (some (ad.add i)) (E - i) m)).run Try.prog wc = .ok (.string (s.extract i E)) wc := fun m => (by have hh := run_part (P := Try.prog) 22 9 5 Try.underlying22 Try.underlying5 Try.underlying9 (HN.out.below hbr) i (E - i) m (by omega); rwa [show i + (E - i) = E by omega] at hh)
    have z0 := rz.cell 0
    have z1 := rz.cell 1
    have z2 := rz.cell 2
    have z3 := rz.cell 3
    have fz0 := rz.free 0
    have fz1 := rz.free 1
    have fz2 := rz.free 2
    have fz3 := rz.free 3
    have lz := rz.lt
    cases hres : reserved (s.extract i E).data.toList
    · rw [hres] at HR HT
      clear hres
      generalize s.extract i E = tx at *
      go_wp2_with (go_at_call 44; (with_reducible refine (HR.out _).mono ?_); rintro e wb1 ⟨rfl, b1⟩; have zb1 : wc.heap.size + 1 ≤ wb1.heap.size := (by have hzz := Below.size b1; first | omega | (simp at hzz; omega)); replace b1 := Below.mono (B' := wc.heap.size + 1) b1 (by first | omega | (simp <;> omega)); obtain ⟨hcb1, hfb1⟩ := bcell b1; have lt1 : w.heap.size < wb1.heap.size := (by omega); have lt2 : wc.heap.size < wb1.heap.size := (by omega); have rzb := (Row.alloc rz (.cells #[.int .i64 1, .string tx, .int .i64 (i : Int), .int .i64 (E : Int)] 33)).below b1 (by omega); have y0 := rzb.cell 0; have y1 := rzb.cell 1; have y2 := rzb.cell 2; have y3 := rzb.cell 3)
      exact bodyPost_ret (v := .tuple #[.agg (tokA ⟨1, tx, i, E⟩), .slice A2 n2 c2, .bool true]) (by simp [results, Try.results33, go_sem, tokA, *]) rfl ⟨NPost.yes HT.out HH.out hc2 (H2.out.later (by (repeat (first | (with_reducible exact Below.refl _ _) | (with_reducible assumption) | (with_reducible refine Below.setCell ?_ (by first | omega | (simp <;> omega)) _) | (with_reducible refine Below.alloc ?_ (by first | omega | (simp <;> omega)) _) | (with_reducible refine Below.drew ?_) | (with_reducible refine below_drewN ?_ _) | (with_reducible refine Below.trans ?_ (Below.mono (by with_reducible assumption) (by first | omega | (simp <;> omega))))))) (by first | omega | (simp; omega))), (by (repeat (first | (with_reducible exact Below.refl _ _) | (with_reducible assumption) | (with_reducible refine Below.setCell ?_ (by first | omega | (simp <;> omega)) _) | (with_reducible refine Below.alloc ?_ (by first | omega | (simp <;> omega)) _) | (with_reducible refine Below.drew ?_) | (with_reducible refine below_drewN ?_ _) | (with_reducible refine Below.trans ?_ (Below.mono (by with_reducible assumption) (by first | omega | (simp <;> omega)))))))⟩
    · rw [hres] at HR HT
      clear hres
      generalize s.extract i E = tx at *
      go_wp2_with (go_at_call 44; (with_reducible refine (HR.out _).mono ?_); rintro e wb1 ⟨rfl, b1⟩; have zb1 : wc.heap.size + 1 ≤ wb1.heap.size := (by have hzz := Below.size b1; first | omega | (simp at hzz; omega)); replace b1 := Below.mono (B' := wc.heap.size + 1) b1 (by first | omega | (simp <;> omega)); obtain ⟨hcb1, hfb1⟩ := bcell b1; have lt1 : w.heap.size < wb1.heap.size := (by omega); have lt2 : wc.heap.size < wb1.heap.size := (by omega); have rzb := (Row.alloc rz (.cells #[.int .i64 1, .string tx, .int .i64 (i : Int), .int .i64 (E : Int)] 33)).below b1 (by omega); have y0 := rzb.cell 0; have y1 := rzb.cell 1; have y2 := rzb.cell 2; have y3 := rzb.cell 3)
      exact bodyPost_ret (v := .tuple #[.agg (tokA ⟨2, tx, i, E⟩), .slice A2 n2 c2, .bool true]) (by simp [results, Try.results33, go_sem, tokA, *]) rfl ⟨NPost.yes HT.out HH.out hc2 (H2.out.later (by (repeat (first | (with_reducible exact Below.refl _ _) | (with_reducible assumption) | (with_reducible refine Below.setCell ?_ (by first | omega | (simp <;> omega)) _) | (with_reducible refine Below.alloc ?_ (by first | omega | (simp <;> omega)) _) | (with_reducible refine Below.drew ?_) | (with_reducible refine below_drewN ?_ _) | (with_reducible refine Below.trans ?_ (Below.mono (by with_reducible assumption) (by first | omega | (simp <;> omega))))))) (by first | omega | (simp; omega))), (by (repeat (first | (with_reducible exact Below.refl _ _) | (with_reducible assumption) | (with_reducible refine Below.setCell ?_ (by first | omega | (simp <;> omega)) _) | (with_reducible refine Below.alloc ?_ (by first | omega | (simp <;> omega)) _) | (with_reducible refine Below.drew ?_) | (with_reducible refine below_drewN ?_ _) | (with_reducible refine Below.trans ?_ (Below.mono (by with_reducible assumption) (by first | omega | (simp <;> omega)))))))⟩
end Go.Proofs.Ytdlppdoankeilaa
