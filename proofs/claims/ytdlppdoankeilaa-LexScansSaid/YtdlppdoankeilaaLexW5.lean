/- The walks of chapter 2's reference: a string, a template's piece. -/
import Derived.Test.YtdlppdoankeilaaLexW4
import Derived.Test.YtdlppdoankeilaaRefDec
import Derived.Deep.QuietTactic
import Derived.BigQuiet
import Derived.Laws.Cover4
namespace Go.Proofs.Ytdlppdoankeilaa
set_option linter.unusedVariables false
set_option linter.unusedSimpArgs false
set_option linter.unnecessarySimpa false
open Go.RowKit
attribute [local go_sem] cell_alloc_add cell_set_add lt_more
/-- A token's cells. -/
def tokA (t : Tok) : Array Value := #[.int .i64 t.kind, .string t.text, .int .i64 (t.lo : Int), .int .i64 (t.hi : Int)]
theorem one_esc {s : ByteArray} {j : Nat} (h : bt s j = 92) : one s j = esc s j := if_pos h
theorem one_rune {s : ByteArray} {j : Nat} (h : bt s j ≠ 92) : one s j = some (Utf8.encode (rn s j : Int), j + wd s j) := if_neg h
theorem esc_of {s : ByteArray} {j : Nat} {t : ByteArray} {n : Nat} {ok : Bool} (h : escR s j = (t, n, ok)) : esc s j = if ok = true then some (t, n) else none := by
  unfold escR at h
  cases he : esc s j with
  | none => rw [he] at h; injection h with _ h; injection h with _ h; subst h; rfl
  | some p => rw [he] at h; injection h with h1 h; injection h with h2 h; subst h1 h2 h; rfl
theorem one1_size (c : Nat) : (one1 c).size = 1 := rfl
theorem esc_len {s : ByteArray} {i : Nat} {p : ByteArray × Nat} (h : esc s i = some p) : p.1.size ≤ 4 := by
  have h1 : ∀ c n, p = (one1 c, n) → p.1.size ≤ 4 := fun c n e => by rw [e]; exact (show (1 : Nat) ≤ 4 by decide)
  have h2 : ∀ c n, p = (Utf8.encode c, n) → p.1.size ≤ 4 := fun c n e => by rw [e]; exact encode_size_le _
  unfold esc at h
  split at h
  · split at h
    · exact h1 _ _ (Option.some.inj h).symm
    · split at h
      · exact h1 _ _ (Option.some.inj h).symm
      · split at h
        · exact h1 _ _ (Option.some.inj h).symm
        · split at h
          · exact h1 _ _ (Option.some.inj h).symm
          · split at h
            · exact h1 _ _ (Option.some.inj h).symm
            · split at h
              · split at h
                · exact h2 _ _ (Option.some.inj h).symm
                · cases h
              · cases h
  · cases h
theorem one_len {s : ByteArray} {i : Nat} {t : ByteArray} {j : Nat} (h : one s i = some (t, j)) : t.size ≤ 4 := by
  unfold one at h
  split at h
  · exact esc_len h
  · injection h with h; injection h with h _; rw [← h]; exact encode_size_le _
/-- What quoted answers. -/
def QPost (s : ByteArray) (i : Nat) (e : Ending) : Prop := ∃ (t : Tok) (ok : Bool), e = .returned (.tuple #[.agg (tokA t), .bool ok]) ∧ (match quotedOf s i with
  | some p => ok = true ∧ t = ⟨4, p.1, i, p.2⟩
  | none => ok = false)
theorem QPost.yes {s : ByteArray} {i : Nat} {t : ByteArray} {n : Nat} (h : quotedOf s i = some (t, n)) : QPost s i (.returned (.tuple #[.agg (tokA ⟨4, t, i, n⟩), .bool true])) := ⟨_, _, rfl, by rw [h]; exact ⟨rfl, rfl⟩⟩
theorem QPost.no {s : ByteArray} {i : Nat} {t : Tok} (h : quotedOf s i = none) : QPost s i (.returned (.tuple #[.agg (tokA t), .bool false])) := ⟨_, _, rfl, by rw [h]⟩
set_option maxRecDepth 100000 in
set_option maxHeartbeats 4000000 in
theorem rquoted_any (s : ByteArray) (A : Option Addr) (c : Nat) (hs : s.size ≤ 4000000) (hcap : s.size ≤ c) (w : World) {B : Nat} (hB : B ≤ w.heap.size) (h : Rd w B A s.size (byteC s)) (i : Nat) (hi : i < s.size) :
    Calls Try.prog 46 #[.slice A s.size c, .int .i64 (i : Int)] w fun e w' => QPost s i e ∧ Below w.heap.size w w' := by
  have HN := Lib.hid h
  obtain ⟨ad, rfl, hadB, ci⟩ := h i hi
  unfold byteC at ci
  clear h
  go_enter Try.func46, Try.ntmps46
  go_wp2
  go_loopw [7] (fun a wr => ∃ (j : Nat) (acc : ByteArray), i + 1 ≤ j ∧ j ≤ s.size ∧ a = .int .i64 j ∧ Row wr (w.heap.size + 1) 33 #[.int .i64 4, .string acc, .int .i64 (i : Int), .int .i64 0] ∧ Row wr w.heap.size 33 #[.int .i64 0, .string ⟨#[]⟩, .int .i64 0, .int .i64 0] ∧ Below w.heap.size w wr ∧ acc.size ≤ 4 * j ∧ quotedOf s i = quotedGo s (bt s i) j acc) (fun a _ => s.size - (intOf a).toNat)
  case atStart => exact ⟨i + 1, ⟨#[]⟩, Nat.le_refl _, by omega, by go_num, row_new (by simp), (row_new rfl).alloc _, (by (repeat (first | (with_reducible exact Below.refl _ _) | (with_reducible assumption) | (with_reducible refine Below.setCell ?_ (by first | omega | (simp <;> omega)) _) | (with_reducible refine Below.alloc ?_ (by first | omega | (simp <;> omega)) _) | (with_reducible refine Below.drew ?_) | (with_reducible refine below_drewN ?_ _) | (with_reducible refine Below.trans ?_ (Below.mono (by with_reducible assumption) (by first | omega | (simp <;> omega))))))), Nat.zero_le _, rfl⟩
  case round =>
    obtain ⟨j, acc, hij, hj, rfl, rt, rz, hbr, hac, hq⟩ := hrel
    have HQ := Lib.hid hq
    clear hq
    have t0 := rt.cell 0
    have t1 := rt.cell 1
    have t2 := rt.cell 2
    have t3 := rt.cell 3
    have z0 := rz.cell 0
    have z1 := rz.cell 1
    have z2 := rz.cell 2
    have z3 := rz.cell 3
    have ft0 := rt.free 0
    have ft1 := rt.free 1
    have ft2 := rt.free 2
    have ft3 := rt.free 3
    have fz0 := rz.free 0
    have fz1 := rz.free 1
    have fz2 := rz.free 2
    have fz3 := rz.free 3
    have lt := rt.lt
    have lz := rz.lt
    by_cases hjs : j < s.size
    · obtain ⟨ad2, e2, _, c1⟩ := HN.out j hjs
      obtain rfl : ad = ad2 := by injection e2
      clear e2
      unfold byteC at c1
      have d0 := (hbr.cell (p := ad.add i) (by rw [block_add]; omega)).trans ci
      have d1 := (hbr.cell (p := ad.add j) (by rw [block_add]; omega)).trans c1
      clear c1
      by_cases hcl : bt s j = bt s i
      · have HX := Lib.hid (QPost.yes (HQ.out.trans (quotedGo_close hjs hcl)))
        rw [hcl] at d1
        generalize bt s i = q at *
        go_wp2_with fail
        go_quiet (fail)
        go_wp2
        exact bodyPost_ret (v := .tuple #[.agg (tokA ⟨4, acc, i, j + 1⟩), .bool true]) (by simp [results, Try.results46, go_sem, tokA, *]) rfl ⟨HX.out, (by (repeat (first | (with_reducible exact Below.refl _ _) | (with_reducible assumption) | (with_reducible refine Below.setCell ?_ (by first | omega | (simp <;> omega)) _) | (with_reducible refine Below.alloc ?_ (by first | omega | (simp <;> omega)) _) | (with_reducible refine Below.drew ?_) | (with_reducible refine below_drewN ?_ _) | (with_reducible refine Below.trans ?_ (Below.mono (by with_reducible assumption) (by first | omega | (simp <;> omega)))))))⟩
      · have enq : ((bt s j : Int) == (bt s i : Int)) = false := by simp; omega
        by_cases hnl : bt s j = 10 ∨ bt s j = 13
        · have HX := Lib.hid (fun t => QPost.no (t := t) (HQ.out.trans (quotedGo_line hjs hcl hnl)))
          clear hcl
          rcases hnl with g | g
          all_goals
            rw [g] at d1 enq
            clear g
            generalize bt s i = q at *
            go_wp2_with fail
            go_quiet (fail)
            go_wp2
            exact bodyPost_ret (v := .tuple #[.agg (tokA ⟨4, acc, i, 0⟩), .bool false]) (by simp [results, Try.results46, go_sem, tokA, *]) rfl ⟨HX.out _, (by (repeat (first | (with_reducible exact Below.refl _ _) | (with_reducible assumption) | (with_reducible refine Below.setCell ?_ (by first | omega | (simp <;> omega)) _) | (with_reducible refine Below.alloc ?_ (by first | omega | (simp <;> omega)) _) | (with_reducible refine Below.drew ?_) | (with_reducible refine below_drewN ?_ _) | (with_reducible refine Below.trans ?_ (Below.mono (by with_reducible assumption) (by first | omega | (simp <;> omega)))))))⟩
        · have en1 : ((bt s j : Int) == 10) = false := by simp; omega
          have en2 : ((bt s j : Int) == 13) = false := by simp; omega
          by_cases hesc : bt s j = 92
          · obtain ⟨t, n, ok, hE⟩ : ∃ t n ok, escR s j = (t, n, ok) := ⟨_, _, _, rfl⟩
            have HC := escape_any s (some ad) c hs hcap
            have h1 := esc_of hE
            rw [← one_esc hesc] at h1
            have HC1 := Lib.hid (fun (W : World) (hb : Below w.heap.size w W) => HC W (HN.out.below (hb.mono hB)) j hjs)
            rw [hE] at HC1
            clear HC hE
            cases ok
            · have HX := Lib.hid (fun t => QPost.no (t := t) (HQ.out.trans (quotedGo_bad hjs hcl h1)))
              rw [hesc] at d1 enq en1 en2
              clear hcl hnl hesc h1
              generalize bt s i = q at *
              go_wp2_with fail
              go_quiet (fail)
              go_wp2_with (go_at_call 58; (with_reducible refine (HC1.out _ (by (repeat (first | (with_reducible exact Below.refl _ _) | (with_reducible assumption) | (with_reducible refine Below.setCell ?_ (by first | omega | (simp <;> omega)) _) | (with_reducible refine Below.alloc ?_ (by first | omega | (simp <;> omega)) _) | (with_reducible refine Below.drew ?_) | (with_reducible refine below_drewN ?_ _) | (with_reducible refine Below.trans ?_ (Below.mono (by with_reducible assumption) (by first | omega | (simp <;> omega)))))))).mono ?_); rintro e w1 ⟨rfl, rfl⟩)
              exact bodyPost_ret (v := .tuple #[.agg (tokA ⟨4, acc, i, 0⟩), .bool false]) (by simp [results, Try.results46, go_sem, tokA, *]) rfl ⟨HX.out _, (by (repeat (first | (with_reducible exact Below.refl _ _) | (with_reducible assumption) | (with_reducible refine Below.setCell ?_ (by first | omega | (simp <;> omega)) _) | (with_reducible refine Below.alloc ?_ (by first | omega | (simp <;> omega)) _) | (with_reducible refine Below.drew ?_) | (with_reducible refine below_drewN ?_ _) | (with_reducible refine Below.trans ?_ (Below.mono (by with_reducible assumption) (by first | omega | (simp <;> omega)))))))⟩
            · have HX := Lib.hid (HQ.out.trans (quotedGo_step hjs hcl hnl h1))
              have hbd := one_bd hjs h1
              have hlen := one_len h1
              rw [hesc] at d1 enq en1 en2
              clear hcl hnl hesc h1
              generalize bt s i = q at *
              go_wp2_with fail
              go_quiet (fail)
              go_wp2_with (go_at_call 58; (with_reducible refine (HC1.out _ (by (repeat (first | (with_reducible exact Below.refl _ _) | (with_reducible assumption) | (with_reducible refine Below.setCell ?_ (by first | omega | (simp <;> omega)) _) | (with_reducible refine Below.alloc ?_ (by first | omega | (simp <;> omega)) _) | (with_reducible refine Below.drew ?_) | (with_reducible refine below_drewN ?_ _) | (with_reducible refine Below.trans ?_ (Below.mono (by with_reducible assumption) (by first | omega | (simp <;> omega)))))))).mono ?_); rintro e w1 ⟨rfl, rfl⟩)
              exact ⟨⟨n, acc ++ t, by omega, hbd.2, rfl, by have q1 := (rt.drewN nq).put 1 (.string (acc ++ t)); simpa using q1, (rz.drewN nq).far (by simp) _, (by (repeat (first | (with_reducible exact Below.refl _ _) | (with_reducible assumption) | (with_reducible refine Below.setCell ?_ (by first | omega | (simp <;> omega)) _) | (with_reducible refine Below.alloc ?_ (by first | omega | (simp <;> omega)) _) | (with_reducible refine Below.drew ?_) | (with_reducible refine below_drewN ?_ _) | (with_reducible refine Below.trans ?_ (Below.mono (by with_reducible assumption) (by first | omega | (simp <;> omega))))))), by rw [ByteArray.size_append]; omega, HX.out⟩, by simp [intOf]; omega⟩
          · have en3 : ((bt s j : Int) == 92) = false := by simp; omega
            have HX := Lib.hid (HQ.out.trans (quotedGo_step hjs hcl hnl (one_rune hesc)))
            have hbd := one_bd hjs (one_rune hesc)
            have hlen := one_len (one_rune hesc)
            clear hcl hnl hesc
            generalize bt s i = q at *
            go_wp2_with fail
            go_quiet (fail)
            have hrd := fun (n : Nat) => ((HN.out.below (hbr.mono hB)).drewN n)
            have HRD := Lib.hid hrd
            clear hrd
            go_wp2_with (go_at_call 59; (with_reducible refine (rDecode_in s (some ad) c j hjs (by omega) hcap _ (by simp; omega) (HRD.out _)).mono ?_); rintro e wb1 ⟨rfl, b1⟩; have zb1 : wr.heap.size ≤ wb1.heap.size := (by have hzz := Below.size b1; first | omega | (simp at hzz; omega)); replace b1 := Below.mono (B' := wr.heap.size) b1 (by first | omega | (simp <;> omega)); obtain ⟨hcb1, hfb1⟩ := bcell b1; have lt1 : w.heap.size + 1 < wb1.heap.size := (by omega))
            have rt1 := (rt.drewN nq).below b1 lt
            have rz1 := (rz.drewN nq).below b1 lz
            exact ⟨⟨j + wd s j, _, by omega, hbd.2, by go_num, by have q1 := (rt1.put 1 (.string (acc ++ Utf8.encode (rn s j : Int)))).alloc (.cells #[.int .i64 (j : Int), .int .i32 (rn s j : Int), .int .i64 (wd s j : Int), .bool (gd s j)] 80); simpa using q1, (rz1.far (by simp) _).alloc _, (by (repeat (first | (with_reducible exact Below.refl _ _) | (with_reducible assumption) | (with_reducible refine Below.setCell ?_ (by first | omega | (simp <;> omega)) _) | (with_reducible refine Below.alloc ?_ (by first | omega | (simp <;> omega)) _) | (with_reducible refine Below.drew ?_) | (with_reducible refine below_drewN ?_ _) | (with_reducible refine Below.trans ?_ (Below.mono (by with_reducible assumption) (by first | omega | (simp <;> omega))))))), by rw [ByteArray.size_append]; omega, HX.out⟩, by simp [intOf]; omega⟩
    · have HX := Lib.hid (fun t => QPost.no (t := t) (HQ.out.trans (quotedGo_end hjs)))
      go_wp2
      exact bodyPost_ret (v := .tuple #[.agg (tokA ⟨4, acc, i, 0⟩), .bool false]) (by simp [results, Try.results46, go_sem, tokA, *]) rfl ⟨HX.out _, (by (repeat (first | (with_reducible exact Below.refl _ _) | (with_reducible assumption) | (with_reducible refine Below.setCell ?_ (by first | omega | (simp <;> omega)) _) | (with_reducible refine Below.alloc ?_ (by first | omega | (simp <;> omega)) _) | (with_reducible refine Below.drew ?_) | (with_reducible refine below_drewN ?_ _) | (with_reducible refine Below.trans ?_ (Below.mono (by with_reducible assumption) (by first | omega | (simp <;> omega)))))))⟩
end Go.Proofs.Ytdlppdoankeilaa
