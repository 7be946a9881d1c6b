/- The walks of strings.IndexRune, strings.IndexAny and strings.ContainsAny on the four blanks and a short text, ASCII or not. -/
import Derived.Test.YtdlppdoankeilaaDoorScan8
import Derived.Lib.OthersKept
namespace Go.Proofs.YtdlppdoankeilaaDoor
set_option linter.unusedVariables false
set_option linter.unusedSimpArgs false
set_option linter.unnecessarySimpa false
open Go.RowKit
attribute [local go_sem] cell_alloc_add cell_set_add lt_more
theorem ofNat_far (x : Nat) : 128 ≤ (UInt8.ofNat (128 + x % 64)).toNat := by
  rw [UInt8.toNat_ofNat']; omega
/-- The bytes of a rune that is not ASCII: two, three or four; the last is none of ASCII's. -/
theorem enc_far {r : Nat} (h : 128 ≤ r) : (∃ a b : UInt8, Utf8.encode (r : Int) = ⟨#[a, b]⟩ ∧ 128 ≤ b.toNat) ∨ (∃ a b c : UInt8, Utf8.encode (r : Int) = ⟨#[a, b, c]⟩ ∧ 128 ≤ c.toNat) ∨ (∃ a b c d : UInt8, Utf8.encode (r : Int) = ⟨#[a, b, c, d]⟩ ∧ 128 ≤ d.toNat) := by
  have key : ∀ c : Nat, 128 ≤ c → ∀ e : ByteArray, e = (if c < 0x80 then ⟨#[UInt8.ofNat c]⟩ else if c < 0x800 then ⟨#[UInt8.ofNat (0xC0 + c / 64), UInt8.ofNat (0x80 + c % 64)]⟩ else if c < 0x10000 then ⟨#[UInt8.ofNat (0xE0 + c / 4096), UInt8.ofNat (0x80 + c / 64 % 64), UInt8.ofNat (0x80 + c % 64)]⟩ else ⟨#[UInt8.ofNat (0xF0 + c / 262144), UInt8.ofNat (0x80 + c / 4096 % 64), UInt8.ofNat (0x80 + c / 64 % 64), UInt8.ofNat (0x80 + c % 64)]⟩ : ByteArray) →
      (∃ a b : UInt8, e = ⟨#[a, b]⟩ ∧ 128 ≤ b.toNat) ∨ (∃ a b c : UInt8, e = ⟨#[a, b, c]⟩ ∧ 128 ≤ c.toNat) ∨ (∃ a b c d : UInt8, e = ⟨#[a, b, c, d]⟩ ∧ 128 ≤ d.toNat) := by
    intro c hc e he
    rw [if_neg (by omega)] at he
    split at he
    · exact .inl ⟨_, _, he, ofNat_far _⟩
    · split at he
      · exact .inr (.inl ⟨_, _, _, he, ofNat_far _⟩)
      · exact .inr (.inr ⟨_, _, _, _, he, ofNat_far _⟩)
  refine key (if Utf8.valid (r : Int) then (r : Int).toNat else Utf8.runeError) ?_ _ rfl
  split
  · omega
  · decide
set_option maxRecDepth 100000 in
theorem far_at : ∀ b : Fin 256, 128 ≤ b.1 → Lib.indexByte [13, 10] (UInt8.ofNat b.1) = -1 ∧ Lib.indexByte [10] (UInt8.ofNat b.1) = -1 ∧ Lib.indexByte [] (UInt8.ofNat b.1) = -1 := by decide
theorem far_idx {b : UInt8} (h : 128 ≤ b.toNat) : Lib.indexByte [13, 10] b = -1 ∧ Lib.indexByte [10] b = -1 ∧ Lib.indexByte [] b = -1 := by
  have := far_at ⟨b.toNat, UInt8.toNat_lt b⟩ h
  simpa using this
theorem below_iter (w : World) (s : ByteArray) (pos : Nat) : Below w.heap.size w (w.iter s pos) := (Below.refl _ w).alloc (Nat.le_refl _) _
theorem four1 (h) : (⟨#[32, 9, 13, 10]⟩ : ByteArray)[1]'h = 9 := rfl
theorem four2 (h) : (⟨#[32, 9, 13, 10]⟩ : ByteArray)[2]'h = 13 := rfl
theorem four3 (h) : (⟨#[32, 9, 13, 10]⟩ : ByteArray)[3]'h = 10 := rfl
theorem two1 (a b : UInt8) (h) : (⟨#[a, b]⟩ : ByteArray)[1]'h = b := rfl
theorem three2 (a b c : UInt8) (h) : (⟨#[a, b, c]⟩ : ByteArray)[2]'h = c := rfl
theorem fours3 (a b c d : UInt8) (h) : (⟨#[a, b, c, d]⟩ : ByteArray)[3]'h = d := rfl
attribute [local go_sem] four1 four2 four3 two1 three2 fours3
set_option maxRecDepth 100000 in
set_option maxHeartbeats 8000000 in
theorem idxRune_far (r : Nat) (h : 128 ≤ r) (h2 : r ≤ 1114111) (w : World) : Calls Tryd.prog 62 #[.string ⟨#[32, 9, 13, 10]⟩, .int .i32 (r : Int)] w fun e w' => e = .returned (.int .i64 (-1)) ∧ Below w.heap.size w w' := by
  have e1 : ((r : Int) < 128) = False := by simp; omega
  by_cases hr : r = 65533
  · subst hr
    go_enter Tryd.func62, Tryd.ntmps62
    go_wp2_with fail
    go_loopg [5, 6] 4 (fun g _ _ wx => ∃ i : Nat, i + g = 4 ∧ wx = w.iter ⟨#[32, 9, 13, 10]⟩ i)
    case atStart => exact ⟨0, rfl, rfl⟩
    case round =>
      obtain ⟨i, hig, rfl⟩ := hrel
      cases gk with
      | zero =>
        obtain rfl : i = 4 := by omega
        have hnx := run_next_end (P := Tryd.prog) w ⟨#[32, 9, 13, 10]⟩ 4
        go_wp2
        go_ret
        exact ⟨rfl, below_iter w _ _⟩
      | succ g =>
        have hi : i < 4 := by omega
        have hstep : ∀ ty, ∃ v : Nat, v < 128 ∧ (Instr.next (.pointer (some ⟨w.heap.size, 0, none⟩)) true ty).run Tryd.prog (w.iter ⟨#[32, 9, 13, 10]⟩ i) = .ok (.tuple #[.bool true, .int .i64 i, .int .i32 v]) (w.iter ⟨#[32, 9, 13, 10]⟩ (i + 1)) := by
          intro ty
          match i, hi with
          | 0, _ => exact ⟨32, by decide, run_next_ascii w _ 0 ty (by decide) (by decide)⟩
          | 1, _ => exact ⟨9, by decide, run_next_ascii w _ 1 ty (by decide) (by decide)⟩
          | 2, _ => exact ⟨13, by decide, run_next_ascii w _ 2 ty (by decide) (by decide)⟩
          | 3, _ => exact ⟨10, by decide, run_next_ascii w _ 3 ty (by decide) (by decide)⟩
        obtain ⟨v, hv, hnx⟩ := hstep 0
        have hnv : ((v : Int) == 65533) = false := by simp; omega
        go_wp2
        go_roundg g
        case measure => omega
        case rel => exact ⟨i + 1, by omega, rfl⟩
  · have e2 : ((r : Int) == 65533) = false := by simp; omega
    cases hv : Lib.validRune (r : Int)
    · go_enter Tryd.func62, Tryd.ntmps62
      go_wp2_with (go_at_call 67; (with_reducible refine (Tryd.utf8_ValidRune _ _).mono ?_); rintro e w1 ⟨rfl, rfl⟩)
      go_ret
      exact ⟨rfl, (by (repeat (first | (with_reducible exact Below.refl _ _) | (with_reducible assumption) | (with_reducible refine Below.setCell ?_ (by first | omega | (simp <;> omega)) _) | (with_reducible refine Below.alloc ?_ (by first | omega | (simp <;> omega)) _) | (with_reducible refine Below.drew ?_) | (with_reducible refine below_drewN ?_ _) | (with_reducible refine Below.trans ?_ (Below.mono (by with_reducible assumption) (by first | omega | (simp <;> omega)))))))⟩
    · obtain ⟨a, b, he, hb⟩ | ⟨a, b, c, he, hb⟩ | ⟨a, b, c, d, he, hb⟩ := enc_far h
      · go_enter Tryd.func62, Tryd.ntmps62
        go_wp2_with (go_at_call 67; (with_reducible refine (Tryd.utf8_ValidRune _ _).mono ?_); rintro e w1 ⟨rfl, rfl⟩)
        go_step3
        go_wp2_with fail
        go_loop [9, 10] (fun x _ => x = .int .i64 1) (fun _ _ => 1)
        case atStart => rfl
        case round =>
          subst hrel
          have nb : ((9 : Int) == (b.toNat : Int)) = false := by simp; omega
          have nb2 : ((9 : Int) != (b.toNat : Int)) = true := by simp; omega
          obtain ⟨i1, i2, i3⟩ := far_idx hb
          go_wp2_with fail
          go_step3
          go_wp2_with fail
          go_quiet (fail)
          obtain ⟨w2, hw2⟩ : ∃ q : World, q = w1.drewN nq := ⟨_, rfl⟩
          rw [← hw2]
          have bw2 : Below w1.heap.size w1 w2 := by rw [hw2]; exact below_drewN (Below.refl _ _) _
          clear hw2
          go_wp2_with fail
          go_quiet (exact Calls.quiet_of_same (Tryd.strings_IndexByte _ _ _))
          go_wp2_with fail
          rw [Exit.noGoto_ret]
          simp +zetaDelta only [Exit.inBlock, Exit.noGoto_ret, Exit.then]
          go_ret
          exact ⟨rfl, (by (repeat (first | (with_reducible exact Below.refl _ _) | (with_reducible assumption) | (with_reducible refine Below.setCell ?_ (by first | omega | (simp <;> omega)) _) | (with_reducible refine Below.alloc ?_ (by first | omega | (simp <;> omega)) _) | (with_reducible refine Below.drew ?_) | (with_reducible refine below_drewN ?_ _) | (with_reducible refine Below.trans ?_ (Below.mono (by with_reducible assumption) (by first | omega | (simp <;> omega)))))))⟩
      · go_enter Tryd.func62, Tryd.ntmps62
        go_wp2_with (go_at_call 67; (with_reducible refine (Tryd.utf8_ValidRune _ _).mono ?_); rintro e w1 ⟨rfl, rfl⟩)
        go_step3
        go_wp2_with fail
        go_loop [9, 10] (fun x _ => x = .int .i64 2) (fun _ _ => 1)
        case atStart => rfl
        case round =>
          subst hrel
          have nb : ((13 : Int) == (c.toNat : Int)) = false := by simp; omega
          have nb2 : ((13 : Int) != (c.toNat : Int)) = true := by simp; omega
          obtain ⟨i1, i2, i3⟩ := far_idx hb
          go_wp2_with fail
          go_step3
          go_wp2_with fail
          go_quiet (fail)
          obtain ⟨w2, hw2⟩ : ∃ q : World, q = w1.drewN nq := ⟨_, rfl⟩
          rw [← hw2]
          have bw2 : Below w1.heap.size w1 w2 := by rw [hw2]; exact below_drewN (Below.refl _ _) _
          clear hw2
          go_wp2_with fail
          go_quiet (exact Calls.quiet_of_same (Tryd.strings_IndexByte _ _ _))
          go_wp2_with fail
          rw [Exit.noGoto_ret]
          simp +zetaDelta only [Exit.inBlock, Exit.noGoto_ret, Exit.then]
          go_ret
          exact ⟨rfl, (by (repeat (first | (with_reducible exact Below.refl _ _) | (with_reducible assumption) | (with_reducible refine Below.setCell ?_ (by first | omega | (simp <;> omega)) _) | (with_reducible refine Below.alloc ?_ (by first | omega | (simp <;> omega)) _) | (with_reducible refine Below.drew ?_) | (with_reducible refine below_drewN ?_ _) | (with_reducible refine Below.trans ?_ (Below.mono (by with_reducible assumption) (by first | omega | (simp <;> omega)))))))⟩
      · go_enter Tryd.func62, Tryd.ntmps62
        go_wp2_with (go_at_call 67; (with_reducible refine (Tryd.utf8_ValidRune _ _).mono ?_); rintro e w1 ⟨rfl, rfl⟩)
        go_step3
        go_wp2_with fail
        go_loop [9, 10] (fun x _ => x = .int .i64 3) (fun _ _ => 1)
        case atStart => rfl
        case round =>
          subst hrel
          have nb : ((10 : Int) == (d.toNat : Int)) = false := by simp; omega
          have nb2 : ((10 : Int) != (d.toNat : Int)) = true := by simp; omega
          obtain ⟨i1, i2, i3⟩ := far_idx hb
          go_wp2_with fail
          go_step3
          go_wp2_with fail
          go_quiet (fail)
          obtain ⟨w2, hw2⟩ : ∃ q : World, q = w1.drewN nq := ⟨_, rfl⟩
          rw [← hw2]
          have bw2 : Below w1.heap.size w1 w2 := by rw [hw2]; exact below_drewN (Below.refl _ _) _
          clear hw2
          go_wp2_with fail
          go_quiet (exact Calls.quiet_of_same (Tryd.strings_IndexByte _ _ _))
          go_wp2_with fail
          rw [Exit.noGoto_ret]
          simp +zetaDelta only [Exit.inBlock, Exit.noGoto_ret, Exit.then]
          go_ret
          exact ⟨rfl, (by (repeat (first | (with_reducible exact Below.refl _ _) | (with_reducible assumption) | (with_reducible refine Below.setCell ?_ (by first | omega | (simp <;> omega)) _) | (with_reducible refine Below.alloc ?_ (by first | omega | (simp <;> omega)) _) | (with_reducible refine Below.drew ?_) | (with_reducible refine below_drewN ?_ _) | (with_reducible refine Below.trans ?_ (Below.mono (by with_reducible assumption) (by first | omega | (simp <;> omega)))))))⟩
theorem rn_top (s : ByteArray) (i : Nat) : rn s i ≤ 1114111 := by
  exact (rn_bd s i).1
set_option maxRecDepth 100000 in
set_option maxHeartbeats 8000000 in
theorem idxAny_short (s : ByteArray) (hs : s.size ≤ 8) (w : World) : Calls Tryd.prog 55 #[.string s, .string ⟨#[32, 9, 13, 10]⟩] w fun e w' => (∃ k : Int, e = .returned (.int .i64 k)) ∧ Below w.heap.size w w' := by
  have h8z : decide ((8 : Int) < (s.size : Int)) = false := decide_eq_false (by omega)
  have h8y : ((8 : Int) < (s.size : Int)) = False := by simp; omega
  go_enter Tryd.func55, Tryd.ntmps55
  go_wp2_with (go_at_call 63; (with_reducible refine (Tryd.strings_shouldUseASCIISet _ _).mono ?_); rintro e wq ⟨rfl, hwq⟩; obtain rfl := hwq.symm)
  go_loopg [9, 10] s.size (fun g _ _ wx => ∃ i : Nat, s.size - i ≤ g ∧ wx.heap[w.heap.size]? = some (.stringIter s i) ∧ Below w.heap.size w wx)
  case atStart => exact ⟨0, by omega, World.iter_heap _ _ _, below_iter _ _ _⟩
  case round =>
    obtain ⟨i, hig, hit, hb⟩ := hrel
    have hlz : w.heap.size < wr.heap.size := (Array.getElem?_eq_some_iff.1 hit).1
    by_cases hlt : i < s.size
    · have hnx := Lib.run_next_any_at (P := Tryd.prog) wr w.heap.size s i 0 hit hlt
      have hit2 := Lib.iterAt_heap wr w.heap.size s i (i + (Utf8.decode s i).2) hit
      have hb2 := Lib.below_iterAt hb (Nat.le_refl _) s (i + (Utf8.decode s i).2)
      have hw := wd_bd hlt
      have ht := rn_top s i
      unfold wd at hw
      unfold rn at ht
      generalize (Utf8.decode s i).1 = r at *
      generalize (Utf8.decode s i).2 = d at *
      generalize wr.iterAt w.heap.size s (i + d) = wi at *
      have hlz2 : w.heap.size < wi.heap.size := (Array.getElem?_eq_some_iff.1 hit2).1
      cases gk with
      | zero => omega
      | succ g =>
        by_cases hr : r < 128
        · by_cases hk : 0 ≤ Lib.indexByte [32, 9, 13, 10] (UInt8.ofNat r)
          · go_wp2_with (go_at_call 62; (with_reducible refine (Tryd.strings_IndexRune_ascii _ _ _ (by omega) (by omega)).mono ?_); rintro e wq ⟨rfl, hwq⟩; obtain rfl := hwq.symm)
            go_ret
            exact ⟨⟨_, rfl⟩, hb2⟩
          · go_wp2_with (go_at_call 62; (with_reducible refine (Tryd.strings_IndexRune_ascii _ _ _ (by omega) (by omega)).mono ?_); rintro e wq ⟨rfl, hwq⟩; obtain rfl := hwq.symm)
            go_roundg g
            case measure => omega
            case rel => exact ⟨i + d, by omega, hit2, hb2⟩
        · go_wp2_with (go_at_call 62; (with_reducible refine (idxRune_far r (by omega) ht _).mono ?_); rintro e wb1 ⟨rfl, b1⟩)
          go_roundg g
          case measure => omega
          case rel => exact ⟨i + d, by omega, (b1.block _ hlz2).trans hit2, (by (repeat (first | (with_reducible exact Below.refl _ _) | (with_reducible assumption) | (with_reducible refine Below.setCell ?_ (by first | omega | (simp <;> omega)) _) | (with_reducible refine Below.alloc ?_ (by first | omega | (simp <;> omega)) _) | (with_reducible refine Below.drew ?_) | (with_reducible refine below_drewN ?_ _) | (with_reducible refine Below.trans ?_ (Below.mono (by with_reducible assumption) (by first | omega | (simp <;> omega)))))))⟩
    · have hnx := Lib.run_next_end_at (P := Tryd.prog) wr w.heap.size s i 0 hit hlt
      go_wp2
      go_ret
      exact ⟨⟨_, rfl⟩, hb⟩
set_option maxRecDepth 100000 in
/-- Some answer; the world grows at most. -/
theorem conAny_short (s : ByteArray) (hs : s.size ≤ 8) (w : World) : Calls Tryd.prog 45 #[.string s, .string ⟨#[32, 9, 13, 10]⟩] w fun e w' => (∃ k : Bool, e = .returned (.bool k)) ∧ Below w.heap.size w w' := by
  go_enter Tryd.func45, Tryd.ntmps45
  go_wp2_with (go_at_call 55; (with_reducible refine (idxAny_short s hs _).mono ?_); rintro e w1 ⟨⟨k, rfl⟩, b1⟩)
  go_ret
  exact ⟨⟨_, rfl⟩, b1⟩
end Go.Proofs.YtdlppdoankeilaaDoor
