/- The walks of chapter 14's reference: digits. -/
import Derived.Test.YtkfpomkfgdkjdaaDoorW2
import Derived.Lib.ItoaLen
namespace Go.Proofs.YtkfpomkfgdkjdaaDoor
set_option linter.unusedVariables false
set_option linter.unusedSimpArgs false
open Go.RowKit
theorem decDigits_lt {u : Nat} (h : u < 10) : Lib.decDigits u = [UInt8.ofNat (48 + u)] := by rw [Lib.decDigits]; simp [h]
theorem decDigits_ge {u : Nat} (h : ¬ u < 10) : Lib.decDigits u = Lib.decDigits (u / 10) ++ [UInt8.ofNat (48 + u % 10)] := by rw [Lib.decDigits]; simp [h]
/-- What the loop holds: the digits that are still to come, and those that are there. -/
def DigInv (n u : Nat) (t : List UInt8) : Prop := Lib.decDigits n = Lib.decDigits u ++ t
theorem DigInv.step {n u : Nat} {t : List UInt8} (h : DigInv n u t) (h1 : ¬ u < 10) : DigInv n (u / 10) (UInt8.ofNat (48 + u % 10) :: t) := by
  unfold DigInv at *; rw [h, decDigits_ge h1]; simp
theorem DigInv.fin {n u : Nat} {t : List UInt8} (h : DigInv n u t) (h1 : u < 10) : (48 + UInt8.ofNat (u % 10)) :: t = Lib.decDigits n := by
  unfold DigInv at *; rw [h, decDigits_lt h1, Nat.mod_eq_of_lt h1, UInt8.ofNat_add]; rfl

theorem ba_app (a b : Array UInt8) : (⟨a⟩ : ByteArray) ++ ⟨b⟩ = ⟨a ++ b⟩ := by apply ByteArray.ext; simp
theorem ba_cons (d : Nat) (t : List UInt8) : (⟨#[48 + UInt8.ofNat d]⟩ : ByteArray) ++ ⟨t.toArray⟩ = ⟨(UInt8.ofNat (48 + d) :: t).toArray⟩ := by
  rw [ba_app, UInt8.ofNat_add]; simp
theorem conv1 (W : World) (x : Int) (h0 : 0 ≤ x) (h1 : x < 256) :
    (convert 64 9 (.slice (some ⟨W.heap.size, 0, none⟩) 1 1)).run Tryd.prog (W.alloc (.cells #[.int .u8 x] 5)) = .ok (.string ⟨#[UInt8.ofNat x.toNat]⟩) (W.alloc (.cells #[.int .u8 x] 5)) := by
  have h := run_convert_bytes_back (P := Tryd.prog) (W.alloc (.cells #[.int .u8 x] 5)) 64 9 5 ⟨W.heap.size, 0, none⟩ 1 [UInt8.ofNat x.toNat] Tryd.underlying64 Tryd.underlying5 Tryd.underlying9 (by
    intro j hj
    obtain rfl : j = 0 := by simpa using hj
    simp [Addr.add]
    omega)
  simpa using h

set_option maxHeartbeats 400000 in
theorem natural_any (n : Nat) (hn : n ≤ 9007199254740992) (w : World) :
    Calls Tryd.prog 68 #[.int .u64 n] w fun e w' => e = .returned (.string ⟨(Lib.decDigits n).toArray⟩) ∧ Below w.heap.size w w' := by
  go_enter Tryd.func68, Tryd.ntmps68
  go_wp2
  go_loopw [0, 3] (fun v s wr => ∃ (u : Nat) (t : List UInt8), t.length + u ≤ n ∧ v = .int .u64 u ∧ s = .string ⟨t.toArray⟩ ∧ DigInv n u t ∧ Below w.heap.size w wr) (fun v _ _ => (intOf v).toNat)
  case atStart => exact ⟨n, [], by simp, rfl, rfl, by simp [DigInv], Below.refl _ _⟩
  case round =>
    obtain ⟨u, t, hu, rfl, rfl, hd, hb⟩ := hrel
    have H := Lib.hid hd
    have zr := hb.size
    clear hd
    have hcv := fun W => conv1 W (48 + (u : Int) % 10) (by omega) (by omega)
    have HC := Lib.hid (ba_cons (u % 10) t)
    go_wp2
    · have hlt : u < 10 := by first | omega | (simp_all; omega)
      go_ret
      exact ⟨by simp [HC.out, H.out.fin hlt], (by (repeat (first | (with_reducible exact Below.refl _ _) | (with_reducible assumption) | (with_reducible refine Below.setCell ?_ (by first | omega | (simp <;> omega)) _) | (with_reducible refine Below.alloc ?_ (by first | omega | (simp <;> omega)) _) | (with_reducible refine Below.drew ?_) | (with_reducible refine below_drewN ?_ _) | (with_reducible refine Below.trans ?_ (Below.mono (by with_reducible assumption) (by first | omega | (simp <;> omega)))))))⟩
    · have hlt : ¬ u < 10 := by first | omega | (simp_all; omega)
      exact ⟨⟨u / 10, _, by simp; omega, by go_num, congrArg Value.string HC.out, H.out.step hlt, (by (repeat (first | (with_reducible exact Below.refl _ _) | (with_reducible assumption) | (with_reducible refine Below.setCell ?_ (by first | omega | (simp <;> omega)) _) | (with_reducible refine Below.alloc ?_ (by first | omega | (simp <;> omega)) _) | (with_reducible refine Below.drew ?_) | (with_reducible refine below_drewN ?_ _) | (with_reducible refine Below.trans ?_ (Below.mono (by with_reducible assumption) (by first | omega | (simp <;> omega)))))))⟩, by simp [intOf]; omega⟩
set_option maxHeartbeats 400000 in
theorem Digits_any (n : Int) (h0 : -9007199254740991 ≤ n) (h1 : n ≤ 9007199254740991) (w : World) :
    Calls Tryd.prog 47 #[.int .i64 n] w fun e w' => e = .returned (.string (digits n)) ∧ Below w.heap.size w w' := by
  by_cases hn : n < 0
  · obtain ⟨m, rfl⟩ : ∃ m : Nat, n = -(m : Int) := ⟨n.natAbs, by omega⟩
    have e : digits (-(m : Int)) = ⟨#[45]⟩ ++ ⟨(Lib.decDigits m).toArray⟩ := by
      unfold digits Lib.itoa; rw [if_pos hn, ba_app]; simp
    have HE := Lib.hid e
    have hl : (Lib.decDigits m).length ≤ 1000000 := by
      rw [Lib.decDigits_length]
      have := Lib.nDigits_le20 m (by omega)
      omega
    go_enter Tryd.func47, Tryd.ntmps47
    go_wp2_with fail
    rw [show (-(-(m : Int) + 1) + 1) = (m : Int) by omega]
    refine (natural_any m (by omega) _).mono ?_
    rintro e w3 ⟨rfl, b3⟩
    go_wp2
    go_ret
    exact ⟨by simp [HE.out], b3⟩
  · obtain ⟨m, rfl⟩ := Int.eq_ofNat_of_zero_le (by omega : 0 ≤ n)
    have e : digits (m : Int) = ⟨(Lib.decDigits m).toArray⟩ := by
      unfold digits Lib.itoa; rw [if_neg hn]; simp
    have HE := Lib.hid e
    go_enter Tryd.func47, Tryd.ntmps47
    go_wp2_with (go_at_call 68; refine (natural_any _ (by omega) _).mono ?_; rintro e w3 ⟨rfl, b3⟩)
    go_ret
    exact ⟨by simp [HE.out], b3⟩
end Go.Proofs.YtkfpomkfgdkjdaaDoor
