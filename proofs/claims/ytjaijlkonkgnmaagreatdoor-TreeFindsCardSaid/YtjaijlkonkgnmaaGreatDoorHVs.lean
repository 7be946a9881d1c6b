/- The walks of the library's slices.Values of numbers, and of the iterator it hands out, called with a plain function. -/
import Derived.Test.YtjaijlkonkgnmaaGreatDoorHBJ
namespace Go.Proofs.YtjaijlkonkgnmaaGreatDoor
set_option linter.unusedVariables false
set_option linter.unusedSimpArgs false
set_option linter.unnecessarySimpa false
open Go.RowKit
attribute [local go_sem] cell_alloc_add cell_set_add lt_more
theorem Values_any (A : Option Addr) (n c : Nat) (w : World) :
    Calls Tryz.prog 29 #[.slice A n c] w fun e w' => e = .returned (.func (.func 37) #[] #[.pointer (some ⟨w.heap.size, 0, none⟩)]) ∧ w' = w.alloc (.cells #[.slice A n c] 26) := by
  go_enter Tryz.func29, Tryz.ntmps29
  go_wp2
  go_ret
  exact ⟨rfl, rfl⟩
set_option maxRecDepth 100000 in
set_option maxHeartbeats 4000000 in
theorem Values1_call (F : FuncId) (caps : Array Value) (Bs : Nat) (D : List Int) (n : Nat) (hn : D.length = n) (hnb : n ≤ 2000000) (A : Option Addr) (c : Nat) (hnc : n ≤ c) (hcm : c ≤ maxLen) (J Jx : Nat → World → Prop)
    (hF : ∀ args w, (callFunc F args).run Tryz.prog w = .ok (.enter F args) w) (hJR : ∀ q W, J q W → RdD W A D)
    (hY : ∀ q W, q < n → J q W → Calls Tryz.prog F (#[.int .i64 (D.getD q 0)] ++ caps) W fun e W' => (e = .returned (.bool true) ∧ J (q + 1) W') ∨ (e = .returned (.bool false) ∧ Jx (q + 1) W'))
    (W : World) (hc : W.cell? ⟨Bs, 0, none⟩ = some (.slice A n c)) (h0 : J 0 W) :
    Calls Tryz.prog 37 #[.func (.func F) #[] caps, .pointer (some ⟨Bs, 0, none⟩)] W fun e W' => (∃ v, e = .returned v) ∧ (J n W' ∨ (∃ q, 0 < q ∧ q ≤ n ∧ Jx q W')) := by
  have HN := Lib.hid hn
  have HR := Lib.hid hJR
  clear hn hJR
  unfold maxLen at hcm
  go_enter Tryz.func37, Tryz.ntmps37
  go_wp2
  go_loopw [7] (fun t wr => ∃ q : Nat, q ≤ n ∧ t = .int .i64 (q : Int) ∧ J q wr) (fun t _ => n - (intOf t).toNat)
  case atStart => exact ⟨0, Nat.zero_le _, rfl, h0⟩
  case round =>
    obtain ⟨q, hq, rfl, hj⟩ := hrel
    by_cases hlt : q < n
    · obtain ⟨ad, rfl, hcell⟩ := HR.out q wr hj q (by rw [HN.out]; exact hlt)
      have HYq := Lib.hid (hY q wr hlt hj)
      generalize D.getD q 0 = d at *
      go_wp2_with (first
        | ((with_reducible refine HYq.out.mono ?_); rintro e W3 (⟨rfl, hJ3⟩ | ⟨rfl, hJx3⟩))
        | fail)
      · exact ⟨⟨q + 1, by omega, by go_num, hJ3⟩, by simp [intOf]; omega⟩
      · refine bodyPost_ret (results_none rfl _ _ _) rfl ?_
        exact ⟨⟨_, rfl⟩, .inr ⟨q + 1, by omega, by omega, hJx3⟩⟩
    · obtain rfl : q = n := by omega
      go_wp2
      go_end0
      exact ⟨⟨_, rfl⟩, .inl hj⟩
end Go.Proofs.YtjaijlkonkgnmaaGreatDoor
