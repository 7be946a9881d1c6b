/- The walk of chapter 1's iterator, called with a plain function. -/
import Derived.Test.YtlfigpmechocmaaDoorW4
namespace Go.Proofs.YtlfigpmechocmaaDoor
set_option linter.unusedVariables false
set_option linter.unusedSimpArgs false
set_option linter.unnecessarySimpa false
open Go.RowKit
attribute [local go_sem] cell_alloc_add cell_set_add lt_more Oper.semAt_some
set_option maxRecDepth 100000 in
set_option maxHeartbeats 4000000 in
theorem Runes1_call (F : FuncId) (caps : Array Value) (Bs : Nat) (s : ByteArray) (hs : s.size ≤ 140737488351232) (J Jx : List Nat → World → Prop)
    (hF : ∀ args w, (callFunc F args).run Tryd.prog w = .ok (.enter F args) w)
    (hJ : ∀ pre W W', J pre W → W.grownBy W' none → Below W.heap.size W W' → J pre W')
    (hY : ∀ pre k W, J pre W → AtPlace s pre k → k < s.size → Calls Tryd.prog F (#[.int .i64 (k : Int), .int .i32 (rn s k : Int)] ++ caps) W fun e W' =>
      (e = .returned (.bool true) ∧ J (pre ++ [k]) W' ∧ KeepC Bs W W') ∨ (e = .returned (.bool false) ∧ Jx (pre ++ [k]) W'))
    (W : World) (hc : W.cell? ⟨Bs, 0, none⟩ = some (.string s)) (h0 : J [] W) :
    Calls Tryd.prog 33 #[.func (.func F) #[] caps, .pointer (some ⟨Bs, 0, none⟩)] W fun e W' => (∃ v, e = .returned v) ∧
      (J (places s) W' ∨ (∃ pre, Jx pre W')) := by
  have kb := fun (w : World) (x : ByteArray) => run_bytes_of_string (P := Tryd.prog) w 9 22 5 x Tryd.underlying9 Tryd.underlying22 Tryd.underlying5
  go_enter Tryd.func33, Tryd.ntmps33
  go_wp2
  go_loopw [3] (fun i wr => ∃ (pre : List Nat) (k : Nat), i = .int .i64 k ∧ AtPlace s pre k ∧ J pre wr ∧ wr.cell? ⟨Bs, 0, none⟩ = some (.string s)) (fun i _ => s.size - (intOf i).toNat)
  case atStart => exact ⟨[], 0, rfl, AtPlace.start s, h0, hc⟩
  case round =>
    obtain ⟨pre, k, rfl, hp, hj, hcr⟩ := hrel
    have hBs := cell_lt hcr
    have hk := hp.2
    by_cases hlt : k < s.size
    · have hw1 := wd_bd hlt
      go_wp2_with (first
        | (go_at_call 10; (with_reducible refine (DecW s k hlt hs _ _ _ wr _ (by omega) (by omega) (by first | exact grownCap_ge _ _ _ _ | omega)).mono ?_); rintro e w1 ⟨rfl, hg1, hb1⟩)
        | ((with_reducible refine (hY pre k w1 (hJ _ _ _ hj hg1 hb1) hp hlt).mono ?_); rintro e W3 (⟨rfl, hJ3, hk3⟩ | ⟨rfl, hJx3⟩)))
      all_goals first
        | (have hc3 := hk3 _ (keepC_below hb1 hBs _ hcr)
           exact ⟨⟨pre ++ [k], k + wd s k, by go_num, hp.step hlt, hJ3, hc3⟩, by simp [intOf]; omega⟩)
        | (refine bodyPost_ret (results_none rfl _ _ _) rfl ?_
           exact ⟨⟨_, rfl⟩, .inr ⟨pre ++ [k], hJx3⟩⟩)
    · go_wp2
      go_end0
      exact ⟨⟨_, rfl⟩, .inl (by rw [← hp.fin hlt]; exact hj)⟩
end Go.Proofs.YtlfigpmechocmaaDoor
