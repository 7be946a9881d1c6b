/- TreeSames: the statement as it was given, for every input: the call returns true, and each argument reads as it read. No condition is added. -/
import Derived.Test.YtjaijlkonkgnmaaDoorHLSame
import Derived.Test.YtjaijlkonkgnmaaDoorHRow3
import Derived.Test.YtjaijlkonkgnmaaDoorHRowB
import Derived.Test.YtjaijlkonkgnmaaDoorHPR
namespace Go.Proofs.YtjaijlkonkgnmaaDoor
set_option linter.unusedVariables false
set_option linter.unusedSimpArgs false
set_option linter.unnecessarySimpa false
open Go Go.ChangeShapes Go.WideShapes Go.ChangeAt Go.WideMaps Go.WideElems Go.RowKit
open Go.ChangeMaps (open_string shut_string)

set_option maxRecDepth 100000 in
theorem treeSames_lifted (os : Os) (started : os.Started) (H : Type) (enc : TypeId × Value → H) :
    ReturnsInHanded {} Tryd.checked os 6 .any (fun w args => (Rows.treeSamesSpec.pre enc Tryd.prog Tryd.f6 [] false w args ∧ laidMetH Tryd.prog [("unicode/utf8.acceptRanges", Rows.laid_unicode_utf8_acceptRanges), ("unicode/utf8.first", Rows.laid_unicode_utf8_first)] w) ∧ sizedMet enc Tryd.prog Tryd.f6 (OpenSpec.ofChange Rows.treeSamesSpec) false w args)
      (Rows.treeSamesSpec.post enc Tryd.prog Tryd.f6 false true false false) := by
  refine returns_both (C := Tryd.checked) (X := fun w _ => laidMetH Tryd.prog [("unicode/utf8.acceptRanges", Rows.laid_unicode_utf8_acceptRanges), ("unicode/utf8.first", Rows.laid_unicode_utf8_first)] w) (fun _ _ _ hh h => h.of_heap hh) own started (by kernel_rfl) Tryd.func6
    (ChangeSpec.witness_shaped (enc := enc) (C := Tryd.checked) (os := os) (X := fun w _ => laidMetH Tryd.prog [("unicode/utf8.acceptRanges", Rows.laid_unicode_utf8_acceptRanges), ("unicode/utf8.first", Rows.laid_unicode_utf8_first)] w) false (World.laidAll Tryd.prog os [("unicode/utf8.acceptRanges", Rows.laid_unicode_utf8_acceptRanges), ("unicode/utf8.first", Rows.laid_unicode_utf8_first)]) #[.agg #[.slice none 0 0], .agg #[.slice none 0 0]] 8 (World.laidAll_os _ _ _) (World.shaped_of_ZipB (by kernel_rfl) (by kernel_rfl)) (by kernel_rfl) (by kernel_rfl) (by kernel_rfl) (laid_met os _)) ?_
  intro W base args ds gs before hval0 hW hsz0 hL hsh
  have hval : ∀ (j : Nat) t v, Tryd.f6.params[j]? = some t → args[j]? = some v → Value.okWide Tryd.prog W .any base t v := hval0
  have hsz : (DataW.weightsEach Tryd.prog (Tryd.f6.params.toList ++ Rows.treeSamesSpec.plain.varTypes Tryd.prog) (ds ++ gs)).all (· ≤ reachBytes) = true := hsz0
  clear hsz0
  have hW' := hW
  obtain ⟨p, q, hA0, hV, rfl, hfz, hnd⟩ := hW
  have hA : DataW.TrodAll enc Tryd.prog W 0 (fun _ => true) true Tryd.f6.params.toList args.toList ds p := hA0
  rw [Tryd.params6] at hA hval hsz
  obtain ⟨v0, v1, d0, d1, p0, p1, rfl, rfl, rfl, q0, q1⟩ := trodAll_two hA
  obtain ⟨rfl, rfl⟩ := trodVars_none hV
  have hmx := mx_of_shape hsh
  have h00 := mx_pos hmx
  obtain ⟨A0, L0, c0, rfl, hc0, hm0, hT0, hd0⟩ := open_tree q0 (hval 0 29 v0 rfl rfl)
  have hx0 := reach_tree (reach_of hsz (j := 0) rfl rfl) hd0
  obtain ⟨A1, L1, c1, rfl, hc1, hm1, hT1, hd1⟩ := open_tree q1 (hval 1 29 v1 rfl rfl)
  have hx1 := reach_tree (reach_of hsz (j := 1) rfl rfl) hd1
  clear hA0 hval0
  refine (TreeSames_any A0 A1 L0 L1 L0.length c0 L1.length c1 rfl rfl hc0 hc1 hm0 hm1 hx0 hx1 W hT0 hT1 hmx h00).mono fun e W' ⟨he, hb⟩ => ?_
  subst he
  exact ⟨_, rfl, law_post laidOut (fun t ht => by
    have hm : t ∈ [29, 29] := by simpa [Tryd.params6] using ht
    have hall : ([29, 29].all fun u => Tryd.prog.readableRec u && decide (u < Tryd.prog.types.size)) = true := by kernel_rfl
    simpa using List.all_eq_true.1 hall t hm) rfl (tb := 4) rfl Tryd.underlying4 hW' rfl rfl rfl hb⟩

theorem treeSames_holds : Rows.TreeSamesSaid :=
  OpenClaim.holds_of_wide 6 Tryd.f6 rfl rfl rfl rfl rfl rfl rfl ⟨rfl, rfl, rfl, rfl, rfl⟩ rfl rfl rfl rfl rfl (by kernel_rfl) Tryd.func6 (by kernel_rfl)
    (of_decide_eq_true (by kernel_rfl)) (by unfold Func.isWrapper; rw [if_neg (of_decide_eq_false (by kernel_rfl))]; exact ⟨rfl, rfl⟩)
    (fun os started H enc _ => treeSames_lifted os started H enc)

theorem treeSames_card : Rows.TreeSamesCardSaid :=
  Claim7.holds_tied_plain_at .later [] [.data, .pinned] true (true, "20bcbd223c37717003ca165027d3f0a806c39be97f8a2ede8d4c017c1721eb59") false
    treeSames_holds (fun _ h => by cases h) (by kernel_rfl) (fun _ h => by cases h) treeSames_row_tie rfl ⟨rfl, rfl⟩ (by kernel_rfl) rfl
    (fun f fn hf hfn => by
      obtain rfl : f = 6 := Option.some.inj ((show Tryd.prog.funcNamed "shuck/shucklaw3.TreeSames" = some 6 by kernel_rfl).symm.trans hf) |>.symm
      obtain rfl : fn = Tryd.f6 := (Option.some.inj (Tryd.func6.symm.trans hfn)).symm
      exact ⟨by kernel_rfl, fun j t ht => by
        rw [Tryd.params6] at ht
        have hm : t ∈ [29, 29] := by simpa using Array.mem_of_getElem? ht
        have hall : ([29, 29].all fun u => !Tryd.prog.wantsStandIn u) = true := by kernel_rfl
        exact (show Tryd.prog.wantsStandIn t = false by simpa using List.all_eq_true.1 hall t hm)⟩)
    (by kernel_rfl)
#print axioms treeSames_card
end Go.Proofs.YtjaijlkonkgnmaaDoor
