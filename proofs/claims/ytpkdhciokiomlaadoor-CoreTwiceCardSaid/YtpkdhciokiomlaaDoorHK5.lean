/- The walk of the program's table: what the kids of a kind are of. -/
import Derived.Test.YtpkdhciokiomlaaDoorHK4
namespace Go.Proofs.YtpkdhciokiomlaaDoor
set_option linter.unusedVariables false
set_option linter.unusedSimpArgs false
set_option linter.unnecessarySimpa false
open Go.RowKit
attribute [local go_sem] cell_alloc_add cell_set_add lt_more
theorem place_fn {F : FuncId} {p : Plc} (hF : ∀ args w, (callFunc F args).run Tryd.prog w = .ok (.enter F args) w)
    (h : ∀ (W' : World) (A : Option Addr) (L : List Nd) (c i : Nat), TreeAt W' W'.heap.size A L → L.length ≤ c → c ≤ maxLen → i < L.length → Calls Tryd.prog F #[.agg #[.slice A L.length c], .int .i64 (i : Int)] W' fun e W'' => e = .returned (.bool (p L i)) ∧ Below W'.heap.size W' W'') (W : World) :
    Place Tryd.prog W (.func (.func F) #[] #[]) p := ⟨F, #[], rfl, hF, fun W' A L c i _ ht hc hm hi => h W' A L c i ht hc hm hi⟩
theorem pl_isExpr (W : World) : Place Tryd.prog W (.func (.func 28) #[] #[]) exprP := place_fn (Tryd.call28) (fun W' A L c i ht hc hm hi => isExpr_any A L c i W' ht hc hm hi) W
theorem pl_isType (W : World) : Place Tryd.prog W (.func (.func 31) #[] #[]) typeP := place_fn (Tryd.call31) (fun W' A L c i ht hc hm hi => isType_any A L c i W' ht hc hm hi) W
theorem pl_isStmt (W : World) : Place Tryd.prog W (.func (.func 45) #[] #[]) stmtP := place_fn (Tryd.call45) (fun W' A L c i ht hc hm hi => isStmt_any A L c i W' ht hc hm hi) W
theorem pl_isPlain (W : World) : Place Tryd.prog W (.func (.func 40) #[] #[]) plainP := place_fn (Tryd.call40) (fun W' A L c i ht hc hm hi => isPlain_any A L c i W' ht hc hm hi) W
theorem pl_isSpot (W : World) : Place Tryd.prog W (.func (.func 46) #[] #[]) spotP := place_fn (Tryd.call46) (fun W' A L c i ht hc hm hi => isSpot_any A L c i W' ht hc hm hi) W
theorem pl_isPath (W : World) : Place Tryd.prog W (.func (.func 47) #[] #[]) pathP := place_fn (Tryd.call47) (fun W' A L c i ht hc hm hi => isPath_any A L c i W' ht hc hm hi) W
theorem pl_isMembers (W : World) : Place Tryd.prog W (.func (.func 48) #[] #[]) memP := place_fn (Tryd.call48) (fun W' A L c i ht hc hm hi => isMembers_any A L c i W' ht hc hm hi) W
theorem pl_isExported (W : World) : Place Tryd.prog W (.func (.func 59) #[] #[]) expP := place_fn (Tryd.call59) (fun W' A L c i ht hc hm hi => isExported_any A L c i W' ht hc hm hi) W
theorem pl_isLet (W : World) : Place Tryd.prog W (.func (.func 60) #[] #[]) letP := place_fn (Tryd.call60) (fun W' A L c i ht hc hm hi => isLet_any A L c i W' ht hc hm hi) W
theorem pl_any (W : World) : Place Tryd.prog W (.func (.func 44) #[] #[]) anyP := place_fn (Tryd.call44) (fun W' A L c i ht hc hm hi => any_any A L c i W' ht hc hm hi) W
/-- What the table answers: a row of places, or none. -/
def PlRes (P : Program) (o : Option (List Plc × Bool)) (w : World) (e : Ending) (w' : World) : Prop :=
  Below w.heap.size w w' ∧ (match o with
  | none => e = .returned (.tuple #[.slice none 0 0, .bool false, .bool false])
  | some (ps, many) => ∃ A c, e = .returned (.tuple #[.slice A ps.length c, .bool many, .bool true]) ∧ ∀ j, j < ps.length → ∃ a v, A = some a ∧ a.block < w'.heap.size ∧ w'.cell? (a.add j) = some v ∧ Place P w' v (ps.getD j anyP))
section
variable {P : Program} {o : Option (List Plc × Bool)} {w w' : World} {g c : Nat} {many : Bool} {p q r s : Plc} {u v x y : Value}
theorem plResN (ho : o = none) (hb : Below w.heap.size w w') : PlRes P o w (.returned (.tuple #[.slice none 0 0, .bool false, .bool false])) w' := by
  subst ho; exact ⟨hb, rfl⟩
theorem plRes0 (ho : o = some ([], false)) (hb : Below w.heap.size w w') : PlRes P o w (.returned (.tuple #[.slice none 0 0, .bool false, .bool true])) w' := by
  subst ho; exact ⟨hb, _, _, rfl, fun j hj => absurd hj (by simp)⟩
theorem plRes1 (ho : o = some ([p], many)) (hb : Below w.heap.size w w') (hg : g < w'.heap.size) (h0 : w'.cell? ⟨g, 0, none⟩ = some u) (hp : Place P w' u p) : PlRes P o w (.returned (.tuple #[.slice (some ⟨g, 0, none⟩) 1 c, .bool many, .bool true])) w' := by
  subst ho
  refine ⟨hb, _, _, rfl, fun j hj => ⟨⟨g, 0, none⟩, ?_⟩⟩
  obtain rfl : j = 0 := by simp at hj; omega
  exact ⟨u, rfl, hg, by rw [add_row]; exact h0, hp⟩
theorem plRes2 (ho : o = some ([p, q], many)) (hb : Below w.heap.size w w') (hg : g < w'.heap.size) (h0 : w'.cell? ⟨g, 0, none⟩ = some u) (h1 : w'.cell? ⟨g, 1, none⟩ = some v) (hp : Place P w' u p) (hq : Place P w' v q) :
    PlRes P o w (.returned (.tuple #[.slice (some ⟨g, 0, none⟩) 2 c, .bool many, .bool true])) w' := by
  subst ho
  refine ⟨hb, _, _, rfl, fun j hj => ⟨⟨g, 0, none⟩, ?_⟩⟩
  have h3 : j = 0 ∨ j = 1 := by simp at hj; omega
  rcases h3 with rfl | rfl
  · exact ⟨u, rfl, hg, by rw [add_row]; exact h0, hp⟩
  · exact ⟨v, rfl, hg, by rw [add_row]; exact h1, hq⟩
theorem plRes3 (ho : o = some ([p, q, r], many)) (hb : Below w.heap.size w w') (hg : g < w'.heap.size) (h0 : w'.cell? ⟨g, 0, none⟩ = some u) (h1 : w'.cell? ⟨g, 1, none⟩ = some v) (h2 : w'.cell? ⟨g, 2, none⟩ = some x) (hp : Place P w' u p) (hq : Place P w' v q) (hr : Place P w' x r) :
    PlRes P o w (.returned (.tuple #[.slice (some ⟨g, 0, none⟩) 3 c, .bool many, .bool true])) w' := by
  subst ho
  refine ⟨hb, _, _, rfl, fun j hj => ⟨⟨g, 0, none⟩, ?_⟩⟩
  have h3 : j = 0 ∨ j = 1 ∨ j = 2 := by simp at hj; omega
  rcases h3 with rfl | rfl | rfl
  · exact ⟨u, rfl, hg, by rw [add_row]; exact h0, hp⟩
  · exact ⟨v, rfl, hg, by rw [add_row]; exact h1, hq⟩
  · exact ⟨x, rfl, hg, by rw [add_row]; exact h2, hr⟩
theorem plRes4 (ho : o = some ([p, q, r, s], many)) (hb : Below w.heap.size w w') (hg : g < w'.heap.size) (h0 : w'.cell? ⟨g, 0, none⟩ = some u) (h1 : w'.cell? ⟨g, 1, none⟩ = some v) (h2 : w'.cell? ⟨g, 2, none⟩ = some x) (h3 : w'.cell? ⟨g, 3, none⟩ = some y) (hp : Place P w' u p) (hq : Place P w' v q) (hr : Place P w' x r) (hs : Place P w' y s) :
    PlRes P o w (.returned (.tuple #[.slice (some ⟨g, 0, none⟩) 4 c, .bool many, .bool true])) w' := by
  subst ho
  refine ⟨hb, _, _, rfl, fun j hj => ⟨⟨g, 0, none⟩, ?_⟩⟩
  have h3 : j = 0 ∨ j = 1 ∨ j = 2 ∨ j = 3 := by simp at hj; omega
  rcases h3 with rfl | rfl | rfl | rfl
  · exact ⟨u, rfl, hg, by rw [add_row]; exact h0, hp⟩
  · exact ⟨v, rfl, hg, by rw [add_row]; exact h1, hq⟩
  · exact ⟨x, rfl, hg, by rw [add_row]; exact h2, hr⟩
  · exact ⟨y, rfl, hg, by rw [add_row]; assumption, hs⟩
end
theorem of_one (w : World) (k : Int) :
    Calls Tryd.prog 38 #[.slice (some ⟨w.heap.size, 0, none⟩) 1 1] (w.alloc (.cells #[.int .i64 k] 3)) fun e w' => (∃ v, e = .returned v ∧ Place Tryd.prog w' v (ofP [k])) ∧ Below w.heap.size w w' :=
  (of_any [k] _ 1 _ (by simp) (rd_lit w [k] #[.int .i64 k] 3 rfl)).mono fun _ _ ⟨h1, h2⟩ => ⟨h1, ((Below.refl _ _).alloc (Nat.le_refl _) _).trans (h2.mono (by simp))⟩
theorem of_two (w : World) (k m : Int) :
    Calls Tryd.prog 38 #[.slice (some ⟨w.heap.size, 0, none⟩) 2 2] (w.alloc (.cells #[.int .i64 k, .int .i64 m] 3)) fun e w' => (∃ v, e = .returned v ∧ Place Tryd.prog w' v (ofP [k, m])) ∧ Below w.heap.size w w' :=
  (of_any [k, m] _ 2 _ (by simp) (rd_lit w [k, m] #[.int .i64 k, .int .i64 m] 3 rfl)).mono fun _ _ ⟨h1, h2⟩ => ⟨h1, ((Below.refl _ _).alloc (Nat.le_refl _) _).trans (h2.mono (by simp))⟩
theorem these_any (A : Option Addr) (n c : Nat) (w : World) : Calls Tryd.prog 43 #[.slice A n c] w fun e w' => e = .returned (.tuple #[.slice A n c, .bool false, .bool true]) ∧ w = w' := by
  go_enter Tryd.func43, Tryd.ntmps43
  go_wp2
  go_ret3
  exact ⟨rfl, rfl⟩
theorem all_any (F : FuncId) (caps : Array Value) (w : World) : Calls Tryd.prog 42 #[.func (.func F) #[] caps] w fun e w' => e = .returned (.tuple #[.slice (some ⟨w.heap.size, 0, none⟩) 1 1, .bool true, .bool true]) ∧ w' = w.alloc (.cells #[.func (.func F) #[] caps] 59) := by
  go_enter Tryd.func42, Tryd.ntmps42
  go_wp2
  go_ret3
  exact ⟨rfl, rfl⟩
/-- The table's second half. -/
def tab2 (k : Int) : Option (List Plc × Bool) :=
  if k = 47 then some ([ofP [48]], true)
  else if k = 48 ∨ k = 57 then some ([orP exprP (ofP [1])], false)
  else if k = 49 then some ([orP stmtP (ofP [50])], true)
  else if k = 50 then some ([expP], false)
  else if k = 51 then some ([rowsP (ofP [67]), rowsP (ofP [80]), ofP [84]], false)
  else if k = 52 then some ([rowsP (ofP [67]), typeP], false)
  else if k = 53 then some ([exprP, ofP [63], orP (ofP [63, 53]) (ofP [1])], false)
  else if k = 54 ∨ k = 56 then some ([exprP, ofP [63]], false)
  else if k = 55 then some ([orP letP (ofP [1]), orP exprP (ofP [1]), orP exprP (ofP [1]), ofP [63]], false)
  else if k = 61 then some ([ofP [63], orP (ofP [62]) (ofP [1]), orP (ofP [63]) (ofP [1])], false)
  else if k = 62 then some ([ofP [63]], false)
  else if k = 66 then some ([orP typeP (ofP [1])], false)
  else if k = 83 ∨ k = 85 then some ([typeP], false)
  else if k = 84 then some ([ofP [85]], true)
  else if k = 86 then some ([rowsP plainP, typeP], false)
  else none
set_option maxRecDepth 100000 in
set_option maxHeartbeats 40000000 in
theorem more_any (k : Int) (w : World) : Calls Tryd.prog 49 #[.int .i64 k, .func (.func 43) #[] #[], .func (.func 42) #[] #[]] w (PlRes Tryd.prog (tab2 k) w) := by
  go_enter Tryd.func49, Tryd.ntmps49
  go_upto_region 3 with (first
    | (go_at_call 38; (with_reducible refine (of_one _ 1).mono ?_); rintro e w1 ⟨⟨v1, rfl, h1⟩, b1⟩; have B1 := b1)
    | (go_at_call 38; (with_reducible refine (of_one _ 63).mono ?_); rintro e w2 ⟨⟨v2, rfl, h2⟩, b2⟩; replace h1 := Place.later h1 b2; have B2 := B1.trans (b2.mono B1.size))
    | (go_at_call 41; (with_reducible refine (or_any _ _ _ _ _ (pl_isExpr _) h1).mono ?_); rintro e w3 ⟨⟨v3, rfl, h3⟩, b3⟩; replace h1 := Place.later h1 b3; replace h2 := Place.later h2 b3; have B3 := B2.trans (b3.mono B2.size))
    | fail)
  go_cut [9, 10, 11, 18] from 19 (fun v5 v6 v13 v18 wr => Place Tryd.prog wr v5 (ofP [1]) ∧ Place Tryd.prog wr v6 (ofP [63]) ∧ Place Tryd.prog wr v13 (orP exprP (ofP [1])) ∧ v18 = .int .i64 k ∧ Below w.heap.size w wr)
  case first =>
    go_wp2
    go_meet
    exact ⟨h1, h2, h3, rfl, B3⟩
  case rest =>
    obtain ⟨h5, h6, h13, rfl, hb⟩ := hcut
    clear h1 h2 h3 B1 B2 B3 b1 b2 b3
    have p5 := Lib.hid h5
    have p6 := Lib.hid h6
    have p13 := Lib.hid h13
    obtain ⟨F5, c5, rfl, _⟩ := h5
    obtain ⟨F6, c6, rfl, _⟩ := h6
    obtain ⟨F13, c13, rfl, _⟩ := h13
    have BX0 := hb
    by_cases k47 : k = 47
    · subst k47
      have BX := BX0
      have BZ := Below.size BX0
      have QX := Below.refl wc.heap.size wc
      go_wp2_with (first
        | (go_at_call 38; (with_reducible refine (of_one _ 48).mono ?_); rintro e we1 ⟨⟨ve1, rfl, he1⟩, be1⟩; have Be1 := BX.trans (be1.mono BX.size); clear BX; have BX := Be1; have Qe1 := QX.trans (be1.mono QX.size); clear QX; have QX := Qe1; have ye1 := Below.size Qe1; have xe1 := Below.size Be1; have ze1 := Below.size be1; have pe1 := Lib.hid he1; obtain ⟨Fe1, ce1, rfl, _⟩ := he1)
        | (go_at_call 43; (with_reducible refine (these_any _ _ _ _).mono ?_); rintro e wt ⟨rfl, rfl⟩)
        | (go_at_call 42; (with_reducible refine (all_any _ _ _).mono ?_); rintro e wt ⟨rfl, rfl⟩)
        | fail)
      go_ret3
      exact plRes1 (by rfl) (by (exact bl)) (by simp) (by simp [World.cell?_alloc_mark]) (Place.later pe1.out (by (exact bl)))
    · have k47' : (k == 47) = false := by simpa using k47
      by_cases k48 : k = 48
      · subst k48
        have BX := BX0
        have BZ := Below.size BX0
        have QX := Below.refl wc.heap.size wc
        go_wp2_with (first
          | (go_at_call 43; (with_reducible refine (these_any _ _ _ _).mono ?_); rintro e wt ⟨rfl, rfl⟩)
          | (go_at_call 42; (with_reducible refine (all_any _ _ _).mono ?_); rintro e wt ⟨rfl, rfl⟩)
          | fail)
        go_ret3
        exact plRes1 (by rfl) (by (exact bl)) (by simp) (by simp [World.cell?_alloc_mark]) (Place.later p13.out (by (exact bl)))
      · have k48' : (k == 48) = false := by simpa using k48
        by_cases k57 : k = 57
        · subst k57
          have BX := BX0
          have BZ := Below.size BX0
          have QX := Below.refl wc.heap.size wc
          go_wp2_with (first
            | (go_at_call 43; (with_reducible refine (these_any _ _ _ _).mono ?_); rintro e wt ⟨rfl, rfl⟩)
            | (go_at_call 42; (with_reducible refine (all_any _ _ _).mono ?_); rintro e wt ⟨rfl, rfl⟩)
            | fail)
          go_ret3
          exact plRes1 (by rfl) (by (exact bl)) (by simp) (by simp [World.cell?_alloc_mark]) (Place.later p13.out (by (exact bl)))
        · have k57' : (k == 57) = false := by simpa using k57
          by_cases k49 : k = 49
          · subst k49
            have BX := BX0
            have BZ := Below.size BX0
            have QX := Below.refl wc.heap.size wc
            go_wp2_with (first
              | (go_at_call 38; (with_reducible refine (of_one _ 50).mono ?_); rintro e we1 ⟨⟨ve1, rfl, he1⟩, be1⟩; have Be1 := BX.trans (be1.mono BX.size); clear BX; have BX := Be1; have Qe1 := QX.trans (be1.mono QX.size); clear QX; have QX := Qe1; have ye1 := Below.size Qe1; have xe1 := Below.size Be1; have ze1 := Below.size be1; have pe1 := Lib.hid he1; obtain ⟨Fe1, ce1, rfl, _⟩ := he1)
              | (go_at_call 41; (with_reducible refine (or_any _ _ _ _ _ (pl_isStmt _) pe1.out).mono ?_); rintro e we2 ⟨⟨ve2, rfl, he2⟩, be2⟩; have Be2 := BX.trans (be2.mono BX.size); clear BX; have BX := Be2; have Qe2 := QX.trans (be2.mono QX.size); clear QX; have QX := Qe2; have ye2 := Below.size Qe2; have xe2 := Below.size Be2; have ze2 := Below.size be2; have pe2 := Lib.hid he2; obtain ⟨Fe2, ce2, rfl, _⟩ := he2)
              | (go_at_call 43; (with_reducible refine (these_any _ _ _ _).mono ?_); rintro e wt ⟨rfl, rfl⟩)
              | (go_at_call 42; (with_reducible refine (all_any _ _ _).mono ?_); rintro e wt ⟨rfl, rfl⟩)
              | fail)
            go_ret3
            exact plRes1 (by rfl) (by (exact bl)) (by simp) (by simp [World.cell?_alloc_mark]) (Place.later pe2.out (by (exact bl)))
          · have k49' : (k == 49) = false := by simpa using k49
            by_cases k50 : k = 50
            · subst k50
              have BX := BX0
              have BZ := Below.size BX0
              have QX := Below.refl wc.heap.size wc
              go_wp2_with (first
                | (go_at_call 43; (with_reducible refine (these_any _ _ _ _).mono ?_); rintro e wt ⟨rfl, rfl⟩)
                | (go_at_call 42; (with_reducible refine (all_any _ _ _).mono ?_); rintro e wt ⟨rfl, rfl⟩)
                | fail)
              go_ret3
              exact plRes1 (by rfl) (by (exact bl)) (by simp) (by simp [World.cell?_alloc_mark]) (pl_isExported _)
            · have k50' : (k == 50) = false := by simpa using k50
              by_cases k51 : k = 51
              · subst k51
                have BX := BX0
                have BZ := Below.size BX0
                have QX := Below.refl wc.heap.size wc
                go_wp2_with (first
                  | (go_at_call 38; (with_reducible refine (of_one _ 67).mono ?_); rintro e we1 ⟨⟨ve1, rfl, he1⟩, be1⟩; have Be1 := BX.trans (be1.mono BX.size); clear BX; have BX := Be1; have Qe1 := QX.trans (be1.mono QX.size); clear QX; have QX := Qe1; have ye1 := Below.size Qe1; have xe1 := Below.size Be1; have ze1 := Below.size be1; have pe1 := Lib.hid he1; obtain ⟨Fe1, ce1, rfl, _⟩ := he1)
                  | (go_at_call 39; (with_reducible refine (rows_any _ _ _ pe1.out).mono ?_); rintro e we2 ⟨⟨ve2, rfl, he2⟩, be2⟩; have Be2 := BX.trans (be2.mono BX.size); clear BX; have BX := Be2; have Qe2 := QX.trans (be2.mono QX.size); clear QX; have QX := Qe2; have ye2 := Below.size Qe2; have xe2 := Below.size Be2; have ze2 := Below.size be2; have pe2 := Lib.hid he2; obtain ⟨Fe2, ce2, rfl, _⟩ := he2)
                  | (go_at_call 38; (with_reducible refine (of_one _ 80).mono ?_); rintro e we3 ⟨⟨ve3, rfl, he3⟩, be3⟩; have Be3 := BX.trans (be3.mono BX.size); clear BX; have BX := Be3; have Qe3 := QX.trans (be3.mono QX.size); clear QX; have QX := Qe3; have ye3 := Below.size Qe3; have xe3 := Below.size Be3; have ze3 := Below.size be3; have pe3 := Lib.hid he3; obtain ⟨Fe3, ce3, rfl, _⟩ := he3)
                  | (go_at_call 39; (with_reducible refine (rows_any _ _ _ pe3.out).mono ?_); rintro e we4 ⟨⟨ve4, rfl, he4⟩, be4⟩; have Be4 := BX.trans (be4.mono BX.size); clear BX; have BX := Be4; have Qe4 := QX.trans (be4.mono QX.size); clear QX; have QX := Qe4; have ye4 := Below.size Qe4; have xe4 := Below.size Be4; have ze4 := Below.size be4; have pe4 := Lib.hid he4; obtain ⟨Fe4, ce4, rfl, _⟩ := he4)
                  | (go_at_call 38; (with_reducible refine (of_one _ 84).mono ?_); rintro e we5 ⟨⟨ve5, rfl, he5⟩, be5⟩; have Be5 := BX.trans (be5.mono BX.size); clear BX; have BX := Be5; have Qe5 := QX.trans (be5.mono QX.size); clear QX; have QX := Qe5; have ye5 := Below.size Qe5; have xe5 := Below.size Be5; have ze5 := Below.size be5; have pe5 := Lib.hid he5; obtain ⟨Fe5, ce5, rfl, _⟩ := he5)
                  | (go_at_call 43; (with_reducible refine (these_any _ _ _ _).mono ?_); rintro e wt ⟨rfl, rfl⟩)
                  | (go_at_call 42; (with_reducible refine (all_any _ _ _).mono ?_); rintro e wt ⟨rfl, rfl⟩)
                  | fail)
                go_ret3
                exact plRes3 (by rfl) (by (exact bl)) (by simp) (by simp [World.cell?_alloc_mark]) (by simp [World.cell?_alloc_mark]) (by simp [World.cell?_alloc_mark]) (Place.later (Place.later (Place.later (Place.later pe2.out be3) be4) be5) (by (exact bl))) (Place.later (Place.later pe4.out be5) (by (exact bl))) (Place.later pe5.out (by (exact bl)))
              · have k51' : (k == 51) = false := by simpa using k51
                by_cases k52 : k = 52
                · subst k52
                  have BX := BX0
                  have BZ := Below.size BX0
                  have QX := Below.refl wc.heap.size wc
                  go_wp2_with (first
                    | (go_at_call 38; (with_reducible refine (of_one _ 67).mono ?_); rintro e we1 ⟨⟨ve1, rfl, he1⟩, be1⟩; have Be1 := BX.trans (be1.mono BX.size); clear BX; have BX := Be1; have Qe1 := QX.trans (be1.mono QX.size); clear QX; have QX := Qe1; have ye1 := Below.size Qe1; have xe1 := Below.size Be1; have ze1 := Below.size be1; have pe1 := Lib.hid he1; obtain ⟨Fe1, ce1, rfl, _⟩ := he1)
                    | (go_at_call 39; (with_reducible refine (rows_any _ _ _ pe1.out).mono ?_); rintro e we2 ⟨⟨ve2, rfl, he2⟩, be2⟩; have Be2 := BX.trans (be2.mono BX.size); clear BX; have BX := Be2; have Qe2 := QX.trans (be2.mono QX.size); clear QX; have QX := Qe2; have ye2 := Below.size Qe2; have xe2 := Below.size Be2; have ze2 := Below.size be2; have pe2 := Lib.hid he2; obtain ⟨Fe2, ce2, rfl, _⟩ := he2)
                    | (go_at_call 43; (with_reducible refine (these_any _ _ _ _).mono ?_); rintro e wt ⟨rfl, rfl⟩)
                    | (go_at_call 42; (with_reducible refine (all_any _ _ _).mono ?_); rintro e wt ⟨rfl, rfl⟩)
                    | fail)
                  go_ret3
                  exact plRes2 (by rfl) (by (exact bl)) (by simp) (by simp [World.cell?_alloc_mark]) (by simp [World.cell?_alloc_mark]) (Place.later pe2.out (by (exact bl))) (pl_isType _)
                · have k52' : (k == 52) = false := by simpa using k52
                  by_cases k53 : k = 53
                  · subst k53
                    have BX := BX0
                    have BZ := Below.size BX0
                    have QX := Below.refl wc.heap.size wc
                    go_wp2_with (first
                      | (go_at_call 38; (with_reducible refine (of_two _ 63 53).mono ?_); rintro e we1 ⟨⟨ve1, rfl, he1⟩, be1⟩; have Be1 := BX.trans (be1.mono BX.size); clear BX; have BX := Be1; have Qe1 := QX.trans (be1.mono QX.size); clear QX; have QX := Qe1; have ye1 := Below.size Qe1; have xe1 := Below.size Be1; have ze1 := Below.size be1; have pe1 := Lib.hid he1; obtain ⟨Fe1, ce1, rfl, _⟩ := he1)
                      | (go_at_call 41; (with_reducible refine (or_any _ _ _ _ _ pe1.out (Place.later p5.out be1)).mono ?_); rintro e we2 ⟨⟨ve2, rfl, he2⟩, be2⟩; have Be2 := BX.trans (be2.mono BX.size); clear BX; have BX := Be2; have Qe2 := QX.trans (be2.mono QX.size); clear QX; have QX := Qe2; have ye2 := Below.size Qe2; have xe2 := Below.size Be2; have ze2 := Below.size be2; have pe2 := Lib.hid he2; obtain ⟨Fe2, ce2, rfl, _⟩ := he2)
                      | (go_at_call 43; (with_reducible refine (these_any _ _ _ _).mono ?_); rintro e wt ⟨rfl, rfl⟩)
                      | (go_at_call 42; (with_reducible refine (all_any _ _ _).mono ?_); rintro e wt ⟨rfl, rfl⟩)
                      | fail)
                    go_ret3
                    exact plRes3 (by rfl) (by (exact bl)) (by simp) (by simp [World.cell?_alloc_mark]) (by simp [World.cell?_alloc_mark]) (by simp [World.cell?_alloc_mark]) (pl_isExpr _) (Place.later p6.out (by (exact bl))) (Place.later pe2.out (by (exact bl)))
                  · have k53' : (k == 53) = false := by simpa using k53
                    by_cases k54 : k = 54
                    · subst k54
                      have BX := BX0
                      have BZ := Below.size BX0
                      have QX := Below.refl wc.heap.size wc
                      go_wp2_with (first
                        | (go_at_call 43; (with_reducible refine (these_any _ _ _ _).mono ?_); rintro e wt ⟨rfl, rfl⟩)
                        | (go_at_call 42; (with_reducible refine (all_any _ _ _).mono ?_); rintro e wt ⟨rfl, rfl⟩)
                        | fail)
                      go_ret3
                      exact plRes2 (by rfl) (by (exact bl)) (by simp) (by simp [World.cell?_alloc_mark]) (by simp [World.cell?_alloc_mark]) (pl_isExpr _) (Place.later p6.out (by (exact bl)))
                    · have k54' : (k == 54) = false := by simpa using k54
                      by_cases k56 : k = 56
                      · subst k56
                        have BX := BX0
                        have BZ := Below.size BX0
                        have QX := Below.refl wc.heap.size wc
                        go_wp2_with (first
                          | (go_at_call 43; (with_reducible refine (these_any _ _ _ _).mono ?_); rintro e wt ⟨rfl, rfl⟩)
                          | (go_at_call 42; (with_reducible refine (all_any _ _ _).mono ?_); rintro e wt ⟨rfl, rfl⟩)
                          | fail)
                        go_ret3
                        exact plRes2 (by rfl) (by (exact bl)) (by simp) (by simp [World.cell?_alloc_mark]) (by simp [World.cell?_alloc_mark]) (pl_isExpr _) (Place.later p6.out (by (exact bl)))
                      · have k56' : (k == 56) = false := by simpa using k56
                        by_cases k55 : k = 55
                        · subst k55
                          have BX := BX0
                          have BZ := Below.size BX0
                          have QX := Below.refl wc.heap.size wc
                          go_wp2_with (first
                            | (go_at_call 41; (with_reducible refine (or_any _ _ _ _ _ (pl_isLet _) p5.out).mono ?_); rintro e we1 ⟨⟨ve1, rfl, he1⟩, be1⟩; have Be1 := BX.trans (be1.mono BX.size); clear BX; have BX := Be1; have Qe1 := QX.trans (be1.mono QX.size); clear QX; have QX := Qe1; have ye1 := Below.size Qe1; have xe1 := Below.size Be1; have ze1 := Below.size be1; have pe1 := Lib.hid he1; obtain ⟨Fe1, ce1, rfl, _⟩ := he1)
                            | (go_at_call 43; (with_reducible refine (these_any _ _ _ _).mono ?_); rintro e wt ⟨rfl, rfl⟩)
                            | (go_at_call 42; (with_reducible refine (all_any _ _ _).mono ?_); rintro e wt ⟨rfl, rfl⟩)
                            | fail)
                          go_ret3
                          exact plRes4 (by rfl) (by (exact bl)) (by simp) (by simp [World.cell?_alloc_mark]) (by simp [World.cell?_alloc_mark]) (by simp [World.cell?_alloc_mark]) (by simp [World.cell?_alloc_mark]) (Place.later pe1.out (by (exact bl))) (Place.later p13.out (by (exact bl))) (Place.later p13.out (by (exact bl))) (Place.later p6.out (by (exact bl)))
                        · have k55' : (k == 55) = false := by simpa using k55
                          by_cases k61 : k = 61
                          · subst k61
                            have BX := BX0
                            have BZ := Below.size BX0
                            have QX := Below.refl wc.heap.size wc
                            go_wp2_with (first
                              | (go_at_call 38; (with_reducible refine (of_one _ 62).mono ?_); rintro e we1 ⟨⟨ve1, rfl, he1⟩, be1⟩; have Be1 := BX.trans (be1.mono BX.size); clear BX; have BX := Be1; have Qe1 := QX.trans (be1.mono QX.size); clear QX; have QX := Qe1; have ye1 := Below.size Qe1; have xe1 := Below.size Be1; have ze1 := Below.size be1; have pe1 := Lib.hid he1; obtain ⟨Fe1, ce1, rfl, _⟩ := he1)
                              | (go_at_call 41; (with_reducible refine (or_any _ _ _ _ _ pe1.out (Place.later p5.out be1)).mono ?_); rintro e we2 ⟨⟨ve2, rfl, he2⟩, be2⟩; have Be2 := BX.trans (be2.mono BX.size); clear BX; have BX := Be2; have Qe2 := QX.trans (be2.mono QX.size); clear QX; have QX := Qe2; have ye2 := Below.size Qe2; have xe2 := Below.size Be2; have ze2 := Below.size be2; have pe2 := Lib.hid he2; obtain ⟨Fe2, ce2, rfl, _⟩ := he2)
                              | (go_at_call 41; (with_reducible refine (or_any _ _ _ _ _ (Place.later (Place.later p6.out be1) be2) (Place.later (Place.later p5.out be1) be2)).mono ?_); rintro e we3 ⟨⟨ve3, rfl, he3⟩, be3⟩; have Be3 := BX.trans (be3.mono BX.size); clear BX; have BX := Be3; have Qe3 := QX.trans (be3.mono QX.size); clear QX; have QX := Qe3; have ye3 := Below.size Qe3; have xe3 := Below.size Be3; have ze3 := Below.size be3; have pe3 := Lib.hid he3; obtain ⟨Fe3, ce3, rfl, _⟩ := he3)
                              | (go_at_call 43; (with_reducible refine (these_any _ _ _ _).mono ?_); rintro e wt ⟨rfl, rfl⟩)
                              | (go_at_call 42; (with_reducible refine (all_any _ _ _).mono ?_); rintro e wt ⟨rfl, rfl⟩)
                              | fail)
                            go_ret3
                            exact plRes3 (by rfl) (by (exact bl)) (by simp) (by simp [World.cell?_alloc_mark]) (by simp [World.cell?_alloc_mark]) (by simp [World.cell?_alloc_mark]) (Place.later p6.out (by (exact bl))) (Place.later (Place.later pe2.out be3) (by (exact bl))) (Place.later pe3.out (by (exact bl)))
                          · have k61' : (k == 61) = false := by simpa using k61
                            by_cases k62 : k = 62
                            · subst k62
                              have BX := BX0
                              have BZ := Below.size BX0
                              have QX := Below.refl wc.heap.size wc
                              go_wp2_with (first
                                | (go_at_call 43; (with_reducible refine (these_any _ _ _ _).mono ?_); rintro e wt ⟨rfl, rfl⟩)
                                | (go_at_call 42; (with_reducible refine (all_any _ _ _).mono ?_); rintro e wt ⟨rfl, rfl⟩)
                                | fail)
                              go_ret3
                              exact plRes1 (by rfl) (by (exact bl)) (by simp) (by simp [World.cell?_alloc_mark]) (Place.later p6.out (by (exact bl)))
                            · have k62' : (k == 62) = false := by simpa using k62
                              by_cases k66 : k = 66
                              · subst k66
                                have BX := BX0
                                have BZ := Below.size BX0
                                have QX := Below.refl wc.heap.size wc
                                go_wp2_with (first
                                  | (go_at_call 41; (with_reducible refine (or_any _ _ _ _ _ (pl_isType _) p5.out).mono ?_); rintro e we1 ⟨⟨ve1, rfl, he1⟩, be1⟩; have Be1 := BX.trans (be1.mono BX.size); clear BX; have BX := Be1; have Qe1 := QX.trans (be1.mono QX.size); clear QX; have QX := Qe1; have ye1 := Below.size Qe1; have xe1 := Below.size Be1; have ze1 := Below.size be1; have pe1 := Lib.hid he1; obtain ⟨Fe1, ce1, rfl, _⟩ := he1)
                                  | (go_at_call 43; (with_reducible refine (these_any _ _ _ _).mono ?_); rintro e wt ⟨rfl, rfl⟩)
                                  | (go_at_call 42; (with_reducible refine (all_any _ _ _).mono ?_); rintro e wt ⟨rfl, rfl⟩)
                                  | fail)
                                go_ret3
                                exact plRes1 (by rfl) (by (exact bl)) (by simp) (by simp [World.cell?_alloc_mark]) (Place.later pe1.out (by (exact bl)))
                              · have k66' : (k == 66) = false := by simpa using k66
                                by_cases k83 : k = 83
                                · subst k83
                                  have BX := BX0
                                  have BZ := Below.size BX0
                                  have QX := Below.refl wc.heap.size wc
                                  go_wp2_with (first
                                    | (go_at_call 43; (with_reducible refine (these_any _ _ _ _).mono ?_); rintro e wt ⟨rfl, rfl⟩)
                                    | (go_at_call 42; (with_reducible refine (all_any _ _ _).mono ?_); rintro e wt ⟨rfl, rfl⟩)
                                    | fail)
                                  go_ret3
                                  exact plRes1 (by rfl) (by (exact bl)) (by simp) (by simp [World.cell?_alloc_mark]) (pl_isType _)
                                · have k83' : (k == 83) = false := by simpa using k83
                                  by_cases k85 : k = 85
                                  · subst k85
                                    have BX := BX0
                                    have BZ := Below.size BX0
                                    have QX := Below.refl wc.heap.size wc
                                    go_wp2_with (first
                                      | (go_at_call 43; (with_reducible refine (these_any _ _ _ _).mono ?_); rintro e wt ⟨rfl, rfl⟩)
                                      | (go_at_call 42; (with_reducible refine (all_any _ _ _).mono ?_); rintro e wt ⟨rfl, rfl⟩)
                                      | fail)
                                    go_ret3
                                    exact plRes1 (by rfl) (by (exact bl)) (by simp) (by simp [World.cell?_alloc_mark]) (pl_isType _)
                                  · have k85' : (k == 85) = false := by simpa using k85
                                    by_cases k84 : k = 84
                                    · subst k84
                                      have BX := BX0
                                      have BZ := Below.size BX0
                                      have QX := Below.refl wc.heap.size wc
                                      go_wp2_with (first
                                        | (go_at_call 38; (with_reducible refine (of_one _ 85).mono ?_); rintro e we1 ⟨⟨ve1, rfl, he1⟩, be1⟩; have Be1 := BX.trans (be1.mono BX.size); clear BX; have BX := Be1; have Qe1 := QX.trans (be1.mono QX.size); clear QX; have QX := Qe1; have ye1 := Below.size Qe1; have xe1 := Below.size Be1; have ze1 := Below.size be1; have pe1 := Lib.hid he1; obtain ⟨Fe1, ce1, rfl, _⟩ := he1)
                                        | (go_at_call 43; (with_reducible refine (these_any _ _ _ _).mono ?_); rintro e wt ⟨rfl, rfl⟩)
                                        | (go_at_call 42; (with_reducible refine (all_any _ _ _).mono ?_); rintro e wt ⟨rfl, rfl⟩)
                                        | fail)
                                      go_ret3
                                      exact plRes1 (by rfl) (by (exact bl)) (by simp) (by simp [World.cell?_alloc_mark]) (Place.later pe1.out (by (exact bl)))
                                    · have k84' : (k == 84) = false := by simpa using k84
                                      by_cases k86 : k = 86
                                      · subst k86
                                        have BX := BX0
                                        have BZ := Below.size BX0
                                        have QX := Below.refl wc.heap.size wc
                                        go_wp2_with (first
                                          | (go_at_call 39; (with_reducible refine (rows_any _ _ _ (pl_isPlain _)).mono ?_); rintro e we1 ⟨⟨ve1, rfl, he1⟩, be1⟩; have Be1 := BX.trans (be1.mono BX.size); clear BX; have BX := Be1; have Qe1 := QX.trans (be1.mono QX.size); clear QX; have QX := Qe1; have ye1 := Below.size Qe1; have xe1 := Below.size Be1; have ze1 := Below.size be1; have pe1 := Lib.hid he1; obtain ⟨Fe1, ce1, rfl, _⟩ := he1)
                                          | (go_at_call 43; (with_reducible refine (these_any _ _ _ _).mono ?_); rintro e wt ⟨rfl, rfl⟩)
                                          | (go_at_call 42; (with_reducible refine (all_any _ _ _).mono ?_); rintro e wt ⟨rfl, rfl⟩)
                                          | fail)
                                        go_ret3
                                        exact plRes2 (by rfl) (by (exact bl)) (by simp) (by simp [World.cell?_alloc_mark]) (by simp [World.cell?_alloc_mark]) (Place.later pe1.out (by (exact bl))) (pl_isType _)
                                      · have k86' : (k == 86) = false := by simpa using k86
                                        have BZ := Below.size BX0
                                        go_wp2
                                        go_ret3
                                        exact plResN (by simp only [tab2, k47, k48, k57, k49, k50, k51, k52, k53, k54, k56, k55, k61, k62, k66, k83, k85, k84, k86, or_self, if_false]) (by (exact bl))
end Go.Proofs.YtpkdhciokiomlaaDoor
