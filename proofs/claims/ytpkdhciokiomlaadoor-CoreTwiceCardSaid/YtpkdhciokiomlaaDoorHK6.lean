/- The walk of the program's table, its first half. -/
import Derived.Test.YtpkdhciokiomlaaDoorHK5
namespace Go.Proofs.YtpkdhciokiomlaaDoor
set_option linter.unusedVariables false
set_option linter.unusedSimpArgs false
set_option linter.unnecessarySimpa false
open Go.RowKit
attribute [local go_sem] cell_alloc_add cell_set_add lt_more
theorem PlRes.from_ {P : Program} {o : Option (List Plc × Bool)} {w wc w' : World} {e : Ending} (h : PlRes P o wc e w') (hb : Below w.heap.size w wc) : PlRes P o w e w' := ⟨hb.trans (h.1.mono hb.size), h.2⟩
theorem PlRes.parts {P : Program} {o : Option (List Plc × Bool)} {w w' : World} {e : Ending} (h : PlRes P o w e w') : ∃ A n c x y, e = .returned (.tuple #[.slice A n c, .bool x, .bool y]) ∧ PlRes P o w e w' := by
  obtain ⟨hb, h2⟩ := h
  match o, h2 with
  | none, h2 => exact ⟨_, _, _, _, _, h2, hb, h2⟩
  | some (ps, many), h2 =>
    obtain ⟨A, c, he, hp⟩ := h2
    exact ⟨_, _, _, _, _, he, hb, A, c, he, hp⟩
theorem more_parts (k : Int) (w : World) : Calls Tryd.prog 49 #[.int .i64 k, .func (.func 43) #[] #[], .func (.func 42) #[] #[]] w fun e w' => ∃ A n c x y, e = .returned (.tuple #[.slice A n c, .bool x, .bool y]) ∧ PlRes Tryd.prog (tab2 k) w e w' :=
  (more_any k w).mono fun _ _ h => h.parts
theorem tab_more (k : Int) (k1 : k ≠ 1) (k10 : k ≠ 10) (k11 : k ≠ 11) (k13 : k ≠ 13) (k14 : k ≠ 14) (k15 : k ≠ 15) (k16 : k ≠ 16) (k18 : k ≠ 18) (k17 : k ≠ 17) (k32 : k ≠ 32) (k58 : k ≠ 58) (k59 : k ≠ 59) (k65 : k ≠ 65) (k67 : k ≠ 67) (k81 : k ≠ 81) (k82 : k ≠ 82) (k2 : k ≠ 2) (k3 : k ≠ 3) (k63 : k ≠ 63) (k19 : k ≠ 19) (k20 : k ≠ 20) (k21 : k ≠ 21) (k23 : k ≠ 23) (k29 : k ≠ 29) (k34 : k ≠ 34) (k60 : k ≠ 60) (k64 : k ≠ 64) (k22 : k ≠ 22) (k24 : k ≠ 24) (k30 : k ≠ 30) (k25 : k ≠ 25) (k26 : k ≠ 26) (k27 : k ≠ 27) (k28 : k ≠ 28) (k31 : k ≠ 31) (k33 : k ≠ 33) (k40 : k ≠ 40) (k41 : k ≠ 41) (k45 : k ≠ 45) (k42 : k ≠ 42) (k43 : k ≠ 43) (k80 : k ≠ 80) (k44 : k ≠ 44) (k46 : k ≠ 46) : tab k = tab2 k := by
  unfold tab
  iterate 20 rw [if_neg (by omega)]
  rfl
/-- What is told of the nine places that the table lays first. -/
structure Nine (P : Program) (W : World) (v5 v6 v7 v8 v9 v10 v11 v12 v13 : Value) : Prop where
  h5 : Place P W v5 (ofP [1])
  h6 : Place P W v6 (ofP [63])
  h7 : Place P W v7 (rowsP (ofP [67]))
  h8 : Place P W v8 (rowsP plainP)
  h9 : Place P W v9 (rowsP typeP)
  h10 : Place P W v10 (rowsP (ofP [80]))
  h11 : Place P W v11 (rowsP exprP)
  h12 : Place P W v12 (orP typeP (ofP [1]))
  h13 : Place P W v13 (orP exprP (ofP [1]))
set_option maxRecDepth 100000 in
set_option maxHeartbeats 40000000 in
theorem places_any (k : Int) (w : World) : Calls Tryd.prog 32 #[.int .i64 k] w (PlRes Tryd.prog (tab k) w) := by
  go_enter Tryd.func32, Tryd.ntmps32
  go_upto_region 7 with (first
    | (go_at_call 38; (with_reducible refine (of_one _ 1).mono ?_); rintro e w1 ⟨⟨v1, rfl, h1⟩, b1⟩; have B1 := b1)
    | (go_at_call 38; (with_reducible refine (of_one _ 63).mono ?_); rintro e w2 ⟨⟨v2, rfl, h2⟩, b2⟩; replace h1 := Place.later h1 b2; have B2 := B1.trans (b2.mono B1.size))
    | (go_at_call 38; (with_reducible refine (of_one _ 67).mono ?_); rintro e w3 ⟨⟨v3, rfl, h3⟩, b3⟩; replace h1 := Place.later h1 b3; replace h2 := Place.later h2 b3; have B3 := B2.trans (b3.mono B2.size))
    | (go_at_call 39; (with_reducible refine (rows_any _ _ _ h3).mono ?_); rintro e w4 ⟨⟨v4, rfl, h4⟩, b4⟩; replace h1 := Place.later h1 b4; replace h2 := Place.later h2 b4; replace h3 := Place.later h3 b4; have B4 := B3.trans (b4.mono B3.size))
    | (go_at_call 39; (with_reducible refine (rows_any _ _ _ (pl_isPlain _)).mono ?_); rintro e w5 ⟨⟨v5, rfl, h5⟩, b5⟩; replace h1 := Place.later h1 b5; replace h2 := Place.later h2 b5; replace h4 := Place.later h4 b5; have B5 := B4.trans (b5.mono B4.size))
    | (go_at_call 39; (with_reducible refine (rows_any _ _ _ (pl_isType _)).mono ?_); rintro e w6 ⟨⟨v6, rfl, h6⟩, b6⟩; replace h1 := Place.later h1 b6; replace h2 := Place.later h2 b6; replace h4 := Place.later h4 b6; replace h5 := Place.later h5 b6; have B6 := B5.trans (b6.mono B5.size))
    | (go_at_call 38; (with_reducible refine (of_one _ 80).mono ?_); rintro e w7 ⟨⟨v7, rfl, h7⟩, b7⟩; replace h1 := Place.later h1 b7; replace h2 := Place.later h2 b7; replace h4 := Place.later h4 b7; replace h5 := Place.later h5 b7; replace h6 := Place.later h6 b7; have B7 := B6.trans (b7.mono B6.size))
    | (go_at_call 39; (with_reducible refine (rows_any _ _ _ h7).mono ?_); rintro e w8 ⟨⟨v8, rfl, h8⟩, b8⟩; replace h1 := Place.later h1 b8; replace h2 := Place.later h2 b8; replace h4 := Place.later h4 b8; replace h5 := Place.later h5 b8; replace h6 := Place.later h6 b8; replace h7 := Place.later h7 b8; have B8 := B7.trans (b8.mono B7.size))
    | (go_at_call 39; (with_reducible refine (rows_any _ _ _ (pl_isExpr _)).mono ?_); rintro e w9 ⟨⟨v9, rfl, h9⟩, b9⟩; replace h1 := Place.later h1 b9; replace h2 := Place.later h2 b9; replace h4 := Place.later h4 b9; replace h5 := Place.later h5 b9; replace h6 := Place.later h6 b9; replace h8 := Place.later h8 b9; have B9 := B8.trans (b9.mono B8.size))
    | (go_at_call 41; (with_reducible refine (or_any _ _ _ _ _ (pl_isType _) h1).mono ?_); rintro e w10 ⟨⟨v10, rfl, h10⟩, b10⟩; replace h1 := Place.later h1 b10; replace h2 := Place.later h2 b10; replace h4 := Place.later h4 b10; replace h5 := Place.later h5 b10; replace h6 := Place.later h6 b10; replace h8 := Place.later h8 b10; replace h9 := Place.later h9 b10; have B10 := B9.trans (b10.mono B9.size))
    | (go_at_call 41; (with_reducible refine (or_any _ _ _ _ _ (pl_isExpr _) h1).mono ?_); rintro e w11 ⟨⟨v11, rfl, h11⟩, b11⟩; replace h1 := Place.later h1 b11; replace h2 := Place.later h2 b11; replace h4 := Place.later h4 b11; replace h5 := Place.later h5 b11; replace h6 := Place.later h6 b11; replace h8 := Place.later h8 b11; replace h9 := Place.later h9 b11; replace h10 := Place.later h10 b11; have B11 := B10.trans (b11.mono B10.size))
    | fail)
  go_cut [5, 6, 7, 8, 9, 10, 11, 12, 13, 14, 15, 33] from 34 (fun v5 v6 v7 v8 v9 v10 v11 v12 v13 v14 v15 v33 wr => Nine Tryd.prog wr v5 v6 v7 v8 v9 v10 v11 v12 v13 ∧ v14 = .func (.func 42) #[] #[] ∧ v15 = .func (.func 43) #[] #[] ∧ v33 = .int .i64 k ∧ Below w.heap.size w wr)
  case first =>
    go_wp2
    go_meet
    exact ⟨⟨h1, h2, h4, h5, h6, h8, h9, h10, h11⟩, rfl, rfl, rfl, B11⟩
  case rest =>
    obtain ⟨H9, rfl, rfl, rfl, hb⟩ := hcut
    clear h1 h2 h4 h5 h6 h8 h9 h10 h11 B1 B2 B3 B4 B5 B6 B7 B8 B9 B10 B11 b1 b2 b3 b4 b5 b6 b7 b8 b9 b10 b11
    obtain ⟨h5, h6, h7, h8, h9, h10, h11, h12, h13⟩ := H9
    have p5 := Lib.hid h5
    have p6 := Lib.hid h6
    have p7 := Lib.hid h7
    have p8 := Lib.hid h8
    have p9 := Lib.hid h9
    have p10 := Lib.hid h10
    have p11 := Lib.hid h11
    have p12 := Lib.hid h12
    have p13 := Lib.hid h13
    obtain ⟨F5, c5, rfl, _⟩ := h5
    obtain ⟨F6, c6, rfl, _⟩ := h6
    obtain ⟨F7, c7, rfl, _⟩ := h7
    obtain ⟨F8, c8, rfl, _⟩ := h8
    obtain ⟨F9, c9, rfl, _⟩ := h9
    obtain ⟨F10, c10, rfl, _⟩ := h10
    obtain ⟨F11, c11, rfl, _⟩ := h11
    obtain ⟨F12, c12, rfl, _⟩ := h12
    obtain ⟨F13, c13, rfl, _⟩ := h13
    have BX0 := hb
    by_cases k1 : k = 1
    · subst k1
      have BX := BX0
      have BZ := Below.size BX0
      have QX := Below.refl wc.heap.size wc
      go_wp2_with (first
        | (go_at_call 43; (with_reducible refine (these_any _ _ _ _).mono ?_); rintro e wt ⟨rfl, rfl⟩)
        | (go_at_call 42; (with_reducible refine (all_any _ _ _).mono ?_); rintro e wt ⟨rfl, rfl⟩)
        | fail)
      go_ret3
      exact plRes0 (by rfl) (by (exact bl)) 
    · have k1' : (k == 1) = false := by simpa using k1
      by_cases k10 : k = 10
      · subst k10
        have BX := BX0
        have BZ := Below.size BX0
        have QX := Below.refl wc.heap.size wc
        go_wp2_with (first
          | (go_at_call 43; (with_reducible refine (these_any _ _ _ _).mono ?_); rintro e wt ⟨rfl, rfl⟩)
          | (go_at_call 42; (with_reducible refine (all_any _ _ _).mono ?_); rintro e wt ⟨rfl, rfl⟩)
          | fail)
        go_ret3
        exact plRes0 (by rfl) (by (exact bl)) 
      · have k10' : (k == 10) = false := by simpa using k10
        by_cases k11 : k = 11
        · subst k11
          have BX := BX0
          have BZ := Below.size BX0
          have QX := Below.refl wc.heap.size wc
          go_wp2_with (first
            | (go_at_call 43; (with_reducible refine (these_any _ _ _ _).mono ?_); rintro e wt ⟨rfl, rfl⟩)
            | (go_at_call 42; (with_reducible refine (all_any _ _ _).mono ?_); rintro e wt ⟨rfl, rfl⟩)
            | fail)
          go_ret3
          exact plRes0 (by rfl) (by (exact bl)) 
        · have k11' : (k == 11) = false := by simpa using k11
          by_cases k13 : k = 13
          · subst k13
            have BX := BX0
            have BZ := Below.size BX0
            have QX := Below.refl wc.heap.size wc
            go_wp2_with (first
              | (go_at_call 43; (with_reducible refine (these_any _ _ _ _).mono ?_); rintro e wt ⟨rfl, rfl⟩)
              | (go_at_call 42; (with_reducible refine (all_any _ _ _).mono ?_); rintro e wt ⟨rfl, rfl⟩)
              | fail)
            go_ret3
            exact plRes0 (by rfl) (by (exact bl)) 
          · have k13' : (k == 13) = false := by simpa using k13
            by_cases k14 : k = 14
            · subst k14
              have BX := BX0
              have BZ := Below.size BX0
              have QX := Below.refl wc.heap.size wc
              go_wp2_with (first
                | (go_at_call 43; (with_reducible refine (these_any _ _ _ _).mono ?_); rintro e wt ⟨rfl, rfl⟩)
                | (go_at_call 42; (with_reducible refine (all_any _ _ _).mono ?_); rintro e wt ⟨rfl, rfl⟩)
                | fail)
              go_ret3
              exact plRes0 (by rfl) (by (exact bl)) 
            · have k14' : (k == 14) = false := by simpa using k14
              by_cases k15 : k = 15
              · subst k15
                have BX := BX0
                have BZ := Below.size BX0
                have QX := Below.refl wc.heap.size wc
                go_wp2_with (first
                  | (go_at_call 43; (with_reducible refine (these_any _ _ _ _).mono ?_); rintro e wt ⟨rfl, rfl⟩)
                  | (go_at_call 42; (with_reducible refine (all_any _ _ _).mono ?_); rintro e wt ⟨rfl, rfl⟩)
                  | fail)
                go_ret3
                exact plRes0 (by rfl) (by (exact bl)) 
              · have k15' : (k == 15) = false := by simpa using k15
                by_cases k16 : k = 16
                · subst k16
                  have BX := BX0
                  have BZ := Below.size BX0
                  have QX := Below.refl wc.heap.size wc
                  go_wp2_with (first
                    | (go_at_call 43; (with_reducible refine (these_any _ _ _ _).mono ?_); rintro e wt ⟨rfl, rfl⟩)
                    | (go_at_call 42; (with_reducible refine (all_any _ _ _).mono ?_); rintro e wt ⟨rfl, rfl⟩)
                    | fail)
                  go_ret3
                  exact plRes0 (by rfl) (by (exact bl)) 
                · have k16' : (k == 16) = false := by simpa using k16
                  by_cases k18 : k = 18
                  · subst k18
                    have BX := BX0
                    have BZ := Below.size BX0
                    have QX := Below.refl wc.heap.size wc
                    go_wp2_with (first
                      | (go_at_call 43; (with_reducible refine (these_any _ _ _ _).mono ?_); rintro e wt ⟨rfl, rfl⟩)
                      | (go_at_call 42; (with_reducible refine (all_any _ _ _).mono ?_); rintro e wt ⟨rfl, rfl⟩)
                      | fail)
                    go_ret3
                    exact plRes0 (by rfl) (by (exact bl)) 
                  · have k18' : (k == 18) = false := by simpa using k18
                    by_cases k17 : k = 17
                    · subst k17
                      have BX := BX0
                      have BZ := Below.size BX0
                      have QX := Below.refl wc.heap.size wc
                      go_wp2_with (first
                        | (go_at_call 43; (with_reducible refine (these_any _ _ _ _).mono ?_); rintro e wt ⟨rfl, rfl⟩)
                        | (go_at_call 42; (with_reducible refine (all_any _ _ _).mono ?_); rintro e wt ⟨rfl, rfl⟩)
                        | fail)
                      go_ret3
                      exact plRes0 (by rfl) (by (exact bl)) 
                    · have k17' : (k == 17) = false := by simpa using k17
                      by_cases k32 : k = 32
                      · subst k32
                        have BX := BX0
                        have BZ := Below.size BX0
                        have QX := Below.refl wc.heap.size wc
                        go_wp2_with (first
                          | (go_at_call 43; (with_reducible refine (these_any _ _ _ _).mono ?_); rintro e wt ⟨rfl, rfl⟩)
                          | (go_at_call 42; (with_reducible refine (all_any _ _ _).mono ?_); rintro e wt ⟨rfl, rfl⟩)
                          | fail)
                        go_ret3
                        exact plRes0 (by rfl) (by (exact bl)) 
                      · have k32' : (k == 32) = false := by simpa using k32
                        by_cases k58 : k = 58
                        · subst k58
                          have BX := BX0
                          have BZ := Below.size BX0
                          have QX := Below.refl wc.heap.size wc
                          go_wp2_with (first
                            | (go_at_call 43; (with_reducible refine (these_any _ _ _ _).mono ?_); rintro e wt ⟨rfl, rfl⟩)
                            | (go_at_call 42; (with_reducible refine (all_any _ _ _).mono ?_); rintro e wt ⟨rfl, rfl⟩)
                            | fail)
                          go_ret3
                          exact plRes0 (by rfl) (by (exact bl)) 
                        · have k58' : (k == 58) = false := by simpa using k58
                          by_cases k59 : k = 59
                          · subst k59
                            have BX := BX0
                            have BZ := Below.size BX0
                            have QX := Below.refl wc.heap.size wc
                            go_wp2_with (first
                              | (go_at_call 43; (with_reducible refine (these_any _ _ _ _).mono ?_); rintro e wt ⟨rfl, rfl⟩)
                              | (go_at_call 42; (with_reducible refine (all_any _ _ _).mono ?_); rintro e wt ⟨rfl, rfl⟩)
                              | fail)
                            go_ret3
                            exact plRes0 (by rfl) (by (exact bl)) 
                          · have k59' : (k == 59) = false := by simpa using k59
                            by_cases k65 : k = 65
                            · subst k65
                              have BX := BX0
                              have BZ := Below.size BX0
                              have QX := Below.refl wc.heap.size wc
                              go_wp2_with (first
                                | (go_at_call 43; (with_reducible refine (these_any _ _ _ _).mono ?_); rintro e wt ⟨rfl, rfl⟩)
                                | (go_at_call 42; (with_reducible refine (all_any _ _ _).mono ?_); rintro e wt ⟨rfl, rfl⟩)
                                | fail)
                              go_ret3
                              exact plRes0 (by rfl) (by (exact bl)) 
                            · have k65' : (k == 65) = false := by simpa using k65
                              by_cases k67 : k = 67
                              · subst k67
                                have BX := BX0
                                have BZ := Below.size BX0
                                have QX := Below.refl wc.heap.size wc
                                go_wp2_with (first
                                  | (go_at_call 43; (with_reducible refine (these_any _ _ _ _).mono ?_); rintro e wt ⟨rfl, rfl⟩)
                                  | (go_at_call 42; (with_reducible refine (all_any _ _ _).mono ?_); rintro e wt ⟨rfl, rfl⟩)
                                  | fail)
                                go_ret3
                                exact plRes0 (by rfl) (by (exact bl)) 
                              · have k67' : (k == 67) = false := by simpa using k67
                                by_cases k81 : k = 81
                                · subst k81
                                  have BX := BX0
                                  have BZ := Below.size BX0
                                  have QX := Below.refl wc.heap.size wc
                                  go_wp2_with (first
                                    | (go_at_call 43; (with_reducible refine (these_any _ _ _ _).mono ?_); rintro e wt ⟨rfl, rfl⟩)
                                    | (go_at_call 42; (with_reducible refine (all_any _ _ _).mono ?_); rintro e wt ⟨rfl, rfl⟩)
                                    | fail)
                                  go_ret3
                                  exact plRes0 (by rfl) (by (exact bl)) 
                                · have k81' : (k == 81) = false := by simpa using k81
                                  by_cases k82 : k = 82
                                  · subst k82
                                    have BX := BX0
                                    have BZ := Below.size BX0
                                    have QX := Below.refl wc.heap.size wc
                                    go_wp2_with (first
                                      | (go_at_call 43; (with_reducible refine (these_any _ _ _ _).mono ?_); rintro e wt ⟨rfl, rfl⟩)
                                      | (go_at_call 42; (with_reducible refine (all_any _ _ _).mono ?_); rintro e wt ⟨rfl, rfl⟩)
                                      | fail)
                                    go_ret3
                                    exact plRes0 (by rfl) (by (exact bl)) 
                                  · have k82' : (k == 82) = false := by simpa using k82
                                    by_cases k2 : k = 2
                                    · subst k2
                                      have BX := BX0
                                      have BZ := Below.size BX0
                                      have QX := Below.refl wc.heap.size wc
                                      go_wp2_with (first
                                        | (go_at_call 43; (with_reducible refine (these_any _ _ _ _).mono ?_); rintro e wt ⟨rfl, rfl⟩)
                                        | (go_at_call 42; (with_reducible refine (all_any _ _ _).mono ?_); rintro e wt ⟨rfl, rfl⟩)
                                        | fail)
                                      go_ret3
                                      exact plRes1 (by rfl) (by (exact bl)) (by simp) (by simp [World.cell?_alloc_mark]) (pl_any _)
                                    · have k2' : (k == 2) = false := by simpa using k2
                                      by_cases k3 : k = 3
                                      · subst k3
                                        have BX := BX0
                                        have BZ := Below.size BX0
                                        have QX := Below.refl wc.heap.size wc
                                        go_wp2_with (first
                                          | (go_at_call 43; (with_reducible refine (these_any _ _ _ _).mono ?_); rintro e wt ⟨rfl, rfl⟩)
                                          | (go_at_call 42; (with_reducible refine (all_any _ _ _).mono ?_); rintro e wt ⟨rfl, rfl⟩)
                                          | fail)
                                        go_ret3
                                        exact plRes1 (by rfl) (by (exact bl)) (by simp) (by simp [World.cell?_alloc_mark]) (pl_isStmt _)
                                      · have k3' : (k == 3) = false := by simpa using k3
                                        by_cases k63 : k = 63
                                        · subst k63
                                          have BX := BX0
                                          have BZ := Below.size BX0
                                          have QX := Below.refl wc.heap.size wc
                                          go_wp2_with (first
                                            | (go_at_call 43; (with_reducible refine (these_any _ _ _ _).mono ?_); rintro e wt ⟨rfl, rfl⟩)
                                            | (go_at_call 42; (with_reducible refine (all_any _ _ _).mono ?_); rintro e wt ⟨rfl, rfl⟩)
                                            | fail)
                                          go_ret3
                                          exact plRes1 (by rfl) (by (exact bl)) (by simp) (by simp [World.cell?_alloc_mark]) (pl_isStmt _)
                                        · have k63' : (k == 63) = false := by simpa using k63
                                          by_cases k19 : k = 19
                                          · subst k19
                                            have BX := BX0
                                            have BZ := Below.size BX0
                                            have QX := Below.refl wc.heap.size wc
                                            go_wp2_with (first
                                              | (go_at_call 43; (with_reducible refine (these_any _ _ _ _).mono ?_); rintro e wt ⟨rfl, rfl⟩)
                                              | (go_at_call 42; (with_reducible refine (all_any _ _ _).mono ?_); rintro e wt ⟨rfl, rfl⟩)
                                              | fail)
                                            go_ret3
                                            exact plRes1 (by rfl) (by (exact bl)) (by simp) (by simp [World.cell?_alloc_mark]) (pl_isExpr _)
                                          · have k19' : (k == 19) = false := by simpa using k19
                                            by_cases k20 : k = 20
                                            · subst k20
                                              have BX := BX0
                                              have BZ := Below.size BX0
                                              have QX := Below.refl wc.heap.size wc
                                              go_wp2_with (first
                                                | (go_at_call 38; (with_reducible refine (of_one _ 21).mono ?_); rintro e we1 ⟨⟨ve1, rfl, he1⟩, be1⟩; have Be1 := BX.trans (be1.mono BX.size); clear BX; have BX := Be1; have Qe1 := QX.trans (be1.mono QX.size); clear QX; have QX := Qe1; have ye1 := Below.size Qe1; have xe1 := Below.size Be1; have ze1 := Below.size be1; have pe1 := Lib.hid he1; obtain ⟨Fe1, ce1, rfl, _⟩ := he1)
                                                | (go_at_call 43; (with_reducible refine (these_any _ _ _ _).mono ?_); rintro e wt ⟨rfl, rfl⟩)
                                                | (go_at_call 42; (with_reducible refine (all_any _ _ _).mono ?_); rintro e wt ⟨rfl, rfl⟩)
                                                | fail)
                                              go_ret3
                                              exact plRes1 (by rfl) (by (exact bl)) (by simp) (by simp [World.cell?_alloc_mark]) (Place.later pe1.out (by (exact bl)))
                                            · have k20' : (k == 20) = false := by simpa using k20
                                              by_cases k21 : k = 21
                                              · subst k21
                                                have BX := BX0
                                                have BZ := Below.size BX0
                                                have QX := Below.refl wc.heap.size wc
                                                go_wp2_with (first
                                                  | (go_at_call 43; (with_reducible refine (these_any _ _ _ _).mono ?_); rintro e wt ⟨rfl, rfl⟩)
                                                  | (go_at_call 42; (with_reducible refine (all_any _ _ _).mono ?_); rintro e wt ⟨rfl, rfl⟩)
                                                  | fail)
                                                go_ret3
                                                exact plRes1 (by rfl) (by (exact bl)) (by simp) (by simp [World.cell?_alloc_mark]) (pl_isExpr _)
                                              · have k21' : (k == 21) = false := by simpa using k21
                                                by_cases k23 : k = 23
                                                · subst k23
                                                  have BX := BX0
                                                  have BZ := Below.size BX0
                                                  have QX := Below.refl wc.heap.size wc
                                                  go_wp2_with (first
                                                    | (go_at_call 43; (with_reducible refine (these_any _ _ _ _).mono ?_); rintro e wt ⟨rfl, rfl⟩)
                                                    | (go_at_call 42; (with_reducible refine (all_any _ _ _).mono ?_); rintro e wt ⟨rfl, rfl⟩)
                                                    | fail)
                                                  go_ret3
                                                  exact plRes1 (by rfl) (by (exact bl)) (by simp) (by simp [World.cell?_alloc_mark]) (pl_isExpr _)
                                                · have k23' : (k == 23) = false := by simpa using k23
                                                  by_cases k29 : k = 29
                                                  · subst k29
                                                    have BX := BX0
                                                    have BZ := Below.size BX0
                                                    have QX := Below.refl wc.heap.size wc
                                                    go_wp2_with (first
                                                      | (go_at_call 43; (with_reducible refine (these_any _ _ _ _).mono ?_); rintro e wt ⟨rfl, rfl⟩)
                                                      | (go_at_call 42; (with_reducible refine (all_any _ _ _).mono ?_); rintro e wt ⟨rfl, rfl⟩)
                                                      | fail)
                                                    go_ret3
                                                    exact plRes1 (by rfl) (by (exact bl)) (by simp) (by simp [World.cell?_alloc_mark]) (pl_isExpr _)
                                                  · have k29' : (k == 29) = false := by simpa using k29
                                                    by_cases k34 : k = 34
                                                    · subst k34
                                                      have BX := BX0
                                                      have BZ := Below.size BX0
                                                      have QX := Below.refl wc.heap.size wc
                                                      go_wp2_with (first
                                                        | (go_at_call 43; (with_reducible refine (these_any _ _ _ _).mono ?_); rintro e wt ⟨rfl, rfl⟩)
                                                        | (go_at_call 42; (with_reducible refine (all_any _ _ _).mono ?_); rintro e wt ⟨rfl, rfl⟩)
                                                        | fail)
                                                      go_ret3
                                                      exact plRes1 (by rfl) (by (exact bl)) (by simp) (by simp [World.cell?_alloc_mark]) (pl_isExpr _)
                                                    · have k34' : (k == 34) = false := by simpa using k34
                                                      by_cases k60 : k = 60
                                                      · subst k60
                                                        have BX := BX0
                                                        have BZ := Below.size BX0
                                                        have QX := Below.refl wc.heap.size wc
                                                        go_wp2_with (first
                                                          | (go_at_call 43; (with_reducible refine (these_any _ _ _ _).mono ?_); rintro e wt ⟨rfl, rfl⟩)
                                                          | (go_at_call 42; (with_reducible refine (all_any _ _ _).mono ?_); rintro e wt ⟨rfl, rfl⟩)
                                                          | fail)
                                                        go_ret3
                                                        exact plRes1 (by rfl) (by (exact bl)) (by simp) (by simp [World.cell?_alloc_mark]) (pl_isExpr _)
                                                      · have k60' : (k == 60) = false := by simpa using k60
                                                        by_cases k64 : k = 64
                                                        · subst k64
                                                          have BX := BX0
                                                          have BZ := Below.size BX0
                                                          have QX := Below.refl wc.heap.size wc
                                                          go_wp2_with (first
                                                            | (go_at_call 43; (with_reducible refine (these_any _ _ _ _).mono ?_); rintro e wt ⟨rfl, rfl⟩)
                                                            | (go_at_call 42; (with_reducible refine (all_any _ _ _).mono ?_); rintro e wt ⟨rfl, rfl⟩)
                                                            | fail)
                                                          go_ret3
                                                          exact plRes1 (by rfl) (by (exact bl)) (by simp) (by simp [World.cell?_alloc_mark]) (pl_isExpr _)
                                                        · have k64' : (k == 64) = false := by simpa using k64
                                                          by_cases k22 : k = 22
                                                          · subst k22
                                                            have BX := BX0
                                                            have BZ := Below.size BX0
                                                            have QX := Below.refl wc.heap.size wc
                                                            go_wp2_with (first
                                                              | (go_at_call 41; (with_reducible refine (or_any _ _ _ _ _ p6.out (pl_isExpr _)).mono ?_); rintro e we1 ⟨⟨ve1, rfl, he1⟩, be1⟩; have Be1 := BX.trans (be1.mono BX.size); clear BX; have BX := Be1; have Qe1 := QX.trans (be1.mono QX.size); clear QX; have QX := Qe1; have ye1 := Below.size Qe1; have xe1 := Below.size Be1; have ze1 := Below.size be1; have pe1 := Lib.hid he1; obtain ⟨Fe1, ce1, rfl, _⟩ := he1)
                                                              | (go_at_call 43; (with_reducible refine (these_any _ _ _ _).mono ?_); rintro e wt ⟨rfl, rfl⟩)
                                                              | (go_at_call 42; (with_reducible refine (all_any _ _ _).mono ?_); rintro e wt ⟨rfl, rfl⟩)
                                                              | fail)
                                                            go_ret3
                                                            exact plRes3 (by rfl) (by (exact bl)) (by simp) (by simp [World.cell?_alloc_mark]) (by simp [World.cell?_alloc_mark]) (by simp [World.cell?_alloc_mark]) (Place.later p7.out (by (exact bl))) (Place.later p8.out (by (exact bl))) (Place.later pe1.out (by (exact bl)))
                                                          · have k22' : (k == 22) = false := by simpa using k22
                                                            by_cases k24 : k = 24
                                                            · subst k24
                                                              have BX := BX0
                                                              have BZ := Below.size BX0
                                                              have QX := Below.refl wc.heap.size wc
                                                              go_wp2_with (first
                                                                | (go_at_call 43; (with_reducible refine (these_any _ _ _ _).mono ?_); rintro e wt ⟨rfl, rfl⟩)
                                                                | (go_at_call 42; (with_reducible refine (all_any _ _ _).mono ?_); rintro e wt ⟨rfl, rfl⟩)
                                                                | fail)
                                                              go_ret3
                                                              exact plRes2 (by rfl) (by (exact bl)) (by simp) (by simp [World.cell?_alloc_mark]) (by simp [World.cell?_alloc_mark]) (pl_isExpr _) (pl_isExpr _)
                                                            · have k24' : (k == 24) = false := by simpa using k24
                                                              by_cases k30 : k = 30
                                                              · subst k30
                                                                have BX := BX0
                                                                have BZ := Below.size BX0
                                                                have QX := Below.refl wc.heap.size wc
                                                                go_wp2_with (first
                                                                  | (go_at_call 43; (with_reducible refine (these_any _ _ _ _).mono ?_); rintro e wt ⟨rfl, rfl⟩)
                                                                  | (go_at_call 42; (with_reducible refine (all_any _ _ _).mono ?_); rintro e wt ⟨rfl, rfl⟩)
                                                                  | fail)
                                                                go_ret3
                                                                exact plRes2 (by rfl) (by (exact bl)) (by simp) (by simp [World.cell?_alloc_mark]) (by simp [World.cell?_alloc_mark]) (pl_isExpr _) (pl_isExpr _)
                                                              · have k30' : (k == 30) = false := by simpa using k30
                                                                by_cases k25 : k = 25
                                                                · subst k25
                                                                  have BX := BX0
                                                                  have BZ := Below.size BX0
                                                                  have QX := Below.refl wc.heap.size wc
                                                                  go_wp2_with (first
                                                                    | (go_at_call 43; (with_reducible refine (these_any _ _ _ _).mono ?_); rintro e wt ⟨rfl, rfl⟩)
                                                                    | (go_at_call 42; (with_reducible refine (all_any _ _ _).mono ?_); rintro e wt ⟨rfl, rfl⟩)
                                                                    | fail)
                                                                  go_ret3
                                                                  exact plRes3 (by rfl) (by (exact bl)) (by simp) (by simp [World.cell?_alloc_mark]) (by simp [World.cell?_alloc_mark]) (by simp [World.cell?_alloc_mark]) (pl_isExpr _) (pl_isExpr _) (pl_isExpr _)
                                                                · have k25' : (k == 25) = false := by simpa using k25
                                                                  by_cases k26 : k = 26
                                                                  · subst k26
                                                                    have BX := BX0
                                                                    have BZ := Below.size BX0
                                                                    have QX := Below.refl wc.heap.size wc
                                                                    go_wp2_with (first
                                                                      | (go_at_call 43; (with_reducible refine (these_any _ _ _ _).mono ?_); rintro e wt ⟨rfl, rfl⟩)
                                                                      | (go_at_call 42; (with_reducible refine (all_any _ _ _).mono ?_); rintro e wt ⟨rfl, rfl⟩)
                                                                      | fail)
                                                                    go_ret3
                                                                    exact plRes2 (by rfl) (by (exact bl)) (by simp) (by simp [World.cell?_alloc_mark]) (by simp [World.cell?_alloc_mark]) (pl_isSpot _) (pl_isExpr _)
                                                                  · have k26' : (k == 26) = false := by simpa using k26
                                                                    by_cases k27 : k = 27
                                                                    · subst k27
                                                                      have BX := BX0
                                                                      have BZ := Below.size BX0
                                                                      have QX := Below.refl wc.heap.size wc
                                                                      go_wp2_with (first
                                                                        | (go_at_call 43; (with_reducible refine (these_any _ _ _ _).mono ?_); rintro e wt ⟨rfl, rfl⟩)
                                                                        | (go_at_call 42; (with_reducible refine (all_any _ _ _).mono ?_); rintro e wt ⟨rfl, rfl⟩)
                                                                        | fail)
                                                                      go_ret3
                                                                      exact plRes3 (by rfl) (by (exact bl)) (by simp) (by simp [World.cell?_alloc_mark]) (by simp [World.cell?_alloc_mark]) (by simp [World.cell?_alloc_mark]) (pl_isExpr _) (Place.later p9.out (by (exact bl))) (Place.later p11.out (by (exact bl)))
                                                                    · have k27' : (k == 27) = false := by simpa using k27
                                                                      by_cases k28 : k = 28
                                                                      · subst k28
                                                                        have BX := BX0
                                                                        have BZ := Below.size BX0
                                                                        have QX := Below.refl wc.heap.size wc
                                                                        go_wp2_with (first
                                                                          | (go_at_call 43; (with_reducible refine (these_any _ _ _ _).mono ?_); rintro e wt ⟨rfl, rfl⟩)
                                                                          | (go_at_call 42; (with_reducible refine (all_any _ _ _).mono ?_); rintro e wt ⟨rfl, rfl⟩)
                                                                          | fail)
                                                                        go_ret3
                                                                        exact plRes3 (by rfl) (by (exact bl)) (by simp) (by simp [World.cell?_alloc_mark]) (by simp [World.cell?_alloc_mark]) (by simp [World.cell?_alloc_mark]) (pl_isPath _) (Place.later p9.out (by (exact bl))) (Place.later p11.out (by (exact bl)))
                                                                      · have k28' : (k == 28) = false := by simpa using k28
                                                                        by_cases k31 : k = 31
                                                                        · subst k31
                                                                          have BX := BX0
                                                                          have BZ := Below.size BX0
                                                                          have QX := Below.refl wc.heap.size wc
                                                                          go_wp2_with (first
                                                                            | (go_at_call 43; (with_reducible refine (these_any _ _ _ _).mono ?_); rintro e wt ⟨rfl, rfl⟩)
                                                                            | (go_at_call 42; (with_reducible refine (all_any _ _ _).mono ?_); rintro e wt ⟨rfl, rfl⟩)
                                                                            | fail)
                                                                          go_ret3
                                                                          exact plRes1 (by rfl) (by (exact bl)) (by simp) (by simp [World.cell?_alloc_mark]) (Place.later p11.out (by (exact bl)))
                                                                        · have k31' : (k == 31) = false := by simpa using k31
                                                                          by_cases k33 : k = 33
                                                                          · subst k33
                                                                            have BX := BX0
                                                                            have BZ := Below.size BX0
                                                                            have QX := Below.refl wc.heap.size wc
                                                                            go_wp2_with (first
                                                                              | (go_at_call 43; (with_reducible refine (these_any _ _ _ _).mono ?_); rintro e wt ⟨rfl, rfl⟩)
                                                                              | (go_at_call 42; (with_reducible refine (all_any _ _ _).mono ?_); rintro e wt ⟨rfl, rfl⟩)
                                                                              | fail)
                                                                            go_ret3
                                                                            exact plRes2 (by rfl) (by (exact bl)) (by simp) (by simp [World.cell?_alloc_mark]) (by simp [World.cell?_alloc_mark]) (pl_isExpr _) (pl_isType _)
                                                                          · have k33' : (k == 33) = false := by simpa using k33
                                                                            by_cases k40 : k = 40
                                                                            · subst k40
                                                                              have BX := BX0
                                                                              have BZ := Below.size BX0
                                                                              have QX := Below.refl wc.heap.size wc
                                                                              go_wp2_with (first
                                                                                | (go_at_call 43; (with_reducible refine (these_any _ _ _ _).mono ?_); rintro e wt ⟨rfl, rfl⟩)
                                                                                | (go_at_call 42; (with_reducible refine (all_any _ _ _).mono ?_); rintro e wt ⟨rfl, rfl⟩)
                                                                                | fail)
                                                                              go_ret3
                                                                              exact plRes2 (by rfl) (by (exact bl)) (by simp) (by simp [World.cell?_alloc_mark]) (by simp [World.cell?_alloc_mark]) (Place.later p12.out (by (exact bl))) (pl_isExpr _)
                                                                            · have k40' : (k == 40) = false := by simpa using k40
                                                                              by_cases k41 : k = 41
                                                                              · subst k41
                                                                                have BX := BX0
                                                                                have BZ := Below.size BX0
                                                                                have QX := Below.refl wc.heap.size wc
                                                                                go_wp2_with (first
                                                                                  | (go_at_call 43; (with_reducible refine (these_any _ _ _ _).mono ?_); rintro e wt ⟨rfl, rfl⟩)
                                                                                  | (go_at_call 42; (with_reducible refine (all_any _ _ _).mono ?_); rintro e wt ⟨rfl, rfl⟩)
                                                                                  | fail)
                                                                                go_ret3
                                                                                exact plRes4 (by rfl) (by (exact bl)) (by simp) (by simp [World.cell?_alloc_mark]) (by simp [World.cell?_alloc_mark]) (by simp [World.cell?_alloc_mark]) (by simp [World.cell?_alloc_mark]) (Place.later p7.out (by (exact bl))) (Place.later p8.out (by (exact bl))) (Place.later p12.out (by (exact bl))) (Place.later p6.out (by (exact bl)))
                                                                              · have k41' : (k == 41) = false := by simpa using k41
                                                                                by_cases k45 : k = 45
                                                                                · subst k45
                                                                                  have BX := BX0
                                                                                  have BZ := Below.size BX0
                                                                                  have QX := Below.refl wc.heap.size wc
                                                                                  go_wp2_with (first
                                                                                    | (go_at_call 43; (with_reducible refine (these_any _ _ _ _).mono ?_); rintro e wt ⟨rfl, rfl⟩)
                                                                                    | (go_at_call 42; (with_reducible refine (all_any _ _ _).mono ?_); rintro e wt ⟨rfl, rfl⟩)
                                                                                    | fail)
                                                                                  go_ret3
                                                                                  exact plRes4 (by rfl) (by (exact bl)) (by simp) (by simp [World.cell?_alloc_mark]) (by simp [World.cell?_alloc_mark]) (by simp [World.cell?_alloc_mark]) (by simp [World.cell?_alloc_mark]) (Place.later p7.out (by (exact bl))) (Place.later p8.out (by (exact bl))) (Place.later p12.out (by (exact bl))) (Place.later p6.out (by (exact bl)))
                                                                                · have k45' : (k == 45) = false := by simpa using k45
                                                                                  by_cases k42 : k = 42
                                                                                  · subst k42
                                                                                    have BX := BX0
                                                                                    have BZ := Below.size BX0
                                                                                    have QX := Below.refl wc.heap.size wc
                                                                                    go_wp2_with (first
                                                                                      | (go_at_call 38; (with_reducible refine (of_one _ 43).mono ?_); rintro e we1 ⟨⟨ve1, rfl, he1⟩, be1⟩; have Be1 := BX.trans (be1.mono BX.size); clear BX; have BX := Be1; have Qe1 := QX.trans (be1.mono QX.size); clear QX; have QX := Qe1; have ye1 := Below.size Qe1; have xe1 := Below.size Be1; have ze1 := Below.size be1; have pe1 := Lib.hid he1; obtain ⟨Fe1, ce1, rfl, _⟩ := he1)
                                                                                      | (go_at_call 41; (with_reducible refine (or_any _ _ _ _ _ pe1.out (Place.later p5.out be1)).mono ?_); rintro e we2 ⟨⟨ve2, rfl, he2⟩, be2⟩; have Be2 := BX.trans (be2.mono BX.size); clear BX; have BX := Be2; have Qe2 := QX.trans (be2.mono QX.size); clear QX; have QX := Qe2; have ye2 := Below.size Qe2; have xe2 := Below.size Be2; have ze2 := Below.size be2; have pe2 := Lib.hid he2; obtain ⟨Fe2, ce2, rfl, _⟩ := he2)
                                                                                      | (go_at_call 43; (with_reducible refine (these_any _ _ _ _).mono ?_); rintro e wt ⟨rfl, rfl⟩)
                                                                                      | (go_at_call 42; (with_reducible refine (all_any _ _ _).mono ?_); rintro e wt ⟨rfl, rfl⟩)
                                                                                      | fail)
                                                                                    go_ret3
                                                                                    exact plRes4 (by rfl) (by (exact bl)) (by simp) (by simp [World.cell?_alloc_mark]) (by simp [World.cell?_alloc_mark]) (by simp [World.cell?_alloc_mark]) (by simp [World.cell?_alloc_mark]) (Place.later p7.out (by (exact bl))) (Place.later pe2.out (by (exact bl))) (Place.later p10.out (by (exact bl))) (pl_isMembers _)
                                                                                  · have k42' : (k == 42) = false := by simpa using k42
                                                                                    by_cases k43 : k = 43
                                                                                    · subst k43
                                                                                      have BX := BX0
                                                                                      have BZ := Below.size BX0
                                                                                      have QX := Below.refl wc.heap.size wc
                                                                                      go_wp2_with (first
                                                                                        | (go_at_call 43; (with_reducible refine (these_any _ _ _ _).mono ?_); rintro e wt ⟨rfl, rfl⟩)
                                                                                        | (go_at_call 42; (with_reducible refine (all_any _ _ _).mono ?_); rintro e wt ⟨rfl, rfl⟩)
                                                                                        | fail)
                                                                                      go_ret3
                                                                                      exact plRes1 (by rfl) (by (exact bl)) (by simp) (by simp [World.cell?_alloc_mark]) (Place.later p9.out (by (exact bl)))
                                                                                    · have k43' : (k == 43) = false := by simpa using k43
                                                                                      by_cases k80 : k = 80
                                                                                      · subst k80
                                                                                        have BX := BX0
                                                                                        have BZ := Below.size BX0
                                                                                        have QX := Below.refl wc.heap.size wc
                                                                                        go_wp2_with (first
                                                                                          | (go_at_call 43; (with_reducible refine (these_any _ _ _ _).mono ?_); rintro e wt ⟨rfl, rfl⟩)
                                                                                          | (go_at_call 42; (with_reducible refine (all_any _ _ _).mono ?_); rintro e wt ⟨rfl, rfl⟩)
                                                                                          | fail)
                                                                                        go_ret3
                                                                                        exact plRes1 (by rfl) (by (exact bl)) (by simp) (by simp [World.cell?_alloc_mark]) (Place.later p9.out (by (exact bl)))
                                                                                      · have k80' : (k == 80) = false := by simpa using k80
                                                                                        by_cases k44 : k = 44
                                                                                        · subst k44
                                                                                          have BX := BX0
                                                                                          have BZ := Below.size BX0
                                                                                          have QX := Below.refl wc.heap.size wc
                                                                                          go_wp2_with (first
                                                                                            | (go_at_call 43; (with_reducible refine (these_any _ _ _ _).mono ?_); rintro e wt ⟨rfl, rfl⟩)
                                                                                            | (go_at_call 42; (with_reducible refine (all_any _ _ _).mono ?_); rintro e wt ⟨rfl, rfl⟩)
                                                                                            | fail)
                                                                                          go_ret3
                                                                                          exact plRes2 (by rfl) (by (exact bl)) (by simp) (by simp [World.cell?_alloc_mark]) (by simp [World.cell?_alloc_mark]) (Place.later p12.out (by (exact bl))) (Place.later p13.out (by (exact bl)))
                                                                                        · have k44' : (k == 44) = false := by simpa using k44
                                                                                          by_cases k46 : k = 46
                                                                                          · subst k46
                                                                                            have BX := BX0
                                                                                            have BZ := Below.size BX0
                                                                                            have QX := Below.refl wc.heap.size wc
                                                                                            go_wp2_with (first
                                                                                              | (go_at_call 38; (with_reducible refine (of_one _ 66).mono ?_); rintro e we1 ⟨⟨ve1, rfl, he1⟩, be1⟩; have Be1 := BX.trans (be1.mono BX.size); clear BX; have BX := Be1; have Qe1 := QX.trans (be1.mono QX.size); clear QX; have QX := Qe1; have ye1 := Below.size Qe1; have xe1 := Below.size Be1; have ze1 := Below.size be1; have pe1 := Lib.hid he1; obtain ⟨Fe1, ce1, rfl, _⟩ := he1)
                                                                                              | (go_at_call 39; (with_reducible refine (rows_any _ _ _ pe1.out).mono ?_); rintro e we2 ⟨⟨ve2, rfl, he2⟩, be2⟩; have Be2 := BX.trans (be2.mono BX.size); clear BX; have BX := Be2; have Qe2 := QX.trans (be2.mono QX.size); clear QX; have QX := Qe2; have ye2 := Below.size Qe2; have xe2 := Below.size Be2; have ze2 := Below.size be2; have pe2 := Lib.hid he2; obtain ⟨Fe2, ce2, rfl, _⟩ := he2)
                                                                                              | (go_at_call 43; (with_reducible refine (these_any _ _ _ _).mono ?_); rintro e wt ⟨rfl, rfl⟩)
                                                                                              | (go_at_call 42; (with_reducible refine (all_any _ _ _).mono ?_); rintro e wt ⟨rfl, rfl⟩)
                                                                                              | fail)
                                                                                            go_ret3
                                                                                            exact plRes2 (by rfl) (by (exact bl)) (by simp) (by simp [World.cell?_alloc_mark]) (by simp [World.cell?_alloc_mark]) (Place.later pe2.out (by (exact bl))) (Place.later p6.out (by (exact bl)))
                                                                                          · have k46' : (k == 46) = false := by simpa using k46
                                                                                            have BX := BX0
                                                                                            have HT2 := Lib.hid (tab_more k k1 k10 k11 k13 k14 k15 k16 k18 k17 k32 k58 k59 k65 k67 k81 k82 k2 k3 k63 k19 k20 k21 k23 k29 k34 k60 k64 k22 k24 k30 k25 k26 k27 k28 k31 k33 k40 k41 k45 k42 k43 k80 k44 k46)
                                                                                            go_wp2_with (first | (go_at_call 49; (with_reducible refine (more_parts k _).mono ?_); rintro e wm ⟨A, n, c, x, y, rfl, hr⟩) | fail)
                                                                                            go_ret3
                                                                                            rw [HT2.out]
                                                                                            exact hr.from_ BX
end Go.Proofs.YtpkdhciokiomlaaDoor
