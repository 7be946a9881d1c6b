/- The walk of chapter 2's reference 'next' at a sign. -/
import Derived.Test.YtdlppdoankeilaaLexW11
namespace Go.Proofs.Ytdlppdoankeilaa
set_option linter.unusedVariables false
set_option linter.unusedSimpArgs false
set_option linter.unnecessarySimpa false
open Go.RowKit
attribute [local go_sem] cell_alloc_add cell_set_add lt_more
set_option maxRecDepth 100000 in
set_option maxHeartbeats 8000000 in
theorem next_sign (s : ByteArray) (A : Option Addr) (c : Nat) (hs : s.size ≤ 4000000) (hcap : s.size ≤ c) (w : World) (h : Rd w w.heap.size A s.size (byteC s)) (i : Nat) (hi : i < s.size) (holes : List Bool) (A2 : Option Addr) (n2 c2 : Nat) (hn2 : n2 = holes.length) (hc2 : n2 ≤ c2) (h2 : HR w w.heap.size A2 n2 holes) (hnn : n2 ≤ 4000000) (hl : letterB (bt s i) = false) (hd : digitB (bt s i) = false) (h1 : ¬ (bt s i = 34 ∨ bt s i = 39)) (h9 : bt s i ≠ 96) (h3 : ¬ (bt s i = 125 ∧ holes.getLast? = some true)) : Calls Try.prog 33 #[.slice A s.size c, .int .i64 (i : Int), .slice A2 n2 c2] w fun e w' => NPost s i holes e w' ∧ Below w.heap.size w w' := by
  have HT0 := Lib.hid (tok_sign (holes := holes) hl hd h1 h9 h3)
  have HTK := Lib.hid (fun k hk hn hs => tok_hit (k := k) (holes := holes) hl hd h1 h9 h3 hk hn hs)
  have HN := Lib.hid h
  obtain ⟨ad, rfl, hadB, ci⟩ := h i hi
  unfold byteC at ci
  have H2 := Lib.hid h2
  have HH := Lib.hid hn2
  have HL := Lib.hid (rLetter_any (bt s i))
  rw [hl] at HL
  have HD := Lib.hid (rDigit_any (bt s i))
  rw [hd] at HD
  have t34 : ((bt s i : Int) == 34) = false := by simp; omega
  have t39 : ((bt s i : Int) == 39) = false := by simp; omega
  have t96 : ((bt s i : Int) == 96) = false := by simp; omega
  obtain ⟨i0, hif, hz0, hz1, hz2⟩ := info_parts infoBool
  -- the closing bracket's test
  have hcl : (bt s i = 125 ∧ 0 < n2 ∧ ∃ ah, A2 = some ah ∧ ah.block < w.heap.size ∧ w.cell? (ah.add (n2 - 1)) = some (.bool false)) ∨ (bt s i = 125 ∧ n2 = 0) ∨ bt s i ≠ 125 := by
    by_cases c : bt s i = 125
    · by_cases z : n2 = 0
      · exact .inr (.inl ⟨c, z⟩)
      · left
        refine ⟨c, by omega, ?_⟩
        obtain ⟨ah, e, hb, hc⟩ := h2.1 (n2 - 1) (by omega)
        refine ⟨ah, e, hb, ?_⟩
        rw [hc]
        have hne : holes.getLast? ≠ some true := fun e => h3 ⟨c, e⟩
        have hsm : ∃ x, holes.getLast? = some x := by
          cases hx : holes.getLast? with
          | none => rw [List.getLast?_eq_none_iff] at hx; rw [hx] at hn2; simp at hn2; omega
          | some x => exact ⟨x, rfl⟩
        obtain ⟨x, hx⟩ := hsm
        have := last_at (m := n2 - 1) hx (by omega)
        unfold holeC
        rw [this]
        cases x
        · rfl
        · exact absurd hx hne
    · exact .inr (.inr c)
  clear h h2 hn2 h1 h9 h3 hl hd
  go_enter Try.func33, Try.ntmps33
  go_upto_block 0 with fail
  go_cut [2] (fun v wx => v = .slice A2 n2 c2 ∧ wx = w.alloc (.cells #[.int .i64 0, .string ⟨#[]⟩, .int .i64 0, .int .i64 0] 33))
  case first =>
    rcases hcl with ⟨c125, hpos, ah, rfl, hab, hah⟩ | ⟨c125, rfl⟩ | c125
    · have t125 : ((bt s i : Int) == 125) = true := by simp; omega
      clear c125
      obtain ⟨m2, rfl⟩ : ∃ m2, n2 = m2 + 1 := ⟨n2 - 1, by omega⟩
      rw [Nat.add_sub_cancel] at hah
      go_wp2_with (first | (go_at_call 42; (with_reducible refine (HL.out _).mono ?_); rintro e w1 ⟨rfl, rfl⟩) | (go_at_call 43; (with_reducible refine (HD.out _).mono ?_); rintro e w1 ⟨rfl, rfl⟩))
      go_meet
      exact ⟨rfl, rfl⟩
    · have t125 : ((bt s i : Int) == 125) = true := by simp; omega
      clear c125
      go_wp2_with (first | (go_at_call 42; (with_reducible refine (HL.out _).mono ?_); rintro e w1 ⟨rfl, rfl⟩) | (go_at_call 43; (with_reducible refine (HD.out _).mono ?_); rintro e w1 ⟨rfl, rfl⟩))
      go_meet
      exact ⟨rfl, rfl⟩
    · have t125 : ((bt s i : Int) == 125) = false := by simp; omega
      clear c125
      go_wp2_with (first | (go_at_call 42; (with_reducible refine (HL.out _).mono ?_); rintro e w1 ⟨rfl, rfl⟩) | (go_at_call 43; (with_reducible refine (HD.out _).mono ?_); rintro e w1 ⟨rfl, rfl⟩))
      go_meet
      exact ⟨rfl, rfl⟩
  case rest =>
    clear hcl t34 t39 t96
    obtain ⟨rfl, rfl⟩ := hcut
    go_wp2_with (go_at_call 48; (with_reducible refine (signs_any _).mono ?_); rintro e w1 ⟨rfl, rfl⟩)
    obtain ⟨wl, hwl⟩ : ∃ wl : World, wl = (w.alloc (.cells #[.int .i64 0, .string ⟨#[]⟩, .int .i64 0, .int .i64 0] 33)).alloc (.cells signsV 9) := ⟨_, rfl⟩
    rw [← hwl]
    have rz : Row wl w.heap.size 33 #[.int .i64 0, .string ⟨#[]⟩, .int .i64 0, .int .i64 0] := by rw [hwl]; exact (row_new rfl).alloc _
    have hbl : Below w.heap.size w wl := by rw [hwl]; exact ((Below.refl _ w).alloc (Nat.le_refl _) _).alloc (by simp) _
    have hS : ∀ k, k < 37 → wl.cell? ⟨w.heap.size + 1, k, none⟩ = some (.string (signsB.getD k ⟨#[]⟩)) := fun k hk => by
      rw [hwl]
      have e : w.heap.size + 1 = (w.alloc (.cells #[.int .i64 0, .string ⟨#[]⟩, .int .i64 0, .int .i64 0] 33)).heap.size := by simp
      rw [e, World.cell?_alloc_mark]
      exact signs_at k hk
    have z1 : w.heap.size + 1 + 1 ≤ wl.heap.size := by rw [hwl]; simp
    clear hwl ci
    have HS := Lib.hid hS
    have hrl := H2.out.1.below hbl
    clear hS
    go_loopw [2, 23] (fun v a wr => ∃ (k n : Nat), k ≤ 37 ∧ v = .slice A2 n2 c2 ∧ a = .int .i64 k ∧ noneTo s i k ∧ wr = wl.drewN n) (fun _ a _ => 37 - (intOf a).toNat)
    case atStart => exact ⟨0, 0, by omega, rfl, rfl, (fun j hj => by omega), rfl⟩
    case round =>
      obtain ⟨k, n, hk, rfl, rfl, hno, rfl⟩ := hrel
      have HO := Lib.hid hno
      clear hno
      have z0 := rz.cell 0
      have z1' := rz.cell 1
      have z2 := rz.cell 2
      have z3 := rz.cell 3
      have fz0 := rz.free 0
      have fz1 := rz.free 1
      have fz2 := rz.free 2
      have fz3 := rz.free 3
      have lz := rz.lt
      by_cases hlt : k < 37
      · have cs := HS.out k hlt
        have hsz := signs_len k hlt
        have HNE := Lib.hid (noneTo_step HO.out)
        have HHIT := Lib.hid (HTK.out k hlt HO.out)
        generalize signsB.getD k ⟨#[]⟩ = x at *
        obtain ⟨hs1, hs3⟩ := hsz
        by_cases hfit : i + x.size ≤ s.size
        · have g1 : decide ((i : Int) + (x.size : Int) ≤ (s.size : Int)) = true := by simp; omega
          have kc : ∀ m n, (convert 22 9 (.slice (some (ad.add i)) x.size m)).run Try.prog (wl.drewN n) = .ok (.string (s.extract i (i + x.size))) (wl.drewN n) := fun m n => run_part (P := Try.prog) 22 9 5 Try.underlying22 Try.underlying5 Try.underlying9 ((HN.out.below hbl).drewN n) i x.size m (by omega)
          by_cases heq : (s.extract i (i + x.size)).data.toList = x.data.toList
          · have e1 : ((s.extract i (i + x.size)).toList == x.toList) = true := by rw [str_eq]; simpa using heq
            have HK := Lib.hid (HHIT.out ⟨hfit, heq⟩)
            clear heq
            by_cases c123 : x.data.toList = [123]
            · have f1 : (x.toList == [123]) = true := by rw [ByteArray.toList_eq]; simpa using c123
              have f2 : (x.toList == [125]) = false := by rw [ByteArray.toList_eq]; simp [c123]
              have HT : Hid (tokAt s i holes = some (⟨9, x, i, i + x.size⟩, holes ++ [false])) := Lib.hid (by rw [HK.out]; unfold signH; rw [if_pos c123])
              clear c123
              go_wp2_with fail
              go_quiet (fail)
              go_upto_region 37 with fail
              obtain ⟨wq, hwq⟩ : ∃ wq : World, wq = wl.drewN (n + nq) := ⟨_, rfl⟩
              rw [← hwq]
              have rzl : Row wq w.heap.size 33 #[.int .i64 0, .string ⟨#[]⟩, .int .i64 0, .int .i64 0] := by rw [hwq]; exact rz.drewN _
              have hbq : Below w.heap.size w wq := by rw [hwq]; (repeat (first | (with_reducible exact Below.refl _ _) | (with_reducible assumption) | (with_reducible refine Below.setCell ?_ (by first | omega | (simp <;> omega)) _) | (with_reducible refine Below.alloc ?_ (by first | omega | (simp <;> omega)) _) | (with_reducible refine Below.drew ?_) | (with_reducible refine below_drewN ?_ _) | (with_reducible refine Below.trans ?_ (Below.mono (by with_reducible assumption) (by first | omega | (simp <;> omega))))))
              have hrq := H2.out.1.below hbq
              have csq : wq.cell? ⟨w.heap.size + 1, k, none⟩ = some (.string x) := by rw [hwq]; exact cs
              have lz' := rzl.lt
              have lzq : w.heap.size + 1 < wq.heap.size := by rw [hwq]; simp; omega
              clear hwq rz hbl HS hrl cs z0 z1' z2 z3 fz0 fz1 fz2 fz3 lz z1 kc
              obtain ⟨wl, hwl⟩ : ∃ wl : World, wl = wq := ⟨_, rfl⟩
              subst hwl
              have hrl := hrq
              have rtl := rzl
              have lz := lz'
              have ltk := lz'
              have hbl := hbq
              go_wp2_with (first
                | (at_builtin; refine wpList_append_rd _ rfl (.tmp 188) (.tmp 189) _ rfl wl.heap.size 4 i0 _ 1 Try.underlying54 hif hz0 hz1 hz2 rfl _ 0 [] rfl (own_new (n := 0) rfl (Nat.le_refl _) (by decide)) _ A2 n2 c2 (holeC holes) rfl (hrl.alloc (by omega) _) (holeC_one holes) (by simp only [maxLen]; omega) (by omega) (by simp) ?_; intro v1 w1 hown1 hg1 hat1; have hb1 : Below wl.heap.size wl w1 := ((Below.refl _ wl).alloc (Nat.le_refl _) _).grown hg1 (by simp) (ob_ge (Nat.le_refl _)); have hz1' := hb1.size; have hv1 : ∀ k, v1.ownBlock = some k → wl.heap.size ≤ k := ob_or hat1 (ob_ge (Nat.le_refl _)) (by simp))
                | ((at_builtin; refine wpList_append_rd _ rfl (.tmp 190) (.tmp 191) _ rfl wl.heap.size 4 i0 _ 1 Try.underlying54 hif hz0 hz1 hz2 rfl v1 _ _ rfl (hown1.alloc _) _ _ 1 1 _ rfl (rd_one w1 4 (.bool false)) (fun _ => rfl) (by simp only [maxLen]; omega) (by omega) (by first | omega | (simp; done) | (simp; omega)) ?_; intro v2 w2 hown2 hg2 hat2; have hb2 : Below wl.heap.size wl w2 := (hb1.alloc hz1' _).grown hg2 (by simp; omega) hv1; have hz2' := hb2.size; have hv2 : ∀ k, v2.ownBlock = some k → wl.heap.size ≤ k := ob_or hat2 hv1 (by simp; omega); obtain ⟨A3, c3, hv3, hc3, _⟩ := rd_own hown2; subst hv3; have hown3 : w2.ownsRow wl.heap.size 4 1 (.slice A3 (n2 + 1) c3) (n2 + 1) (firsts (holeC holes) n2 ++ firsts (fun _ => Value.bool false) 1) := (by simpa using hown2); have rz2 := rzl.below hb2 lz; have rt2 := rtl.below hb2 ltk; have y0 := rz2.cell 0; have y1 := rz2.cell 1; have y2 := rz2.cell 2; have y3 := rz2.cell 3; have fy0 := rz2.free 0; have fy1 := rz2.free 1; have fy2 := rz2.free 2; have fy3 := rz2.free 3; have k0 := rt2.cell 0; have k1 := rt2.cell 1; have k2 := rt2.cell 2; have k3 := rt2.cell 3; have ly := rz2.lt; have lk := rt2.lt); have cs2 := (hb2.cell (p := ⟨w.heap.size + 1, k, none⟩) lzq).trans csq; have ls2 : w.heap.size + 1 < w2.heap.size := (by omega)))
              exact bodyPost_ret (v := .tuple #[.agg (tokA ⟨9, x, i, i + x.size⟩), .slice A3 (n2 + 1) c3, .bool true]) (by simp [results, Try.results33, go_sem, tokA, *]) rfl ⟨NPost.yes HT.out (by rw [List.length_append, ← HH.out]; rfl) (by omega) (HR.of_own (ownsRow_setCell_other (a := ⟨w.heap.size, 3, none⟩) (ownsRow_setCell_other (a := ⟨w.heap.size, 2, none⟩) (ownsRow_setCell_other (a := ⟨w.heap.size, 1, none⟩) (ownsRow_setCell_other (a := ⟨w.heap.size, 0, none⟩) hown3 (fun e => by have := own_ge hown3 _ e; first | omega | (simp at this; omega)) _) (fun e => by have := own_ge hown3 _ e; first | omega | (simp at this; omega)) _) (fun e => by have := own_ge hown3 _ e; first | omega | (simp at this; omega)) _) (fun e => by have := own_ge hown3 _ e; first | omega | (simp at this; omega)) _) (fun j hj => by rw [HH.out]; exact holes_snoc holes false j (by have := HH.out; omega))), (hbl.trans (hb2.mono (by omega))).setCell (by simp) _ |>.setCell (by simp) _ |>.setCell (by simp) _ |>.setCell (by simp) _⟩
            · have f1 : (x.toList == [123]) = false := by rw [ByteArray.toList_eq]; simpa using c123
              by_cases c125 : x.data.toList = [125]
              · have f2 : (x.toList == [125]) = true := by rw [ByteArray.toList_eq]; simpa using c125
                have HT : Hid (tokAt s i holes = some (⟨9, x, i, i + x.size⟩, holes.dropLast)) := Lib.hid (by rw [HK.out]; unfold signH; rw [if_neg c123, if_pos c125])
                have HLD : Hid (n2 - 1 = holes.dropLast.length) := Lib.hid (by rw [List.length_dropLast, ← HH.out])
                clear c123 c125
                by_cases hz : n2 = 0
                · subst hz
                  go_wp2_with fail
                  go_quiet (fail)
                  go_wp2
                  exact bodyPost_ret (v := .tuple #[.agg (tokA ⟨9, x, i, i + x.size⟩), .slice A2 0 c2, .bool true]) (by simp [results, Try.results33, go_sem, tokA, *]) rfl ⟨NPost.yes HT.out HLD.out (Nat.zero_le _) ((HR.none_ (A := A2) (w := w) (B := w.heap.size)).later (by (repeat (first | (with_reducible exact Below.refl _ _) | (with_reducible assumption) | (with_reducible refine Below.setCell ?_ (by first | omega | (simp <;> omega)) _) | (with_reducible refine Below.alloc ?_ (by first | omega | (simp <;> omega)) _) | (with_reducible refine Below.drew ?_) | (with_reducible refine below_drewN ?_ _) | (with_reducible refine Below.trans ?_ (Below.mono (by with_reducible assumption) (by first | omega | (simp <;> omega))))))) (by first | omega | (simp; omega))), (by (repeat (first | (with_reducible exact Below.refl _ _) | (with_reducible assumption) | (with_reducible refine Below.setCell ?_ (by first | omega | (simp <;> omega)) _) | (with_reducible refine Below.alloc ?_ (by first | omega | (simp <;> omega)) _) | (with_reducible refine Below.drew ?_) | (with_reducible refine below_drewN ?_ _) | (with_reducible refine Below.trans ?_ (Below.mono (by with_reducible assumption) (by first | omega | (simp <;> omega)))))))⟩
                · have HDR := Lib.hid (H2.out.part_congr (m := n2 - 1) (by omega) (fun j hj => holes_drop holes j (n2 - 1) (by have := HH.out; omega) hj))
                  have hpos : 0 < n2 := by omega
                  obtain ⟨m2, rfl⟩ : ∃ m2, n2 = m2 + 1 := ⟨n2 - 1, by omega⟩
                  go_wp2_with fail
                  go_quiet (fail)
                  go_wp2
                  exact bodyPost_ret (v := .tuple #[.agg (tokA ⟨9, x, i, i + x.size⟩), .slice A2 m2 c2, .bool true]) (by simp [results, Try.results33, go_sem, tokA, *]) rfl ⟨NPost.yes HT.out HLD.out (by omega) ((HDR.out).later (by (repeat (first | (with_reducible exact Below.refl _ _) | (with_reducible assumption) | (with_reducible refine Below.setCell ?_ (by first | omega | (simp <;> omega)) _) | (with_reducible refine Below.alloc ?_ (by first | omega | (simp <;> omega)) _) | (with_reducible refine Below.drew ?_) | (with_reducible refine below_drewN ?_ _) | (with_reducible refine Below.trans ?_ (Below.mono (by with_reducible assumption) (by first | omega | (simp <;> omega))))))) (by first | omega | (simp; omega))), (by (repeat (first | (with_reducible exact Below.refl _ _) | (with_reducible assumption) | (with_reducible refine Below.setCell ?_ (by first | omega | (simp <;> omega)) _) | (with_reducible refine Below.alloc ?_ (by first | omega | (simp <;> omega)) _) | (with_reducible refine Below.drew ?_) | (with_reducible refine below_drewN ?_ _) | (with_reducible refine Below.trans ?_ (Below.mono (by with_reducible assumption) (by first | omega | (simp <;> omega)))))))⟩
              · have f2 : (x.toList == [125]) = false := by rw [ByteArray.toList_eq]; simpa using c125
                have HT : Hid (tokAt s i holes = some (⟨9, x, i, i + x.size⟩, holes)) := Lib.hid (by rw [HK.out]; unfold signH; rw [if_neg c123, if_neg c125])
                clear c123 c125
                go_wp2_with fail
                go_quiet (fail)
                go_wp2
                exact bodyPost_ret (v := .tuple #[.agg (tokA ⟨9, x, i, i + x.size⟩), .slice A2 n2 c2, .bool true]) (by simp [results, Try.results33, go_sem, tokA, *]) rfl ⟨NPost.yes HT.out HH.out hc2 ((H2.out).later (by (repeat (first | (with_reducible exact Below.refl _ _) | (with_reducible assumption) | (with_reducible refine Below.setCell ?_ (by first | omega | (simp <;> omega)) _) | (with_reducible refine Below.alloc ?_ (by first | omega | (simp <;> omega)) _) | (with_reducible refine Below.drew ?_) | (with_reducible refine below_drewN ?_ _) | (with_reducible refine Below.trans ?_ (Below.mono (by with_reducible assumption) (by first | omega | (simp <;> omega))))))) (by first | omega | (simp; omega))), (by (repeat (first | (with_reducible exact Below.refl _ _) | (with_reducible assumption) | (with_reducible refine Below.setCell ?_ (by first | omega | (simp <;> omega)) _) | (with_reducible refine Below.alloc ?_ (by first | omega | (simp <;> omega)) _) | (with_reducible refine Below.drew ?_) | (with_reducible refine below_drewN ?_ _) | (with_reducible refine Below.trans ?_ (Below.mono (by with_reducible assumption) (by first | omega | (simp <;> omega)))))))⟩
          · have e1 : ((s.extract i (i + x.size)).toList == x.toList) = false := by rw [str_eq]; simpa using heq
            have HX := Lib.hid (HNE.out (fun h => heq h.2))
            clear heq
            go_wp2_with fail
            go_quiet (fail)
            go_wp2
            exact ⟨⟨k + 1, _, by omega, rfl, by go_num, HX.out, rfl⟩, by simp [intOf]; omega⟩
        · have g1 : decide ((i : Int) + (x.size : Int) ≤ (s.size : Int)) = false := by simp; omega
          have HX := Lib.hid (HNE.out (fun h => hfit h.1))
          go_wp2_with fail
          go_quiet (fail)
          go_wp2
          exact ⟨⟨k + 1, _, by omega, rfl, by go_num, HX.out, rfl⟩, by simp [intOf]; omega⟩
      · obtain rfl : k = 37 := by omega
        have HX : Hid (tokAt s i holes = none) := Lib.hid (by rw [HT0.out, if_pos (sign_none HO.out)])
        go_wp2
        exact bodyPost_ret (v := .tuple #[.agg (tokA ⟨0, ⟨#[]⟩, 0, 0⟩), .slice A2 n2 c2, .bool false]) (by simp [results, Try.results33, go_sem, tokA, *]) rfl ⟨NPost.no HX.out hc2, (by (repeat (first | (with_reducible exact Below.refl _ _) | (with_reducible assumption) | (with_reducible refine Below.setCell ?_ (by first | omega | (simp <;> omega)) _) | (with_reducible refine Below.alloc ?_ (by first | omega | (simp <;> omega)) _) | (with_reducible refine Below.drew ?_) | (with_reducible refine below_drewN ?_ _) | (with_reducible refine Below.trans ?_ (Below.mono (by with_reducible assumption) (by first | omega | (simp <;> omega)))))))⟩
end Go.Proofs.Ytdlppdoankeilaa
