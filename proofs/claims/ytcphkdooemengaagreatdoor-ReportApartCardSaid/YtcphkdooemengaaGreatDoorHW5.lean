/- The walk of chapter 1's Place, of the program. -/
import Derived.Test.YtcphkdooemengaaGreatDoorHBZ10
import Derived.Test.YtcphkdooemengaaGreatDoorHBZ7
import Derived.Test.YtcphkdooemengaaGreatDoorHBZ28
import Derived.WalkMore
namespace Go.Proofs.YtcphkdooemengaaGreatDoor
set_option linter.unusedVariables false
set_option linter.unusedSimpArgs false
set_option linter.unnecessarySimpa false
open Go.RowKit
attribute [local go_sem] cell_alloc_add cell_set_add lt_more Oper.semAt_some
theorem run_max_plain {P : Program} {w : World} (ts : Array TypeId) (t : TypeId) (k k' : IntKind) (x y : Int) : (Builtin.max_ ts t #[.int k x, .int k' y]).run P w = .ok (.int k (max x y)) w := by
  rw [run_max_int2]; congr 2; split <;> omega
theorem run_min_plain {P : Program} {w : World} (ts : Array TypeId) (t : TypeId) (k k' : IntKind) (x y : Int) : (Builtin.min_ ts t #[.int k x, .int k' y]).run P w = .ok (.int k (min x y)) w := by
  rw [run_min_int2]; congr 2; split <;> omega
attribute [local go_sem high] run_max_plain run_min_plain

theorem keepC_set {b : Nat} {W : World} {p : Addr} (h : p.block ≠ b) (u : Value) : KeepC b W (W.setCell p u) := fun v hv => by
  rw [World.cell?_setCell_other W p _ u (fun e => h (by rw [e]))]; exact hv
set_option maxRecDepth 100000 in
set_option maxHeartbeats 4000000 in
theorem Place_in (s : ByteArray) (A : Option Addr) (c : Nat) (hs : s.size ≤ 140737488351232) (hcap : s.size ≤ c) (w : World) (h : Rd w w.heap.size A s.size (byteC s)) (at_ : Int) : CallsIn Fence.wide 10 Tryz.prog 42 #[.slice A s.size c, .int .i64 at_] w fun e w' => e = .returned (.tuple #[.int .i64 ((lnF s (clampA s at_)).1 : Int), .int .i64 (colS s (lnF s (clampA s at_)).2 (clampA s at_) : Int)]) ∧ Below w.heap.size w w' := by
  obtain ⟨a, ha⟩ : ∃ a, a = clampA s at_ := ⟨_, rfl⟩
  have hal := clampA_le s at_
  rw [← ha] at hal ⊢
  have hA : max 0 (min at_ (s.size : Int)) = (a : Int) := by rw [ha]; unfold clampA; omega
  clear ha
  refine callsIn_of_wp_marks Tryz.func42 rfl trivial ?_ rfl
  simp only [Tryz.ntmps42, List.size_toArray, List.length_cons, List.length_nil, Nat.reduceAdd, Nat.reduceSub, Array.replicate_succ, Array.replicate_zero, List.push_toArray, List.append_toArray, List.nil_append, List.cons_append]
  gi_wp2
  refine wpIn_wide.2 (wp_scope_straight ((wpIn_wide (n := 10)).1 ?_))
  gi_wp2
  clear hA
  gi_loopw [4, 20] (fun l i wr => ∃ k : Nat, k ≤ a ∧ i = .int .i64 k ∧ l = .int .i64 ((lnF s k).1 : Int) ∧
      Row wr w.heap.size 3 #[.int .i64 a] ∧ Row wr (w.heap.size + 1) 3 #[.int .i64 0] ∧ Row wr (w.heap.size + 1 + 1) 3 #[.int .i64 ((lnF s k).2 : Int)] ∧ Below w.heap.size w wr) (fun _ i _ => a - (intOf i).toNat)
  case atStart => exact ⟨0, Nat.zero_le _, rfl, rfl, by (repeat (first | (with_reducible assumption) | (with_reducible refine row_new ?_; simp; done) | (with_reducible refine Row.alloc ?_ _) | (with_reducible refine Row.drew ?_) | (with_reducible refine Row.far ?_ (by simp <;> omega) _) | (with_reducible refine row_put1 ?_ _))), by (repeat (first | (with_reducible assumption) | (with_reducible refine row_new ?_; simp; done) | (with_reducible refine Row.alloc ?_ _) | (with_reducible refine Row.drew ?_) | (with_reducible refine Row.far ?_ (by simp <;> omega) _) | (with_reducible refine row_put1 ?_ _))), row_new (by simp), (by (exact bl))⟩
  case round =>
      obtain ⟨k, hk, rfl, rfl, r1, r2, r3, hb⟩ := hrel
      have hbd := lnF_bd s k
      have hz := hb.size
      by_cases hlt : k < a
      · obtain ⟨ad, rfl, hblt, hc⟩ := (h.below hb) k (by omega)
        unfold byteC at hc
        have c3 := r3.cell 0
        have f3 := r3.free 0
        simp at c3
        by_cases h10 : bt s k = 10
        · have hl := lnF_hit h10
          have HL := Lib.hid hl
          clear hl
          gi_wp2
          go_roundw
          case rel => exact ⟨k + 1, by omega, by go_num, by rw [HL.out]; go_num, by (repeat (first | (with_reducible assumption) | (with_reducible refine row_new ?_; simp; done) | (with_reducible refine Row.alloc ?_ _) | (with_reducible refine Row.drew ?_) | (with_reducible refine Row.far ?_ (by simp <;> omega) _) | (with_reducible refine row_put1 ?_ _))), by (repeat (first | (with_reducible assumption) | (with_reducible refine row_new ?_; simp; done) | (with_reducible refine Row.alloc ?_ _) | (with_reducible refine Row.drew ?_) | (with_reducible refine Row.far ?_ (by simp <;> omega) _) | (with_reducible refine row_put1 ?_ _))), by rw [HL.out]; exact row_put1 r3 _, hb.setCell (p := ⟨w.heap.size + 1 + 1, 0, none⟩) (by simp; omega) _⟩
          case measure => simp [intOf]; omega
        · have hl := lnF_miss h10
          have HL := Lib.hid hl
          clear hl
          have h10' : ((bt s k : Int) == 10) = false := by simp; omega
          gi_wp2
          go_roundw
          case rel => exact ⟨k + 1, by omega, by go_num, by rw [HL.out], r1, r2, by rw [HL.out]; exact r3, hb⟩
          case measure => simp [intOf]; omega
      · obtain rfl : k = a := by omega
        obtain ⟨f, hf⟩ : ∃ f, f = (lnF s k).2 := ⟨_, rfl⟩
        rw [← hf] at r3 hbd
        have HF := Lib.hid hf
        clear hf
        obtain ⟨A2, hA2⟩ : ∃ A2, A2 = if c = f then A else A.map (·.add f) := ⟨_, rfl⟩
        have hsl : ∀ W, (Instr.slice 40 (.slice A s.size c) (some (.int .i64 (f : Int))) none none).run Tryz.prog W = .ok (.slice A2 (s.size - f) (c - f)) W := fun W => by
          rw [hA2]; exact run_cut_from A W Tryz.underlying40 (fun _ => by kernel_rfl) (by omega)
        have ht : (s.extract f s.size).size = s.size - f := by simp [ByteArray.size_extract]
        have hrd : Rd wr w.heap.size A2 (s.size - f) (byteC (s.extract f s.size)) := by
          rw [hA2]
          exact ((h.below hb).cut (k := f) (m := s.size - f) (by omega) hcap).congr fun j hj => by unfold byteC; rw [bt_extract hj (Nat.le_refl _)]
        have ht' := Lib.hid ht
        clear ht hA2
        have c1 := r1.cell 0
        have f1 := r1.free 0
        have c2 := r2.cell 0
        have f2 := r2.free 0
        have c3 := r3.cell 0
        have f3 := r3.free 0
        have l3 := r3.lt
        simp at c1 c2 c3
        gi_wp2
        refine wpIn_label ?_
        gi_wp2_with (refine ⟨trivial, ?_⟩; gi_at_call 35; (with_reducible refine (callsIn_wide.2 (Runes_at (s.extract f s.size) A2 _ _ ht'.out.symm _ (by (repeat (first | (with_reducible assumption) | (with_reducible refine Rd.setCell ?_ (by first | omega | (simp <;> omega)) _) | (with_reducible refine Rd.alloc ?_ (by first | omega | (simp <;> omega)) _) | (with_reducible refine Rd.drew ?_) | (with_reducible refine Rd.drewN ?_ _) | (with_reducible refine Rd.below ?_ (by with_reducible assumption))))))).mono ?_); rintro e w1 ⟨rfl, rfl⟩)
        obtain ⟨W0, hW0⟩ : ∃ W0, W0 = ((wr.setCell ⟨w.heap.size + 1, 0, none⟩ (.int .i64 1)).alloc (.cells #[.int .i64 (-1)] 3)).alloc (.cells #[.string (s.extract f s.size)] 9) := ⟨_, rfl⟩
        obtain ⟨t, htt⟩ : ∃ t, t = s.extract f s.size := ⟨_, rfl⟩
        rw [← htt] at hW0 ht' ⊢
        rw [← hW0]
        have HTT := Lib.hid htt
        clear htt
        have q1 : Row W0 w.heap.size 3 #[.int .i64 k] := by rw [hW0]; (repeat (first | (with_reducible assumption) | (with_reducible refine row_new ?_; simp; done) | (with_reducible refine Row.alloc ?_ _) | (with_reducible refine Row.drew ?_) | (with_reducible refine Row.far ?_ (by simp <;> omega) _) | (with_reducible refine row_put1 ?_ _)))
        have q2 : Row W0 (w.heap.size + 1) 3 #[.int .i64 1] := by rw [hW0]; exact ((row_put1 r2 _).alloc _).alloc _
        have q3 : Row W0 (w.heap.size + 1 + 1) 3 #[.int .i64 f] := by rw [hW0]; (repeat (first | (with_reducible assumption) | (with_reducible refine row_new ?_; simp; done) | (with_reducible refine Row.alloc ?_ _) | (with_reducible refine Row.drew ?_) | (with_reducible refine Row.far ?_ (by simp <;> omega) _) | (with_reducible refine row_put1 ?_ _)))
        have q4 : Row W0 wr.heap.size 3 #[.int .i64 (-1)] := by rw [hW0]; exact (row_new (by simp)).alloc _
        have q5 : W0.cell? ⟨wr.heap.size + 1, 0, none⟩ = some (.string t) := by rw [hW0]; exact (row_new (by simp)).cell 0
        have hb0 : Below w.heap.size w W0 := by rw [hW0]; exact (by (exact bl))
        have hz0 : W0.heap.size = wr.heap.size + 2 := by rw [hW0]; simp
        clear hW0 c1 f1 c2 f2 c3 f3 hrd r1 r2 r3 hb hsl
        have hts : t.size ≤ 140737488351232 := by have := ht'.out; omega
        apply wpIn_rangeFunc_ownF (F := Fence.wide) (n := 10) rfl (by decide) (gf := 59) (lb := #[.pointer (some ⟨wr.heap.size + 1, 0, none⟩)]) rfl trivial (enters_of Tryz.func59 (by kernel_rfl) rfl)
          (Runes_stops (10 - 1) (by decide) (wr.heap.size + 1) t hts W0 q5) keepC_t (keepC_b (w := W0)) (Below.refl _ _) (fun _ => rfl)
          (fun pre W => Row W w.heap.size 3 #[.int .i64 k] ∧ Row W (w.heap.size + 1) 3 #[.int .i64 (colOf (vals pre))] ∧ Row W (w.heap.size + 1 + 1) 3 #[.int .i64 f] ∧ Row W wr.heap.size 3 #[.int .i64 (lastOf (vals pre))] ∧ (∀ x ∈ (vals pre).tail, f + x ≤ k) ∧ Below w.heap.size w W)
          (fun c pre W => c = .exit 2 ∧ ∃ p x, vals pre = p ++ [x] ∧ p ≠ [] ∧ k < f + x ∧ Row W w.heap.size 3 #[.int .i64 k] ∧ Row W (w.heap.size + 1) 3 #[.int .i64 (colOf p)] ∧ Row W (w.heap.size + 1 + 1) 3 #[.int .i64 f] ∧ Row W wr.heap.size 3 #[.int .i64 (lastOf p)] ∧ (∀ x ∈ p.tail, f + x ≤ k) ∧ Below w.heap.size w W)
          (fun s A B row hs hg hr => ⟨row_own hs.1 hg (fun r e => (hr r e).2), row_own hs.2.1 hg (fun r e => (hr r e).2), row_own hs.2.2.1 hg (fun r e => (hr r e).2), row_own hs.2.2.2.1 hg (fun r e => (hr r e).2), hs.2.2.2.2.1, ownFrom_below (β := Unit) (Nat.le_refl _) (by omega) () A B row hs.2.2.2.2.2 hg hr⟩)
          (fun c s A B row hs hg hr => by
            obtain ⟨e, p, x, e1, e2, e3, s1, s2, s3, s4, s5, s6⟩ := hs
            exact ⟨e, p, x, e1, e2, e3, row_own s1 hg (fun r e => (hr r e).2), row_own s2 hg (fun r e => (hr r e).2), row_own s3 hg (fun r e => (hr r e).2), row_own s4 hg (fun r e => (hr r e).2), s5, ownFrom_below (β := Unit) (Nat.le_refl _) (by omega) () A B row s6 hg hr⟩)
          ⟨q1, q2, q3, q4, by simp [vals], hb0⟩ _
        case hassign =>
          intro l x W K hK
          dsimp only [plE]
          gi_wp2
          exact hK
        case hbody =>
          rintro l pre x W ⟨p1, p2, p3, p4, hx, hB⟩ hlen
          have hC := colOf_bd (vals pre)
          rw [vals_len] at hC
          have hxl := x.2
          have htz := ht'.out
          have d1 := p1.cell 0
          have d2 := p2.cell 0
          have d3 := p3.cell 0
          have d4 := p4.cell 0
          have g2 := p2.free 0
          have g4 := p4.free 0
          have k4 := p4.lt
          simp at d1 d2 d3 d4
          by_cases hp : vals pre = []
          · rw [hp, lastOf_nil] at d4
            have HP := Lib.hid hp
            clear hp htz
            gi_wp2
            refine ⟨KeepsOthers.setCell _ _ _, keepC_set (by simp) _, p1.far (by simp; omega) _, ?_, p3.far (by simp; omega) _, ?_, ?_, hB.setCell (p := ⟨wr.heap.size, 0, none⟩) (by simp; omega) _⟩
            · have p2 := p2.far (p := ⟨wr.heap.size, 0, none⟩) (by simp; omega) (.int .i64 ↑x.1)
              rw [HP.out] at p2
              rw [vals_snoc, HP.out]; exact p2
            · rw [vals_snoc, lastOf_snoc]; exact row_put1 p4 _
            · rw [vals_snoc, HP.out]; simp
          · have hL : 0 ≤ lastOf (vals pre) := by have := mt lastOf_neg.1 hp; omega
            by_cases hlx : f + x.1 ≤ k
            · have HP := Lib.hid hp
              clear hp htz
              gi_wp2
              refine ⟨(KeepsOthers.setCell _ _ _).trans (KeepsOthers.setCell _ _ _), keepC_t (keepC_set (by simp; omega) _) (keepC_set (by simp) _), (p1.far (by simp) _).far (by simp; omega) _, ?_, (p3.far (by simp) _).far (by simp; omega) _, ?_, ?_, (hB.setCell (p := ⟨w.heap.size + 1, 0, none⟩) (by simp) _).setCell (p := ⟨wr.heap.size, 0, none⟩) (by simp; omega) _⟩
              · rw [vals_snoc, colOf_snoc _ HP.out]; exact (row_put1 p2 _).far (by simp; omega) _
              · rw [vals_snoc, lastOf_snoc]; exact row_put1 (p4.far (by simp; omega) _) _
              · rw [vals_snoc, List.tail_append_of_ne_nil HP.out]
                intro y hy
                rcases List.mem_append.1 hy with hy | hy
                · exact hx y hy
                · simp at hy; subst hy; exact hlx
            · have HP := Lib.hid hp
              clear hp htz
              gi_wp2
              exact ⟨KeepsOthers.refl _, rfl, vals pre, x.1, vals_snoc _ _, HP.out, by omega, p1, p2, p3, p4, hx, hB⟩
        case hdone =>
          rintro D xs W hD rfl ⟨p1, p2, p3, p4, hx, hB⟩ hK
          have hv : vals (plL t (places t)) = places t := plL_val (fun j hj => mem_places hj)
          rw [hv] at p2 p4 hx
          have htz := ht'.out
          have hcd := col_done (s := s) (t := t) (b := f) (a := k) (by omega) hal HTT.out hx
          have hC := colOf_bd (places t)
          have hC2 := places_len t
          have hl1 := @lastOf_lt t
          have d1 := p1.cell 0
          have d2 := p2.cell 0
          have d3 := p3.cell 0
          have d4 := p4.cell 0
          have g2 := p2.free 0
          simp at d1 d2 d3 d4
          by_cases hp : places t = []
          · rw [hp, lastOf_nil] at d4
            rw [hp] at d2
            have H := Lib.hid hcd
            have HP := Lib.hid hp
            clear hcd htz hl1 hv hp
            gi_wp2
            gi_region
            gi_wp2
            all_goals (try rw [Exit.noGoto_ret])
            have hK' := (((KeepsOthers.setCell W ⟨w.heap.size + 1, 0, none⟩ (.int .i64 (colOf []))).trans (KeepsOthers.drew _))).same D _ hK rfl
            have hr := row_own ((row_put1 p2 (.int .i64 (colOf []))).drew) (grownBy_putObj' _ D (.deferred none)) (fun r e => by cases e; exact ⟨_, hK', rfl⟩)
            have hc5 := hr.cell 0
            simp at hc5
            refine ⟨by simp, .inl ⟨_, _, rfl, run_takeDeferred hK', ?_⟩⟩
            refine ⟨.tuple #[.int .i64 ((lnF s k).1 : Int), .int .i64 (colOf [])], by simp [results, Tryz.f42, go_sem, hc5], ?_, ((hB.setCell (p := ⟨w.heap.size + 1, 0, none⟩) (by simp) (.int .i64 (colOf []))).drew).trans (belowK_b (w := w) (Nat.le_refl _) _ D _ _ (by omega) hK' rfl rfl)⟩
            rw [← HF.out, H.out]
            rw [HP.out, lastOf_nil, if_neg (by omega)]; simp
          · have hl2 := hl1 hp
            have hl3 : 0 ≤ lastOf (places t) := by have := mt lastOf_neg.1 hp; omega
            by_cases hks : k = s.size
            · have hkk : ((k : Int) == (s.size : Int)) = true := by simp; omega
              have hle : (f : Int) + lastOf (places t) < k := by omega
              have H := Lib.hid hcd
              have HK := Lib.hid hks
              clear hcd hl1 hv hp hks htz
              gi_wp2
              gi_region
              gi_wp2
              all_goals (try rw [Exit.noGoto_ret])
              have hK' := ((((KeepsOthers.setCell W ⟨w.heap.size + 1, 0, none⟩ (.int .i64 (colOf (places t) + 1))).trans (KeepsOthers.setCell _ ⟨w.heap.size + 1, 0, none⟩ (.int .i64 (colOf (places t) + 1)))).trans (KeepsOthers.drew _))).same D _ hK rfl
              have hr := row_own ((row_put1 (row_put1 p2 (.int .i64 (colOf (places t) + 1))) (.int .i64 (colOf (places t) + 1))).drew) (grownBy_putObj' _ D (.deferred none)) (fun r e => by cases e; exact ⟨_, hK', rfl⟩)
              have hc5 := hr.cell 0
              simp at hc5
              refine ⟨by simp, .inl ⟨_, _, rfl, run_takeDeferred hK', ?_⟩⟩
              refine ⟨.tuple #[.int .i64 ((lnF s k).1 : Int), .int .i64 (colOf (places t) + 1)], by simp [results, Tryz.f42, go_sem, hc5], ?_, (((hB.setCell (p := ⟨w.heap.size + 1, 0, none⟩) (by simp) (.int .i64 (colOf (places t) + 1))).setCell (p := ⟨w.heap.size + 1, 0, none⟩) (by simp) (.int .i64 (colOf (places t) + 1))).drew).trans (belowK_b (w := w) (Nat.le_refl _) _ D _ _ (by omega) hK' rfl rfl)⟩
              rw [← HF.out, H.out]
              rw [if_pos ⟨hl3, HK.out, hle⟩]
            · have hkk : ((k : Int) == (s.size : Int)) = false := by simp; omega
              have H := Lib.hid hcd
              have HK := Lib.hid hks
              clear hcd hl1 hv hp hks htz
              gi_wp2
              gi_region
              gi_wp2
              all_goals (try rw [Exit.noGoto_ret])
              have hK' := (((KeepsOthers.setCell W ⟨w.heap.size + 1, 0, none⟩ (.int .i64 (colOf (places t)))).trans (KeepsOthers.drew _))).same D _ hK rfl
              have hr := row_own ((row_put1 p2 (.int .i64 (colOf (places t)))).drew) (grownBy_putObj' _ D (.deferred none)) (fun r e => by cases e; exact ⟨_, hK', rfl⟩)
              have hc5 := hr.cell 0
              simp at hc5
              refine ⟨by simp, .inl ⟨_, _, rfl, run_takeDeferred hK', ?_⟩⟩
              refine ⟨.tuple #[.int .i64 ((lnF s k).1 : Int), .int .i64 (colOf (places t))], by simp [results, Tryz.f42, go_sem, hc5], ?_, ((hB.setCell (p := ⟨w.heap.size + 1, 0, none⟩) (by simp) (.int .i64 (colOf (places t)))).drew).trans (belowK_b (w := w) (Nat.le_refl _) _ D _ _ (by omega) hK' rfl rfl)⟩
              rw [← HF.out, H.out]
              rw [if_neg (fun hh => HK.out hh.2.1)]; simp
        case hstop =>
          rintro D c pre W hD hpre ⟨rfl, p, x, e1, e2, e3, p1, p2, p3, p4, hx, hB⟩ hK
          have hv : vals (plL t (places t)) = places t := plL_val (fun j hj => mem_places hj)
          have hpp : p ++ [x] <+: places t := by rw [← e1, ← hv]; exact hpre.map _
          have htz := ht'.out
          have hcd := col_stop (s := s) (t := t) (b := f) (a := k) (by omega) HTT.out hpp e2 hx e3
          have hxt : x < t.size := mem_places (hpp.subset (by simp))
          have hkk : ((k : Int) == (s.size : Int)) = false := by simp; omega
          have hl3 : 0 ≤ lastOf p := by have := mt lastOf_neg.1 e2; omega
          have hC := colOf_bd p
          have d1 := p1.cell 0
          have d2 := p2.cell 0
          have d3 := p3.cell 0
          have d4 := p4.cell 0
          have g2 := p2.free 0
          simp at d1 d2 d3 d4
          have H := Lib.hid hcd
          clear hcd hv e1 e2 hpp
          gi_wp2
          gi_region
          gi_wp2
          all_goals (try rw [Exit.noGoto_ret])
          have hK' := (((KeepsOthers.setCell W ⟨w.heap.size + 1, 0, none⟩ (.int .i64 (colOf p))).trans (KeepsOthers.drew _))).same D _ hK rfl
          have hr := row_own ((row_put1 p2 (.int .i64 (colOf p))).drew) (grownBy_putObj' _ D (.deferred none)) (fun r e => by cases e; exact ⟨_, hK', rfl⟩)
          have hc5 := hr.cell 0
          simp at hc5
          refine ⟨by simp, .inl ⟨_, _, rfl, run_takeDeferred hK', ?_⟩⟩
          refine ⟨.tuple #[.int .i64 ((lnF s k).1 : Int), .int .i64 (colOf p)], by simp [results, Tryz.f42, go_sem, hc5], ?_, ((hB.setCell (p := ⟨w.heap.size + 1, 0, none⟩) (by simp) (.int .i64 (colOf p))).drew).trans (belowK_b (w := w) (Nat.le_refl _) _ D _ _ (by omega) hK' rfl rfl)⟩
          rw [← HF.out, H.out]
end Go.Proofs.YtcphkdooemengaaGreatDoor
