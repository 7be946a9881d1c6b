/- The walk of the reference's fits. -/
import Derived.Test.YtpkdhciokiomlaaGreatDoorHBZ7
import Derived.Test.YtpkdhciokiomlaaGreatDoorHBZ20
import Derived.Test.YtpkdhciokiomlaaGreatDoorHR9
import Derived.Test.YtpkdhciokiomlaaGreatDoorHR8
namespace Go.Proofs.YtpkdhciokiomlaaGreatDoor
set_option linter.unusedVariables false
set_option linter.unusedSimpArgs false
set_option linter.unnecessarySimpa false
open Go.RowKit
attribute [local go_sem] cell_alloc_add cell_set_add lt_more fld0 fld2
/-- What the walk of fits has in memory. -/
structure FrN (w W : World) (ad : Addr) (N c : Nat) (k : Int) (x : ByteArray) (m : Int) (K0 : Option Addr) (M kc0 : Nat) (p : Int) : Prop where
  fq : Below w.heap.size w W
  fx : W.cell? ⟨w.heap.size, 0, none⟩ = some (.slice (some ad) N c)
  fk : W.cell? ⟨w.heap.size + 1, 0, none⟩ = some (.int .i64 k)
  ft : W.cell? ⟨w.heap.size + 1, 1, none⟩ = some (.string x)
  fm : W.cell? ⟨w.heap.size + 1, 2, none⟩ = some (.int .i64 m)
  fy : W.cell? ⟨w.heap.size + 1, 3, none⟩ = some (.slice K0 M kc0)
  fp : W.cell? ⟨w.heap.size + 1, 4, none⟩ = some (.int .i64 p)
theorem FrN.next {w W W' : World} {ad : Addr} {N c : Nat} {k : Int} {x : ByteArray} {m : Int} {K0 : Option Addr} {M kc0 : Nat} {p : Int} (h : FrN w W ad N c k x m K0 M kc0 p) (b : Below W.heap.size W W') : FrN w W' ad N c k x m K0 M kc0 p := by
  have key : ∀ {a : Addr} {v : Value}, W.cell? a = some v → W'.cell? a = some v := fun {a v} e => (b.cell (World.block_lt_of_cell? W _ e)).trans e
  exact ⟨h.fq.trans (b.mono h.fq.size), key h.fx, key h.fk, key h.ft, key h.fm, key h.fy, key h.fp⟩
set_option maxRecDepth 100000 in
set_option maxHeartbeats 16000000 in
theorem rFits_any (A : Option Addr) (L : List Nd) (c i : Nat) (w : World) (h : TreeAt w w.heap.size A L) (hc : L.length ≤ c) (hm : c ≤ maxLen) (hL : L.length ≤ 1000000000000) (hi : i < L.length) (hx : (nd L i).x.size ≤ 4000000000) : Calls Tryz.prog 62 #[.agg #[.slice A L.length c], .int .i64 (i : Int)] w fun e w' => e = .returned (.bool (fitsB L i)) ∧ Below w.heap.size w w' := by
  rw [← fits_same]
  have hm2 := Lib.hid hm
  obtain ⟨ad, rfl, hn⟩ := h i hi
  have hb2 := hn.blk
  have hb1 : ad.block < w.heap.size := (by rw [block_add] at hb2; exact hb2)
  obtain ⟨K0, kc0, c0, c1, c2, c3, c4, hK0, hkk, hkm⟩ := node_open hn
  have HTY := Lib.hid (fun hk W (hb : Below w.heap.size w W) => types_any (some ad) L c i W (h.later hb) hc hm hL hi hk)
  have HEX := Lib.hid (fun hk W (hb : Below w.heap.size w W) => exprs_any (some ad) L c i W (h.later hb) hc hm hL hi hk)
  have HDE := Lib.hid (fun hk W (hb : Below w.heap.size w W) => decls_any (some ad) L c i W (h.later hb) hc hm hL hi hk)
  have HST := Lib.hid (fun hk W (hb : Below w.heap.size w W) => stmts_any (some ad) L c i W (h.later hb) hc hm hL hi hk)
  have H := Lib.hid (show (kindK (nd L i).k && saidB (nd L i) && kidsB L (nd L i)) = (kindK (nd L i).k && (textK (nd L i).k (nd L i).x && numK (nd L i).k (nd L i).m) && kidsB L (nd L i)) from rfl)
  rw [H.out]
  clear H
  have HB := Lib.hid (show kidsB L (nd L i) = if (nd L i).k = 2 then (nd L i).ks.all (inL L) else if 80 ≤ (nd L i).k then typesB L (nd L i) else if 10 ≤ (nd L i).k ∧ (nd L i).k ≤ 34 then exprsB L (nd L i) else if (40 ≤ (nd L i).k ∧ (nd L i).k ≤ 52) ∨ (nd L i).k = 66 ∨ (nd L i).k = 67 then declsB L (nd L i) else stmtsB L (nd L i) from rfl)
  rw [HB.out]
  clear HB h hn
  generalize typesB L (nd L i) = rT at *
  generalize exprsB L (nd L i) = rE at *
  generalize declsB L (nd L i) = rD at *
  generalize stmtsB L (nd L i) = rS at *
  generalize nd L i = y at *
  obtain ⟨k, x, m, ks, p⟩ := y
  simp only at c0 c1 c2 c3 c4 hkk hK0 hx HTY HEX HDE HST ⊢
  have HTX := Lib.hid (fun W => texted_any k m p x hx K0 ks.length kc0 W)
  have HNU := Lib.hid (fun W => numbered_any k m p x K0 ks.length kc0 W)
  have hKK := Lib.hid hK0
  clear hK0
  unfold maxLen at hm hkm
  generalize hM : ks.length = M at *
  have HM := Lib.hid hM
  clear hM
  have hkd := Lib.hid (show kindK k = ((decide (1 ≤ k) && decide (k ≤ 3)) || (decide (10 ≤ k) && decide (k ≤ 34)) || (decide (40 ≤ k) && decide (k ≤ 67)) || (decide (80 ≤ k) && decide (k ≤ 87))) from rfl)
  generalize textK k x = rX at *
  generalize numK k m = rN at *
  generalize hR : (kindK k && (rX && rN) && _) = R
  have HR := Lib.hid hR
  clear hR
  go_enter Tryz.func62, Tryz.ntmps62
  go_upto_region 2 with fail
  obtain ⟨wa, hwa⟩ : ∃ wa : World, wa = ((w.alloc (.cells #[.slice (some ad) L.length c] 24)).alloc (.cells #[.int .i64 k, .string x, .int .i64 m, .slice K0 M kc0, .int .i64 p] 37)) := ⟨_, rfl⟩
  have xa : wa.cell? ⟨w.heap.size, 0, none⟩ = some (.slice (some ad) L.length c) := by rw [hwa]; simp [World.cell?_alloc_mark]
  have qa : Below w.heap.size w wa := by rw [hwa]; (exact bl)
  have za := Below.size qa
  have ka : wa.cell? ⟨w.heap.size + 1, 0, none⟩ = some (.int .i64 k) := by rw [hwa]; simp [World.cell?_alloc_mark]
  have ta : wa.cell? ⟨w.heap.size + 1, 1, none⟩ = some (.string x) := by rw [hwa]; simp [World.cell?_alloc_mark]
  have ma : wa.cell? ⟨w.heap.size + 1, 2, none⟩ = some (.int .i64 m) := by rw [hwa]; simp [World.cell?_alloc_mark]
  have ya : wa.cell? ⟨w.heap.size + 1, 3, none⟩ = some (.slice K0 M kc0) := by rw [hwa]; simp [World.cell?_alloc_mark]
  have pa : wa.cell? ⟨w.heap.size + 1, 4, none⟩ = some (.int .i64 p) := by rw [hwa]; simp [World.cell?_alloc_mark]
  rw [← hwa]
  clear hwa c0 c1 c2 c3 c4
  have Fa : FrN w wa ad L.length c k x m K0 M kc0 p := ⟨qa, xa, ka, ta, ma, ya, pa⟩
  cases hk1 : kindK k
  · have hRf : R = false := by rw [← HR.out, hk1]; rfl
    subst hRf
    go_wp2_with (first | (go_at_call 75; (with_reducible refine (rKind_any _ _).mono ?_); rintro e w1 ⟨rfl, b1⟩; have F1 := Fa.next b1; have q1 := F1.fq; have x1 := F1.fx; have k1 := F1.fk; have t1 := F1.ft; have m1 := F1.fm; have y1 := F1.fy; have p1 := F1.fp) | (go_at_call 76; (with_reducible refine (HTX.out _).mono ?_); rintro e w2 ⟨rfl, b2⟩; have F2 := F1.next b2; have q2 := F2.fq; have x2 := F2.fx; have k2 := F2.fk; have t2 := F2.ft; have m2 := F2.fm; have y2 := F2.fy; have p2 := F2.fp) | (go_at_call 77; (with_reducible refine (HNU.out _).mono ?_); rintro e w3 ⟨rfl, b3⟩; have F3 := F2.next b3; have q3 := F3.fq; have x3 := F3.fx; have k3 := F3.fk; have t3 := F3.ft; have m3 := F3.fm; have y3 := F3.fy; have p3 := F3.fp) | (go_at_call 78; (with_reducible refine (HTY.out hty w3 q3).mono ?_); rintro e w4 ⟨rfl, b4⟩; have F4 := F3.next b4; have q4 := F4.fq; have x4 := F4.fx; have k4 := F4.fk; have t4 := F4.ft; have m4 := F4.fm; have y4 := F4.fy; have p4 := F4.fp) | (go_at_call 79; (with_reducible refine (HEX.out hex w3 q3).mono ?_); rintro e w4 ⟨rfl, b4⟩; have F4 := F3.next b4; have q4 := F4.fq; have x4 := F4.fx; have k4 := F4.fk; have t4 := F4.ft; have m4 := F4.fm; have y4 := F4.fy; have p4 := F4.fp) | (go_at_call 80; (with_reducible refine (HDE.out hde w3 q3).mono ?_); rintro e w4 ⟨rfl, b4⟩; have F4 := F3.next b4; have q4 := F4.fq; have x4 := F4.fx; have k4 := F4.fk; have t4 := F4.ft; have m4 := F4.fm; have y4 := F4.fy; have p4 := F4.fp) | (go_at_call 81; (with_reducible refine (HST.out hst w3 q3).mono ?_); rintro e w4 ⟨rfl, b4⟩; have F4 := F3.next b4; have q4 := F4.fq; have x4 := F4.fx; have k4 := F4.fk; have t4 := F4.ft; have m4 := F4.fm; have y4 := F4.fy; have p4 := F4.fp) | fail)
    go_ret
    exact ⟨rfl, q1⟩
  · cases rX
    · have hRf : R = false := by rw [← HR.out]; simp
      subst hRf
      go_wp2_with (first | (go_at_call 75; (with_reducible refine (rKind_any _ _).mono ?_); rintro e w1 ⟨rfl, b1⟩; have F1 := Fa.next b1; have q1 := F1.fq; have x1 := F1.fx; have k1 := F1.fk; have t1 := F1.ft; have m1 := F1.fm; have y1 := F1.fy; have p1 := F1.fp) | (go_at_call 76; (with_reducible refine (HTX.out _).mono ?_); rintro e w2 ⟨rfl, b2⟩; have F2 := F1.next b2; have q2 := F2.fq; have x2 := F2.fx; have k2 := F2.fk; have t2 := F2.ft; have m2 := F2.fm; have y2 := F2.fy; have p2 := F2.fp) | (go_at_call 77; (with_reducible refine (HNU.out _).mono ?_); rintro e w3 ⟨rfl, b3⟩; have F3 := F2.next b3; have q3 := F3.fq; have x3 := F3.fx; have k3 := F3.fk; have t3 := F3.ft; have m3 := F3.fm; have y3 := F3.fy; have p3 := F3.fp) | (go_at_call 78; (with_reducible refine (HTY.out hty w3 q3).mono ?_); rintro e w4 ⟨rfl, b4⟩; have F4 := F3.next b4; have q4 := F4.fq; have x4 := F4.fx; have k4 := F4.fk; have t4 := F4.ft; have m4 := F4.fm; have y4 := F4.fy; have p4 := F4.fp) | (go_at_call 79; (with_reducible refine (HEX.out hex w3 q3).mono ?_); rintro e w4 ⟨rfl, b4⟩; have F4 := F3.next b4; have q4 := F4.fq; have x4 := F4.fx; have k4 := F4.fk; have t4 := F4.ft; have m4 := F4.fm; have y4 := F4.fy; have p4 := F4.fp) | (go_at_call 80; (with_reducible refine (HDE.out hde w3 q3).mono ?_); rintro e w4 ⟨rfl, b4⟩; have F4 := F3.next b4; have q4 := F4.fq; have x4 := F4.fx; have k4 := F4.fk; have t4 := F4.ft; have m4 := F4.fm; have y4 := F4.fy; have p4 := F4.fp) | (go_at_call 81; (with_reducible refine (HST.out hst w3 q3).mono ?_); rintro e w4 ⟨rfl, b4⟩; have F4 := F3.next b4; have q4 := F4.fq; have x4 := F4.fx; have k4 := F4.fk; have t4 := F4.ft; have m4 := F4.fm; have y4 := F4.fy; have p4 := F4.fp) | fail)
      go_ret
      exact ⟨rfl, q2⟩
    · cases rN
      · have hRf : R = false := by rw [← HR.out]; simp
        subst hRf
        go_wp2_with (first | (go_at_call 75; (with_reducible refine (rKind_any _ _).mono ?_); rintro e w1 ⟨rfl, b1⟩; have F1 := Fa.next b1; have q1 := F1.fq; have x1 := F1.fx; have k1 := F1.fk; have t1 := F1.ft; have m1 := F1.fm; have y1 := F1.fy; have p1 := F1.fp) | (go_at_call 76; (with_reducible refine (HTX.out _).mono ?_); rintro e w2 ⟨rfl, b2⟩; have F2 := F1.next b2; have q2 := F2.fq; have x2 := F2.fx; have k2 := F2.fk; have t2 := F2.ft; have m2 := F2.fm; have y2 := F2.fy; have p2 := F2.fp) | (go_at_call 77; (with_reducible refine (HNU.out _).mono ?_); rintro e w3 ⟨rfl, b3⟩; have F3 := F2.next b3; have q3 := F3.fq; have x3 := F3.fx; have k3 := F3.fk; have t3 := F3.ft; have m3 := F3.fm; have y3 := F3.fy; have p3 := F3.fp) | (go_at_call 78; (with_reducible refine (HTY.out hty w3 q3).mono ?_); rintro e w4 ⟨rfl, b4⟩; have F4 := F3.next b4; have q4 := F4.fq; have x4 := F4.fx; have k4 := F4.fk; have t4 := F4.ft; have m4 := F4.fm; have y4 := F4.fy; have p4 := F4.fp) | (go_at_call 79; (with_reducible refine (HEX.out hex w3 q3).mono ?_); rintro e w4 ⟨rfl, b4⟩; have F4 := F3.next b4; have q4 := F4.fq; have x4 := F4.fx; have k4 := F4.fk; have t4 := F4.ft; have m4 := F4.fm; have y4 := F4.fy; have p4 := F4.fp) | (go_at_call 80; (with_reducible refine (HDE.out hde w3 q3).mono ?_); rintro e w4 ⟨rfl, b4⟩; have F4 := F3.next b4; have q4 := F4.fq; have x4 := F4.fx; have k4 := F4.fk; have t4 := F4.ft; have m4 := F4.fm; have y4 := F4.fy; have p4 := F4.fp) | (go_at_call 81; (with_reducible refine (HST.out hst w3 q3).mono ?_); rintro e w4 ⟨rfl, b4⟩; have F4 := F3.next b4; have q4 := F4.fq; have x4 := F4.fx; have k4 := F4.fk; have t4 := F4.ft; have m4 := F4.fm; have y4 := F4.fy; have p4 := F4.fp) | fail)
        go_ret
        exact ⟨rfl, q3⟩
      · have hkc := hkd.out
        rw [hk1] at hkc
        simp at hkc
        have HR2 := HR.out
        rw [hk1, Bool.true_and, Bool.true_and, Bool.true_and] at HR2
        by_cases k2 : k = 2
        · subst k2
          rw [if_pos rfl] at HR2
          have HR3 := Lib.hid HR2
          clear HR HR2
          go_wp2_with (first | (go_at_call 75; (with_reducible refine (rKind_any _ _).mono ?_); rintro e w1 ⟨rfl, b1⟩; have F1 := Fa.next b1; have q1 := F1.fq; have x1 := F1.fx; have k1 := F1.fk; have t1 := F1.ft; have m1 := F1.fm; have y1 := F1.fy; have p1 := F1.fp) | (go_at_call 76; (with_reducible refine (HTX.out _).mono ?_); rintro e w2 ⟨rfl, b2⟩; have F2 := F1.next b2; have q2 := F2.fq; have x2 := F2.fx; have k2 := F2.fk; have t2 := F2.ft; have m2 := F2.fm; have y2 := F2.fy; have p2 := F2.fp) | (go_at_call 77; (with_reducible refine (HNU.out _).mono ?_); rintro e w3 ⟨rfl, b3⟩; have F3 := F2.next b3; have q3 := F3.fq; have x3 := F3.fx; have k3 := F3.fk; have t3 := F3.ft; have m3 := F3.fm; have y3 := F3.fy; have p3 := F3.fp) | (go_at_call 78; (with_reducible refine (HTY.out hty w3 q3).mono ?_); rintro e w4 ⟨rfl, b4⟩; have F4 := F3.next b4; have q4 := F4.fq; have x4 := F4.fx; have k4 := F4.fk; have t4 := F4.ft; have m4 := F4.fm; have y4 := F4.fy; have p4 := F4.fp) | (go_at_call 79; (with_reducible refine (HEX.out hex w3 q3).mono ?_); rintro e w4 ⟨rfl, b4⟩; have F4 := F3.next b4; have q4 := F4.fq; have x4 := F4.fx; have k4 := F4.fk; have t4 := F4.ft; have m4 := F4.fm; have y4 := F4.fy; have p4 := F4.fp) | (go_at_call 80; (with_reducible refine (HDE.out hde w3 q3).mono ?_); rintro e w4 ⟨rfl, b4⟩; have F4 := F3.next b4; have q4 := F4.fq; have x4 := F4.fx; have k4 := F4.fk; have t4 := F4.ft; have m4 := F4.fm; have y4 := F4.fy; have p4 := F4.fp) | (go_at_call 81; (with_reducible refine (HST.out hst w3 q3).mono ?_); rintro e w4 ⟨rfl, b4⟩; have F4 := F3.next b4; have q4 := F4.fq; have x4 := F4.fx; have k4 := F4.fk; have t4 := F4.ft; have m4 := F4.fm; have y4 := F4.fy; have p4 := F4.fp) | fail)
          have l0 := World.block_lt_of_cell? w3 _ x3
          simp only at l0
          have z3 := Below.size q3
          have hKw := Lib.hid (hKK.out.below q3)
          go_loopw [6] (fun t wr => ∃ q : Nat, q ≤ M ∧ t = .int .i64 (q : Int) ∧ Hid ((ks.take q).all (inL L) = true) ∧ ∃ d, wr = w3.drewN d) (fun t _ => M - (intOf t).toNat)
          case atStart => exact ⟨0, Nat.zero_le _, rfl, Lib.hid rfl, 0, rfl⟩
          case round =>
            obtain ⟨q, hq, rfl, HT, d, rfl⟩ := hrel
            by_cases hlt : q < M
            · obtain ⟨kd, hKd, hkb, kcell⟩ := hKw.out q hlt
              subst hKd
              replace kcell : w3.cell? (kd.add q) = some (.int .i64 (ks.getD q 0)) := kcell
              have HY := Lib.hid (fun e => all_take (f := inL L) (by rw [HM.out]; exact hlt) HT.out e)
              have HB := Lib.hid (fun e => all_bad (f := inL L) (l := ks) (j := q) (by rw [HM.out]; exact hlt) e)
              generalize ks.getD q 0 = u at *
              rcases Bool.eq_false_or_eq_true (inL L u) with hu | hu
              · have hu2 := inL_iff.1 hu
                have hd1 : decide (u < 0) = false := decide_eq_false (by omega)
                go_wp2
                go_quiet (fail)
                go_wp2
                exact ⟨⟨q + 1, by omega, by go_num, Lib.hid (HY.out hu), _, rfl⟩, by simp [intOf]; omega⟩
              · have hu2 : ¬ (0 ≤ u ∧ u < L.length) := by rw [← inL_iff, hu]; simp
                have hRf : R = false := by rw [← HR3.out]; exact HB.out hu
                subst hRf
                by_cases hneg : u < 0
                · have hd1 : decide (u < 0) = true := decide_eq_true hneg
                  go_wp2
                  go_quiet (fail)
                  go_wp2
                  go_ret
                  exact ⟨rfl, (by (exact bl))⟩
                · have hd1 : decide (u < 0) = false := decide_eq_false hneg
                  have hge : (L.length : Int) ≤ u := by omega
                  go_wp2
                  go_quiet (fail)
                  go_wp2
                  go_ret
                  exact ⟨rfl, (by (exact bl))⟩
            · obtain rfl : q = M := by omega
              have hRt : R = true := by
                have := HT.out
                rw [← HM.out, List.take_length] at this
                rw [← HR3.out]; exact this
              subst hRt
              go_wp2
              go_ret
              exact ⟨rfl, (by (exact bl))⟩
        · have hk2' : (k == 2) = false := by simpa using k2
          rw [if_neg k2] at HR2
          by_cases k80 : 80 ≤ k
          · have hty : 80 ≤ k ∧ k ≤ 87 := by omega
            rw [if_pos k80] at HR2
            subst HR2
            go_wp2_with (first | (go_at_call 75; (with_reducible refine (rKind_any _ _).mono ?_); rintro e w1 ⟨rfl, b1⟩; have F1 := Fa.next b1; have q1 := F1.fq; have x1 := F1.fx; have k1 := F1.fk; have t1 := F1.ft; have m1 := F1.fm; have y1 := F1.fy; have p1 := F1.fp) | (go_at_call 76; (with_reducible refine (HTX.out _).mono ?_); rintro e w2 ⟨rfl, b2⟩; have F2 := F1.next b2; have q2 := F2.fq; have x2 := F2.fx; have k2 := F2.fk; have t2 := F2.ft; have m2 := F2.fm; have y2 := F2.fy; have p2 := F2.fp) | (go_at_call 77; (with_reducible refine (HNU.out _).mono ?_); rintro e w3 ⟨rfl, b3⟩; have F3 := F2.next b3; have q3 := F3.fq; have x3 := F3.fx; have k3 := F3.fk; have t3 := F3.ft; have m3 := F3.fm; have y3 := F3.fy; have p3 := F3.fp) | (go_at_call 78; (with_reducible refine (HTY.out hty w3 q3).mono ?_); rintro e w4 ⟨rfl, b4⟩; have F4 := F3.next b4; have q4 := F4.fq; have x4 := F4.fx; have k4 := F4.fk; have t4 := F4.ft; have m4 := F4.fm; have y4 := F4.fy; have p4 := F4.fp) | (go_at_call 79; (with_reducible refine (HEX.out hex w3 q3).mono ?_); rintro e w4 ⟨rfl, b4⟩; have F4 := F3.next b4; have q4 := F4.fq; have x4 := F4.fx; have k4 := F4.fk; have t4 := F4.ft; have m4 := F4.fm; have y4 := F4.fy; have p4 := F4.fp) | (go_at_call 80; (with_reducible refine (HDE.out hde w3 q3).mono ?_); rintro e w4 ⟨rfl, b4⟩; have F4 := F3.next b4; have q4 := F4.fq; have x4 := F4.fx; have k4 := F4.fk; have t4 := F4.ft; have m4 := F4.fm; have y4 := F4.fy; have p4 := F4.fp) | (go_at_call 81; (with_reducible refine (HST.out hst w3 q3).mono ?_); rintro e w4 ⟨rfl, b4⟩; have F4 := F3.next b4; have q4 := F4.fq; have x4 := F4.fx; have k4 := F4.fk; have t4 := F4.ft; have m4 := F4.fm; have y4 := F4.fy; have p4 := F4.fp) | fail)
            go_ret
            exact ⟨rfl, q4⟩
          · rw [if_neg k80] at HR2
            by_cases hex : 10 ≤ k ∧ k ≤ 34
            · rw [if_pos hex] at HR2
              subst HR2
              obtain ⟨hex1, hex2⟩ := id hex
              go_wp2_with (first | (go_at_call 75; (with_reducible refine (rKind_any _ _).mono ?_); rintro e w1 ⟨rfl, b1⟩; have F1 := Fa.next b1; have q1 := F1.fq; have x1 := F1.fx; have k1 := F1.fk; have t1 := F1.ft; have m1 := F1.fm; have y1 := F1.fy; have p1 := F1.fp) | (go_at_call 76; (with_reducible refine (HTX.out _).mono ?_); rintro e w2 ⟨rfl, b2⟩; have F2 := F1.next b2; have q2 := F2.fq; have x2 := F2.fx; have k2 := F2.fk; have t2 := F2.ft; have m2 := F2.fm; have y2 := F2.fy; have p2 := F2.fp) | (go_at_call 77; (with_reducible refine (HNU.out _).mono ?_); rintro e w3 ⟨rfl, b3⟩; have F3 := F2.next b3; have q3 := F3.fq; have x3 := F3.fx; have k3 := F3.fk; have t3 := F3.ft; have m3 := F3.fm; have y3 := F3.fy; have p3 := F3.fp) | (go_at_call 78; (with_reducible refine (HTY.out hty w3 q3).mono ?_); rintro e w4 ⟨rfl, b4⟩; have F4 := F3.next b4; have q4 := F4.fq; have x4 := F4.fx; have k4 := F4.fk; have t4 := F4.ft; have m4 := F4.fm; have y4 := F4.fy; have p4 := F4.fp) | (go_at_call 79; (with_reducible refine (HEX.out hex w3 q3).mono ?_); rintro e w4 ⟨rfl, b4⟩; have F4 := F3.next b4; have q4 := F4.fq; have x4 := F4.fx; have k4 := F4.fk; have t4 := F4.ft; have m4 := F4.fm; have y4 := F4.fy; have p4 := F4.fp) | (go_at_call 80; (with_reducible refine (HDE.out hde w3 q3).mono ?_); rintro e w4 ⟨rfl, b4⟩; have F4 := F3.next b4; have q4 := F4.fq; have x4 := F4.fx; have k4 := F4.fk; have t4 := F4.ft; have m4 := F4.fm; have y4 := F4.fy; have p4 := F4.fp) | (go_at_call 81; (with_reducible refine (HST.out hst w3 q3).mono ?_); rintro e w4 ⟨rfl, b4⟩; have F4 := F3.next b4; have q4 := F4.fq; have x4 := F4.fx; have k4 := F4.fk; have t4 := F4.ft; have m4 := F4.fm; have y4 := F4.fy; have p4 := F4.fp) | fail)
              go_ret
              exact ⟨rfl, q4⟩
            · rw [if_neg hex] at HR2
              by_cases hde : (40 ≤ k ∧ k ≤ 52) ∨ k = 66 ∨ k = 67
              · rw [if_pos hde] at HR2
                subst HR2
                by_cases k50 : k = 50
                · subst k50
                  go_wp2_with (first | (go_at_call 75; (with_reducible refine (rKind_any _ _).mono ?_); rintro e w1 ⟨rfl, b1⟩; have F1 := Fa.next b1; have q1 := F1.fq; have x1 := F1.fx; have k1 := F1.fk; have t1 := F1.ft; have m1 := F1.fm; have y1 := F1.fy; have p1 := F1.fp) | (go_at_call 76; (with_reducible refine (HTX.out _).mono ?_); rintro e w2 ⟨rfl, b2⟩; have F2 := F1.next b2; have q2 := F2.fq; have x2 := F2.fx; have k2 := F2.fk; have t2 := F2.ft; have m2 := F2.fm; have y2 := F2.fy; have p2 := F2.fp) | (go_at_call 77; (with_reducible refine (HNU.out _).mono ?_); rintro e w3 ⟨rfl, b3⟩; have F3 := F2.next b3; have q3 := F3.fq; have x3 := F3.fx; have k3 := F3.fk; have t3 := F3.ft; have m3 := F3.fm; have y3 := F3.fy; have p3 := F3.fp) | (go_at_call 78; (with_reducible refine (HTY.out hty w3 q3).mono ?_); rintro e w4 ⟨rfl, b4⟩; have F4 := F3.next b4; have q4 := F4.fq; have x4 := F4.fx; have k4 := F4.fk; have t4 := F4.ft; have m4 := F4.fm; have y4 := F4.fy; have p4 := F4.fp) | (go_at_call 79; (with_reducible refine (HEX.out hex w3 q3).mono ?_); rintro e w4 ⟨rfl, b4⟩; have F4 := F3.next b4; have q4 := F4.fq; have x4 := F4.fx; have k4 := F4.fk; have t4 := F4.ft; have m4 := F4.fm; have y4 := F4.fy; have p4 := F4.fp) | (go_at_call 80; (with_reducible refine (HDE.out hde w3 q3).mono ?_); rintro e w4 ⟨rfl, b4⟩; have F4 := F3.next b4; have q4 := F4.fq; have x4 := F4.fx; have k4 := F4.fk; have t4 := F4.ft; have m4 := F4.fm; have y4 := F4.fy; have p4 := F4.fp) | (go_at_call 81; (with_reducible refine (HST.out hst w3 q3).mono ?_); rintro e w4 ⟨rfl, b4⟩; have F4 := F3.next b4; have q4 := F4.fq; have x4 := F4.fx; have k4 := F4.fk; have t4 := F4.ft; have m4 := F4.fm; have y4 := F4.fy; have p4 := F4.fp) | fail)
                  go_ret
                  exact ⟨rfl, q4⟩
                · have k50' : (k == 50) = false := by simpa using k50
                  by_cases k66 : k = 66
                  · subst k66
                    go_wp2_with (first | (go_at_call 75; (with_reducible refine (rKind_any _ _).mono ?_); rintro e w1 ⟨rfl, b1⟩; have F1 := Fa.next b1; have q1 := F1.fq; have x1 := F1.fx; have k1 := F1.fk; have t1 := F1.ft; have m1 := F1.fm; have y1 := F1.fy; have p1 := F1.fp) | (go_at_call 76; (with_reducible refine (HTX.out _).mono ?_); rintro e w2 ⟨rfl, b2⟩; have F2 := F1.next b2; have q2 := F2.fq; have x2 := F2.fx; have k2 := F2.fk; have t2 := F2.ft; have m2 := F2.fm; have y2 := F2.fy; have p2 := F2.fp) | (go_at_call 77; (with_reducible refine (HNU.out _).mono ?_); rintro e w3 ⟨rfl, b3⟩; have F3 := F2.next b3; have q3 := F3.fq; have x3 := F3.fx; have k3 := F3.fk; have t3 := F3.ft; have m3 := F3.fm; have y3 := F3.fy; have p3 := F3.fp) | (go_at_call 78; (with_reducible refine (HTY.out hty w3 q3).mono ?_); rintro e w4 ⟨rfl, b4⟩; have F4 := F3.next b4; have q4 := F4.fq; have x4 := F4.fx; have k4 := F4.fk; have t4 := F4.ft; have m4 := F4.fm; have y4 := F4.fy; have p4 := F4.fp) | (go_at_call 79; (with_reducible refine (HEX.out hex w3 q3).mono ?_); rintro e w4 ⟨rfl, b4⟩; have F4 := F3.next b4; have q4 := F4.fq; have x4 := F4.fx; have k4 := F4.fk; have t4 := F4.ft; have m4 := F4.fm; have y4 := F4.fy; have p4 := F4.fp) | (go_at_call 80; (with_reducible refine (HDE.out hde w3 q3).mono ?_); rintro e w4 ⟨rfl, b4⟩; have F4 := F3.next b4; have q4 := F4.fq; have x4 := F4.fx; have k4 := F4.fk; have t4 := F4.ft; have m4 := F4.fm; have y4 := F4.fy; have p4 := F4.fp) | (go_at_call 81; (with_reducible refine (HST.out hst w3 q3).mono ?_); rintro e w4 ⟨rfl, b4⟩; have F4 := F3.next b4; have q4 := F4.fq; have x4 := F4.fx; have k4 := F4.fk; have t4 := F4.ft; have m4 := F4.fm; have y4 := F4.fy; have p4 := F4.fp) | fail)
                    go_ret
                    exact ⟨rfl, q4⟩
                  · by_cases k67 : k = 67
                    · subst k67
                      go_wp2_with (first | (go_at_call 75; (with_reducible refine (rKind_any _ _).mono ?_); rintro e w1 ⟨rfl, b1⟩; have F1 := Fa.next b1; have q1 := F1.fq; have x1 := F1.fx; have k1 := F1.fk; have t1 := F1.ft; have m1 := F1.fm; have y1 := F1.fy; have p1 := F1.fp) | (go_at_call 76; (with_reducible refine (HTX.out _).mono ?_); rintro e w2 ⟨rfl, b2⟩; have F2 := F1.next b2; have q2 := F2.fq; have x2 := F2.fx; have k2 := F2.fk; have t2 := F2.ft; have m2 := F2.fm; have y2 := F2.fy; have p2 := F2.fp) | (go_at_call 77; (with_reducible refine (HNU.out _).mono ?_); rintro e w3 ⟨rfl, b3⟩; have F3 := F2.next b3; have q3 := F3.fq; have x3 := F3.fx; have k3 := F3.fk; have t3 := F3.ft; have m3 := F3.fm; have y3 := F3.fy; have p3 := F3.fp) | (go_at_call 78; (with_reducible refine (HTY.out hty w3 q3).mono ?_); rintro e w4 ⟨rfl, b4⟩; have F4 := F3.next b4; have q4 := F4.fq; have x4 := F4.fx; have k4 := F4.fk; have t4 := F4.ft; have m4 := F4.fm; have y4 := F4.fy; have p4 := F4.fp) | (go_at_call 79; (with_reducible refine (HEX.out hex w3 q3).mono ?_); rintro e w4 ⟨rfl, b4⟩; have F4 := F3.next b4; have q4 := F4.fq; have x4 := F4.fx; have k4 := F4.fk; have t4 := F4.ft; have m4 := F4.fm; have y4 := F4.fy; have p4 := F4.fp) | (go_at_call 80; (with_reducible refine (HDE.out hde w3 q3).mono ?_); rintro e w4 ⟨rfl, b4⟩; have F4 := F3.next b4; have q4 := F4.fq; have x4 := F4.fx; have k4 := F4.fk; have t4 := F4.ft; have m4 := F4.fm; have y4 := F4.fy; have p4 := F4.fp) | (go_at_call 81; (with_reducible refine (HST.out hst w3 q3).mono ?_); rintro e w4 ⟨rfl, b4⟩; have F4 := F3.next b4; have q4 := F4.fq; have x4 := F4.fx; have k4 := F4.fk; have t4 := F4.ft; have m4 := F4.fm; have y4 := F4.fy; have p4 := F4.fp) | fail)
                      go_ret
                      exact ⟨rfl, q4⟩
                    · have hr1 : 40 ≤ k ∧ k ≤ 52 := by omega
                      obtain ⟨hr2, hr3⟩ := hr1
                      have k50'' : (k != 50) = true := by simpa using k50
                      have k66' : (k == 66) = false := by simpa using k66
                      have k67' : (k == 67) = false := by simpa using k67
                      go_wp2_with (first | (go_at_call 75; (with_reducible refine (rKind_any _ _).mono ?_); rintro e w1 ⟨rfl, b1⟩; have F1 := Fa.next b1; have q1 := F1.fq; have x1 := F1.fx; have k1 := F1.fk; have t1 := F1.ft; have m1 := F1.fm; have y1 := F1.fy; have p1 := F1.fp) | (go_at_call 76; (with_reducible refine (HTX.out _).mono ?_); rintro e w2 ⟨rfl, b2⟩; have F2 := F1.next b2; have q2 := F2.fq; have x2 := F2.fx; have k2 := F2.fk; have t2 := F2.ft; have m2 := F2.fm; have y2 := F2.fy; have p2 := F2.fp) | (go_at_call 77; (with_reducible refine (HNU.out _).mono ?_); rintro e w3 ⟨rfl, b3⟩; have F3 := F2.next b3; have q3 := F3.fq; have x3 := F3.fx; have k3 := F3.fk; have t3 := F3.ft; have m3 := F3.fm; have y3 := F3.fy; have p3 := F3.fp) | (go_at_call 78; (with_reducible refine (HTY.out hty w3 q3).mono ?_); rintro e w4 ⟨rfl, b4⟩; have F4 := F3.next b4; have q4 := F4.fq; have x4 := F4.fx; have k4 := F4.fk; have t4 := F4.ft; have m4 := F4.fm; have y4 := F4.fy; have p4 := F4.fp) | (go_at_call 79; (with_reducible refine (HEX.out hex w3 q3).mono ?_); rintro e w4 ⟨rfl, b4⟩; have F4 := F3.next b4; have q4 := F4.fq; have x4 := F4.fx; have k4 := F4.fk; have t4 := F4.ft; have m4 := F4.fm; have y4 := F4.fy; have p4 := F4.fp) | (go_at_call 80; (with_reducible refine (HDE.out hde w3 q3).mono ?_); rintro e w4 ⟨rfl, b4⟩; have F4 := F3.next b4; have q4 := F4.fq; have x4 := F4.fx; have k4 := F4.fk; have t4 := F4.ft; have m4 := F4.fm; have y4 := F4.fy; have p4 := F4.fp) | (go_at_call 81; (with_reducible refine (HST.out hst w3 q3).mono ?_); rintro e w4 ⟨rfl, b4⟩; have F4 := F3.next b4; have q4 := F4.fq; have x4 := F4.fx; have k4 := F4.fk; have t4 := F4.ft; have m4 := F4.fm; have y4 := F4.fy; have p4 := F4.fp) | fail)
                      go_ret
                      exact ⟨rfl, q4⟩
              · rw [if_neg hde] at HR2
                subst HR2
                have hst : k = 1 ∨ k = 3 ∨ (53 ≤ k ∧ k ≤ 65) := by omega
                by_cases k1 : k = 1
                · subst k1
                  go_wp2_with (first | (go_at_call 75; (with_reducible refine (rKind_any _ _).mono ?_); rintro e w1 ⟨rfl, b1⟩; have F1 := Fa.next b1; have q1 := F1.fq; have x1 := F1.fx; have k1 := F1.fk; have t1 := F1.ft; have m1 := F1.fm; have y1 := F1.fy; have p1 := F1.fp) | (go_at_call 76; (with_reducible refine (HTX.out _).mono ?_); rintro e w2 ⟨rfl, b2⟩; have F2 := F1.next b2; have q2 := F2.fq; have x2 := F2.fx; have k2 := F2.fk; have t2 := F2.ft; have m2 := F2.fm; have y2 := F2.fy; have p2 := F2.fp) | (go_at_call 77; (with_reducible refine (HNU.out _).mono ?_); rintro e w3 ⟨rfl, b3⟩; have F3 := F2.next b3; have q3 := F3.fq; have x3 := F3.fx; have k3 := F3.fk; have t3 := F3.ft; have m3 := F3.fm; have y3 := F3.fy; have p3 := F3.fp) | (go_at_call 78; (with_reducible refine (HTY.out hty w3 q3).mono ?_); rintro e w4 ⟨rfl, b4⟩; have F4 := F3.next b4; have q4 := F4.fq; have x4 := F4.fx; have k4 := F4.fk; have t4 := F4.ft; have m4 := F4.fm; have y4 := F4.fy; have p4 := F4.fp) | (go_at_call 79; (with_reducible refine (HEX.out hex w3 q3).mono ?_); rintro e w4 ⟨rfl, b4⟩; have F4 := F3.next b4; have q4 := F4.fq; have x4 := F4.fx; have k4 := F4.fk; have t4 := F4.ft; have m4 := F4.fm; have y4 := F4.fy; have p4 := F4.fp) | (go_at_call 80; (with_reducible refine (HDE.out hde w3 q3).mono ?_); rintro e w4 ⟨rfl, b4⟩; have F4 := F3.next b4; have q4 := F4.fq; have x4 := F4.fx; have k4 := F4.fk; have t4 := F4.ft; have m4 := F4.fm; have y4 := F4.fy; have p4 := F4.fp) | (go_at_call 81; (with_reducible refine (HST.out hst w3 q3).mono ?_); rintro e w4 ⟨rfl, b4⟩; have F4 := F3.next b4; have q4 := F4.fq; have x4 := F4.fx; have k4 := F4.fk; have t4 := F4.ft; have m4 := F4.fm; have y4 := F4.fy; have p4 := F4.fp) | fail)
                  go_ret
                  exact ⟨rfl, q4⟩
                · by_cases k3 : k = 3
                  · subst k3
                    go_wp2_with (first | (go_at_call 75; (with_reducible refine (rKind_any _ _).mono ?_); rintro e w1 ⟨rfl, b1⟩; have F1 := Fa.next b1; have q1 := F1.fq; have x1 := F1.fx; have k1 := F1.fk; have t1 := F1.ft; have m1 := F1.fm; have y1 := F1.fy; have p1 := F1.fp) | (go_at_call 76; (with_reducible refine (HTX.out _).mono ?_); rintro e w2 ⟨rfl, b2⟩; have F2 := F1.next b2; have q2 := F2.fq; have x2 := F2.fx; have k2 := F2.fk; have t2 := F2.ft; have m2 := F2.fm; have y2 := F2.fy; have p2 := F2.fp) | (go_at_call 77; (with_reducible refine (HNU.out _).mono ?_); rintro e w3 ⟨rfl, b3⟩; have F3 := F2.next b3; have q3 := F3.fq; have x3 := F3.fx; have k3 := F3.fk; have t3 := F3.ft; have m3 := F3.fm; have y3 := F3.fy; have p3 := F3.fp) | (go_at_call 78; (with_reducible refine (HTY.out hty w3 q3).mono ?_); rintro e w4 ⟨rfl, b4⟩; have F4 := F3.next b4; have q4 := F4.fq; have x4 := F4.fx; have k4 := F4.fk; have t4 := F4.ft; have m4 := F4.fm; have y4 := F4.fy; have p4 := F4.fp) | (go_at_call 79; (with_reducible refine (HEX.out hex w3 q3).mono ?_); rintro e w4 ⟨rfl, b4⟩; have F4 := F3.next b4; have q4 := F4.fq; have x4 := F4.fx; have k4 := F4.fk; have t4 := F4.ft; have m4 := F4.fm; have y4 := F4.fy; have p4 := F4.fp) | (go_at_call 80; (with_reducible refine (HDE.out hde w3 q3).mono ?_); rintro e w4 ⟨rfl, b4⟩; have F4 := F3.next b4; have q4 := F4.fq; have x4 := F4.fx; have k4 := F4.fk; have t4 := F4.ft; have m4 := F4.fm; have y4 := F4.fy; have p4 := F4.fp) | (go_at_call 81; (with_reducible refine (HST.out hst w3 q3).mono ?_); rintro e w4 ⟨rfl, b4⟩; have F4 := F3.next b4; have q4 := F4.fq; have x4 := F4.fx; have k4 := F4.fk; have t4 := F4.ft; have m4 := F4.fm; have y4 := F4.fy; have p4 := F4.fp) | fail)
                    go_ret
                    exact ⟨rfl, q4⟩
                  · have hr1 : 53 ≤ k ∧ k ≤ 65 := by omega
                    obtain ⟨hr2, hr3⟩ := hr1
                    have k50' : (k == 50) = false := by simp; omega
                    have k66' : (k == 66) = false := by simp; omega
                    have k67' : (k == 67) = false := by simp; omega
                    go_wp2_with (first | (go_at_call 75; (with_reducible refine (rKind_any _ _).mono ?_); rintro e w1 ⟨rfl, b1⟩; have F1 := Fa.next b1; have q1 := F1.fq; have x1 := F1.fx; have k1 := F1.fk; have t1 := F1.ft; have m1 := F1.fm; have y1 := F1.fy; have p1 := F1.fp) | (go_at_call 76; (with_reducible refine (HTX.out _).mono ?_); rintro e w2 ⟨rfl, b2⟩; have F2 := F1.next b2; have q2 := F2.fq; have x2 := F2.fx; have k2 := F2.fk; have t2 := F2.ft; have m2 := F2.fm; have y2 := F2.fy; have p2 := F2.fp) | (go_at_call 77; (with_reducible refine (HNU.out _).mono ?_); rintro e w3 ⟨rfl, b3⟩; have F3 := F2.next b3; have q3 := F3.fq; have x3 := F3.fx; have k3 := F3.fk; have t3 := F3.ft; have m3 := F3.fm; have y3 := F3.fy; have p3 := F3.fp) | (go_at_call 78; (with_reducible refine (HTY.out hty w3 q3).mono ?_); rintro e w4 ⟨rfl, b4⟩; have F4 := F3.next b4; have q4 := F4.fq; have x4 := F4.fx; have k4 := F4.fk; have t4 := F4.ft; have m4 := F4.fm; have y4 := F4.fy; have p4 := F4.fp) | (go_at_call 79; (with_reducible refine (HEX.out hex w3 q3).mono ?_); rintro e w4 ⟨rfl, b4⟩; have F4 := F3.next b4; have q4 := F4.fq; have x4 := F4.fx; have k4 := F4.fk; have t4 := F4.ft; have m4 := F4.fm; have y4 := F4.fy; have p4 := F4.fp) | (go_at_call 80; (with_reducible refine (HDE.out hde w3 q3).mono ?_); rintro e w4 ⟨rfl, b4⟩; have F4 := F3.next b4; have q4 := F4.fq; have x4 := F4.fx; have k4 := F4.fk; have t4 := F4.ft; have m4 := F4.fm; have y4 := F4.fy; have p4 := F4.fp) | (go_at_call 81; (with_reducible refine (HST.out hst w3 q3).mono ?_); rintro e w4 ⟨rfl, b4⟩; have F4 := F3.next b4; have q4 := F4.fq; have x4 := F4.fx; have k4 := F4.fk; have t4 := F4.ft; have m4 := F4.fm; have y4 := F4.fy; have p4 := F4.fp) | fail)
                    go_ret
                    exact ⟨rfl, q4⟩
end Go.Proofs.YtpkdhciokiomlaaGreatDoor
