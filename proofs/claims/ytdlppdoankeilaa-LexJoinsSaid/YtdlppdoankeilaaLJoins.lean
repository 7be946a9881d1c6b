/- The walk of LexJoins. -/
import Derived.Test.YtdlppdoankeilaaLaw3
namespace Go.Proofs.Ytdlppdoankeilaa
set_option linter.unusedVariables false
set_option linter.unusedSimpArgs false
set_option linter.unnecessarySimpa false
open Go.RowKit
attribute [local go_sem] cell_alloc_add cell_set_add lt_more
theorem Mx.pos {w : World} (hm : Mx w) : 0 < w.heap.size := by obtain ⟨y, hy⟩ := hm; exact Nat.lt_of_le_of_lt (Nat.zero_le _) (World.block_lt_of_cell? w ⟨0, 0, none⟩ hy)
theorem toks_last (s : ByteArray) : ∀ (l : List Tok) (i : Nat) (holes : List Bool), i ≤ s.size → toks s i holes = (l, none) → ∃ pre, l = pre ++ [endT s.size] := by
  intro l
  induction l with
  | nil =>
    intro i holes hi h
    exfalso
    cases e : skip s i with
    | mk j ok =>
      cases ok with
      | false => rw [toks_rem e] at h; cases h
      | true =>
        by_cases hj : j < s.size
        · cases ht : tokAt s j holes with
          | none => rw [toks_bad e hj ht] at h; cases h
          | some p => rw [toks_step (t := p.1) (h' := p.2) hi e hj ht] at h; injection h with h _; cases h
        · rw [toks_end e hj] at h; injection h with h _; cases h
  | cons t rest ih =>
    intro i holes hi h
    obtain ⟨p1, p2, p3, p4, p5⟩ := gap_step h hi
    rcases p5 with ⟨rfl, rfl⟩ | ⟨_, _, hh, _, h2⟩
    · exact ⟨[], rfl⟩
    · obtain ⟨pre, rfl⟩ := ih t.hi hh p3 h2
      exact ⟨t :: pre, rfl⟩
/-- Two texts, a line's end between. -/
def joinB (a b : ByteArray) : ByteArray := (a ++ ⟨#[10]⟩) ++ b
theorem joinB_size (a b : ByteArray) : (joinB a b).size = a.size + 1 + b.size := by
  unfold joinB; rw [size_app, size_app]; rfl
theorem joinB_at (a b : ByteArray) {j : Nat} (h : j < a.size + 1 + b.size) : bt (joinB a b) j = if j < a.size then bt a j else if j = a.size then 10 else bt b (j - (a.size + 1)) := by
  have hz : (a ++ ⟨#[10]⟩ : ByteArray).size = a.size + 1 := by rw [size_app]; rfl
  unfold joinB
  rw [bt_app _ _ _ (by rw [hz]; exact h), hz]
  by_cases h1 : j < a.size + 1
  · rw [if_pos h1, bt_app _ _ _ (by show j < a.size + 1; exact h1)]
    by_cases h2 : j < a.size
    · rw [if_pos h2, if_pos h2]
    · rw [if_neg h2, if_neg h2, if_pos (by omega), show j - a.size = 0 by omega]; rfl
  · rw [if_neg h1, if_neg (by omega), if_neg (by omega)]
theorem join_xs (a b : ByteArray) (j : Nat) (hj : j < a.size + 1 + b.size) : ((#[] : Array Value).toList ++ firsts (byteC a) a.size ++ firsts (fun _ => Value.int .u8 10) 1 ++ firsts (byteC b) b.size)[j]? = some (byteC (joinB a b) j) := by
  have hl : (firsts (byteC a) a.size).length = a.size := firsts_len _ _
  have h1 : firsts (fun _ => Value.int .u8 10) 1 = [Value.int .u8 10] := rfl
  rw [h1]
  simp only [List.nil_append]
  rw [show byteC (joinB a b) j = .int .u8 (bt (joinB a b) j : Int) from rfl, joinB_at a b hj]
  by_cases h2 : j < a.size
  · rw [if_pos h2, List.getElem?_append_left (by simp [hl]; omega), List.getElem?_append_left (by omega), firsts_at h2]; rfl
  · by_cases h3 : j = a.size
    · subst h3
      rw [if_neg h2, if_pos rfl, List.getElem?_append_left (by simp [hl]), List.getElem?_append_right (by omega), hl, Nat.sub_self]; rfl
    · rw [if_neg h2, if_neg h3, List.getElem?_append_right (by simp [hl]; omega)]
      simp only [List.length_append, hl, List.length_cons, List.length_nil, Nat.zero_add]
      rw [firsts_at (by omega)]; rfl
theorem join_toks {a b : ByteArray} {pre M : List Tok} (ha : toks a 0 [] = (pre ++ [endT a.size], none)) (hp : ∀ x ∈ pre, x.kind ≠ 6 ∧ x.text ≠ ⟨#[123]⟩) (hb : toks b 0 [] = (M, none)) :
    toks (joinB a b) 0 [] = (pre ++ M.map (shiftT (a.size + 1)), none) := by
  have hz := joinB_size a b
  refine joins_law ⟨by omega, by omega, fun k hk => ?_⟩ ?_ ⟨by rw [hz]; omega, fun k _ hk => ?_⟩ ha rfl hp hb
  · rw [Nat.zero_add, joinB_at a b (by omega), if_pos hk]
  · rw [joinB_at a b (by omega), if_neg (by omega), if_pos rfl]
  · rw [joinB_at a b (by omega), if_neg (by omega), if_neg (by omega), Nat.add_sub_cancel]
theorem text_is {x : ByteArray} {c : UInt8} (h : (x.toList == [c]) = false) : x ≠ ⟨#[c]⟩ := by
  rintro rfl
  rw [Lib.toList_data] at h
  simp at h
set_option maxRecDepth 100000 in
set_option maxHeartbeats 8000000 in
theorem LexJoins_any (a : ByteArray) (A : Option Addr) (ca : Nat) (hs : a.size ≤ 140737488351232) (hcap : a.size ≤ ca) (b : ByteArray) (A2 : Option Addr) (cb : Nat) (hs2 : b.size ≤ 140737488351232) (hcap2 : b.size ≤ cb) (w : World) (hm : Mx w) (h : Rd w w.heap.size A a.size (byteC a)) (h2 : Rd w w.heap.size A2 b.size (byteC b)) :
    Calls Try.prog 7 #[.slice A a.size ca, .slice A2 b.size cb] w fun e w' => e = .returned (.bool true) ∧ Below w.heap.size w w' := by
  have h0 := hm.pos
  by_cases h15 : a.size + b.size ≤ 1496
  · have h15' : ((a.size : Int) + (b.size : Int) > 1496) = False := by simp; omega
    have HA := Lib.hid (Tokens_any a A ca (by omega) w hm h)
    have HB := Lib.hid (fun W (hb : Below w.heap.size w W) => Tokens_any b A2 cb (by omega) W (hm.below hb h0) ((h2.below hb).more hb.size))
    have HK := Lib.hid (fun W (hb : Below w.heap.size w W) => known_any W (hm.below hb h0))
    obtain ⟨La, hLa⟩ : ∃ La, La = tokL a := ⟨_, rfl⟩
    obtain ⟨pa, hpa⟩ : ∃ pa, pa = (tokR a).2.1 := ⟨_, rfl⟩
    obtain ⟨fa, hfa⟩ : ∃ fa, fa = (tokR a).2.2 := ⟨_, rfl⟩
    obtain ⟨M, hM⟩ : ∃ M, M = tokL b := ⟨_, rfl⟩
    obtain ⟨pb, hpb⟩ : ∃ pb, pb = (tokR b).2.1 := ⟨_, rfl⟩
    obtain ⟨fb, hfb⟩ : ∃ fb, fb = (tokR b).2.2 := ⟨_, rfl⟩
    rw [← hLa, ← hpa, ← hfa] at HA
    rw [← hM, ← hpb, ← hfb] at HB
    by_cases ha0 : fa = 0
    · have hTa := (tokR_inv (s := a) (by omega) (hfa.symm.trans ha0)).1
      have hLen := toks_len a _ 0 [] (Nat.le_refl _) (Nat.zero_le _)
      rw [hTa] at hLen
      rw [← hLa] at hTa hLen
      simp only at hLen
      clear hLa hpa hfa
      obtain ⟨pre, rfl⟩ := toks_last a La 0 [] (Nat.zero_le _) hTa
      subst ha0
      simp only [cast0] at HA
      by_cases hb0 : fb = 0
      · have hTb := (tokR_inv (s := b) (by omega) (hfb.symm.trans hb0)).1
        have hLenb := toks_len b _ 0 [] (Nat.le_refl _) (Nat.zero_le _)
        rw [hTb] at hLenb
        rw [← hM] at hTb hLenb
        simp only at hLenb
        clear hM hpb hfb
        obtain ⟨preb, hpreb⟩ := toks_last b M 0 [] (Nat.zero_le _) hTb
        have hMn : ((M.length : Int) == 0) = false := by rw [hpreb]; simp; omega
        have hLn : (((pre ++ [endT a.size]).length : Int) == 0) = false := by simp; omega
        subst hb0
        simp only [cast0] at HB
        clear hpreb
        have HTa := Lib.hid hTa
        have HTb := Lib.hid hTb
        clear hTa hTb
        obtain ⟨La, hLa⟩ : ∃ La, La = pre ++ [endT a.size] := ⟨_, rfl⟩
        rw [← hLa] at HA hLn hLen
        have HL := Lib.hid hLa
        have hLK : La.length = pre.length + 1 := by rw [hLa]; simp
        clear hLa
        go_enter Try.func7, Try.ntmps7
        go_wp2_with (first
          | (go_at_call 11; (with_reducible refine HA.out.mono ?_); rintro e w1 ⟨⟨v1, rfl, ho1⟩, b1⟩; have z1 := Below.size b1; obtain ⟨Al, cl, rfl, hcl, ht1, hob1⟩ := own_trd ho1)
          | (go_at_call 11; (with_reducible refine (HB.out w1 b1).mono ?_); rintro e w2 ⟨⟨v2, rfl, ho2⟩, b2⟩; have z2 := Below.size b2; obtain ⟨Am, cm, rfl, hcm, ht2, hob2⟩ := own_trd ho2))
        clear ho1 hob1 ho2 hob2 HA HB
        go_loopw [11, 12] (fun vo vi wr => ∃ (m n : Nat), m ≤ La.length ∧ n ≤ m ∧ vo = .int .i64 (n : Int) ∧ vi = .int .i64 (m : Int) ∧ (n = 0 → ∀ i x, i < m → La[i]? = some x → x.kind ≠ 6 ∧ x.text ≠ ⟨#[123]⟩) ∧ Below w2.heap.size w2 wr) (fun _ i _ => La.length - (intOf i).toNat)
        case atStart => exact ⟨0, 0, Nat.zero_le _, Nat.le_refl _, rfl, rfl, fun _ i x hi _ => absurd hi (by omega), Below.refl _ _⟩
        case round =>
          obtain ⟨m, n, hm1, hnm, rfl, rfl, hno, hb⟩ := hrel
          have hz := hb.size
          by_cases hlt : m < La.length
          · obtain ⟨g, rfl, hg, ⟨q0, q1, q2, q3⟩⟩ := ((ht1.below b2).below (hb.mono z2)) m _ (tok_at hlt)
            have hat := tok_at hlt
            obtain ⟨⟨tk, tx, tl, th⟩, htt⟩ : ∃ t, t = La[m] := ⟨_, rfl⟩
            rw [← htt] at q0 q1 q2 q3 hat
            clear htt
            simp only at q0 q1 q2 q3
            have HN := Lib.hid hno
            have HAT := Lib.hid hat
            clear hno hat
            by_cases k6 : tk = 6
            · subst k6
              go_wp2; exact ⟨⟨m + 1, n + 1, by omega, by omega, by go_num, by go_num, fun hn => absurd hn (by omega), (by (repeat (first | (with_reducible exact Below.refl _ _) | (with_reducible assumption) | (with_reducible refine Below.setCell ?_ (by first | omega | (simp <;> omega)) _) | (with_reducible refine Below.alloc ?_ (by first | omega | (simp <;> omega)) _) | (with_reducible refine Below.drew ?_) | (with_reducible refine below_drewN ?_ _) | (with_reducible refine Below.trans ?_ (Below.mono (by with_reducible assumption) (by first | omega | (simp <;> omega)))))))⟩, by simp [intOf]; omega⟩
            · have k6' : (tk == 6) = false := by simpa using k6
              by_cases k8 : tk = 8
              · subst k8
                go_wp2; exact ⟨⟨m + 1, n + 1, by omega, by omega, by go_num, by go_num, fun hn => absurd hn (by omega), (by (repeat (first | (with_reducible exact Below.refl _ _) | (with_reducible assumption) | (with_reducible refine Below.setCell ?_ (by first | omega | (simp <;> omega)) _) | (with_reducible refine Below.alloc ?_ (by first | omega | (simp <;> omega)) _) | (with_reducible refine Below.drew ?_) | (with_reducible refine below_drewN ?_ _) | (with_reducible refine Below.trans ?_ (Below.mono (by with_reducible assumption) (by first | omega | (simp <;> omega)))))))⟩, by simp [intOf]; omega⟩
              · have k8' : (tk == 8) = false := by simpa using k8
                cases e1 : (tx.toList == [123]) with
                | true =>
                  go_wp2; exact ⟨⟨m + 1, n + 1, by omega, by omega, by go_num, by go_num, fun hn => absurd hn (by omega), (by (repeat (first | (with_reducible exact Below.refl _ _) | (with_reducible assumption) | (with_reducible refine Below.setCell ?_ (by first | omega | (simp <;> omega)) _) | (with_reducible refine Below.alloc ?_ (by first | omega | (simp <;> omega)) _) | (with_reducible refine Below.drew ?_) | (with_reducible refine below_drewN ?_ _) | (with_reducible refine Below.trans ?_ (Below.mono (by with_reducible assumption) (by first | omega | (simp <;> omega)))))))⟩, by simp [intOf]; omega⟩
                | false =>
                  cases e2 : (tx.toList == [125]) with
                  | true =>
                    go_wp2; exact ⟨⟨m + 1, n + 1, by omega, by omega, by go_num, by go_num, fun hn => absurd hn (by omega), (by (repeat (first | (with_reducible exact Below.refl _ _) | (with_reducible assumption) | (with_reducible refine Below.setCell ?_ (by first | omega | (simp <;> omega)) _) | (with_reducible refine Below.alloc ?_ (by first | omega | (simp <;> omega)) _) | (with_reducible refine Below.drew ?_) | (with_reducible refine below_drewN ?_ _) | (with_reducible refine Below.trans ?_ (Below.mono (by with_reducible assumption) (by first | omega | (simp <;> omega)))))))⟩, by simp [intOf]; omega⟩
                  | false =>
                    go_wp2
                    refine ⟨⟨m + 1, n, by omega, by omega, rfl, by go_num, fun hn i x hi hx => ?_, (by (repeat (first | (with_reducible exact Below.refl _ _) | (with_reducible assumption) | (with_reducible refine Below.setCell ?_ (by first | omega | (simp <;> omega)) _) | (with_reducible refine Below.alloc ?_ (by first | omega | (simp <;> omega)) _) | (with_reducible refine Below.drew ?_) | (with_reducible refine below_drewN ?_ _) | (with_reducible refine Below.trans ?_ (Below.mono (by with_reducible assumption) (by first | omega | (simp <;> omega)))))))⟩, by simp [intOf]; omega⟩
                    by_cases him : i = m
                    · subst him
                      rw [HAT.out] at hx
                      injection hx with hx
                      rw [← hx]
                      exact ⟨k6, text_is e1⟩
                    · exact HN.out hn i x (by omega) hx
          · obtain rfl : m = La.length := by omega
            by_cases hn0 : n = 0
            · subst hn0
              have hbw : Below w.heap.size w wr := (b1.trans (b2.mono z1)).trans (hb.mono (by omega))
              have hra := (h.below hbw).more hbw.size
              have hrb := (h2.below hbw).more hbw.size
              have hp : ∀ x ∈ pre, x.kind ≠ 6 ∧ x.text ≠ ⟨#[123]⟩ := fun x hx => by
                obtain ⟨i, hi⟩ := List.mem_iff_getElem?.1 hx
                have hil : i < pre.length := (List.getElem?_eq_some_iff.1 hi).1
                exact hno rfl i x (by omega) (by rw [HL.out, List.getElem?_append_left hil]; exact hi)
              have HTU := join_toks HTa.out hp HTb.out
              obtain ⟨N, hN⟩ : ∃ N, N = pre ++ M.map (shiftT (a.size + 1)) := ⟨_, rfl⟩
              rw [← hN] at HTU
              have hNl : N.length = pre.length + M.length := by rw [hN]; simp
              have HN := Lib.hid hN
              have HU := Lib.hid (fun W A' c' (hbl : Below wr.heap.size wr W) (hr : Rd W W.heap.size A' (a.size + 1 + b.size) (byteC (joinB a b))) => Tokens_n (joinB a b) (a.size + 1 + b.size) (joinB_size a b).symm A' c' (by rw [joinB_size]; omega) W ((hm.below hbw h0).below hbl (by have := hbw.size; omega)) hr HTU)
              clear hno hp HTU hN
              obtain ⟨i0, hi, hz0, hz1, hz2⟩ := info_parts infoByte
              have hne : ((N.length : Int) != (La.length : Int) + (M.length : Int) - 1) = false := by simp; omega
              go_wp2_with (first
                | (at_builtin; refine wpList_append_rd _ rfl (.tmp 88) (.tmp 89) _ rfl wr.heap.size 5 i0 _ 1 Try.underlying22 hi hz0 hz1 hz2 rfl _ 0 [] rfl (own_new (n := 0) rfl (Nat.le_refl _) (by decide)) _ A a.size ca (byteC a) rfl (hra.alloc (Nat.le_refl _) _) (byteC_one a) (by simp only [maxLen]; omega) (by omega) (by first | omega | (simp; done) | (simp; omega)) ?_; intro v3 w3 hown3 hg3 hat3; have hb3 : Below wr.heap.size wr w3 := ((Below.refl _ wr).alloc (Nat.le_refl _) _).grown hg3 (by simp) (ob_ge (Nat.le_refl _)); have hz3 := hb3.size; have hv3 : ∀ k, v3.ownBlock = some k → wr.heap.size ≤ k := ob_or hat3 (ob_ge (Nat.le_refl _)) (by simp))
                | (at_builtin; refine wpList_append_rd _ rfl (.tmp 90) (.tmp 91) _ rfl wr.heap.size 5 i0 _ 1 Try.underlying22 hi hz0 hz1 hz2 rfl v3 _ _ rfl (hown3.alloc _) _ _ 1 1 _ rfl (rd_one w3 5 (.int .u8 10)) (fun _ => rfl) (by simp only [maxLen]; omega) (by omega) (by first | omega | (simp; done) | (simp; omega)) ?_; intro v4 w4 hown4 hg4 hat4; have hb4 : Below wr.heap.size wr w4 := (hb3.alloc hz3 _).grown hg4 (by simp; omega) hv3; have hz4 := hb4.size; have hv4 : ∀ k, v4.ownBlock = some k → wr.heap.size ≤ k := ob_or hat4 hv3 (by simp; omega))
                | (at_builtin; refine wpList_append_rd _ rfl (.tmp 92) (.tmp 93) _ rfl wr.heap.size 5 i0 _ 1 Try.underlying22 hi hz0 hz1 hz2 rfl v4 _ _ rfl hown4 _ A2 b.size cb (byteC b) rfl (hrb.below hb4) (byteC_one b) (by simp only [maxLen]; omega) (by omega) (by first | omega | (simp; done) | (simp; omega)) ?_; intro v5 w5 hown5 hg5 hat5; have hb5 : Below wr.heap.size wr w5 := hb4.grown hg5 (by omega) hv4; have hz5 := hb5.size; obtain ⟨A5, c5, hv5, hc5, hrd5⟩ := rd_own hown5; subst hv5; have hr5 := hrd5 (byteC (joinB a b)) (fun j hj => by simpa using join_xs a b j (by simpa using hj)))
                | (go_at_call 11; (with_reducible refine (HU.out w5 A5 c5 hb5 (by simpa using hr5)).mono ?_); rintro e w6 ⟨⟨v6, rfl, ho6⟩, b6⟩; have z6 := Below.size b6; obtain ⟨An, cn, rfl, hcn, ht6, hob6⟩ := own_trd ho6))
              obtain ⟨wy, hwy⟩ : ∃ wy : World, wy = wr := ⟨_, rfl⟩
              have b6w : Below wr.heap.size wr w6 := hb5.trans (b6.mono hz5)
              have t1 := ((ht1.below b2).below (hb.mono z2)).below (b6w.mono (by omega))
              have t2 := (ht2.below hb).below (b6w.mono (by omega))
              clear ho6 hob6 hown3 hown4 hown5 hg3 hg4 hg5 hat3 hat4 hat5 hb3 hb4 hv3 hv4 hra hrb HU hr5 hrd5 ht1 ht2
              rw [← hwy] at b6w hbw hb hz
              clear hwy
              go_loopw [17] (fun vi wr => ∃ m : Nat, m ≤ pre.length + M.length ∧ vi = .int .i64 (m : Int) ∧ Below w6.heap.size w6 wr) (fun i _ => pre.length + M.length - (intOf i).toNat)
              case atStart => exact ⟨0, Nat.zero_le _, rfl, Below.refl _ _⟩
              case round =>
                obtain ⟨m, hm2, rfl, hbx⟩ := hrel
                have hzx := hbx.size
                have z6w := b6w.size
                by_cases hlt : m < pre.length + M.length
                · have hNm : m < N.length := by omega
                  obtain ⟨g, rfl, hg, ⟨q0, q1, q2, q3⟩⟩ := (ht6.below hbx) m _ (tok_at hNm)
                  by_cases hmp : m < pre.length
                  · have hLm : m < La.length := by omega
                    obtain ⟨g2, rfl, hg2, ⟨x0, x1, x2, x3⟩⟩ := (t1.below (hbx.mono (by omega))) m _ (tok_at hLm)
                    have e1 : La[m] = N[m] := by simp only [HL.out, HN.out]; rw [List.getElem_append_left hmp, List.getElem_append_left hmp]
                    rw [e1] at x0 x1 x2 x3
                    obtain ⟨⟨tk, tx, tl, th⟩, htt⟩ : ∃ t, t = N[m] := ⟨_, rfl⟩
                    rw [← htt] at q0 q1 q2 q3 x0 x1 x2 x3
                    clear htt e1
                    simp only at q0 q1 q2 q3 x0 x1 x2 x3
                    have hg2' : g2 < wr.heap.size := by omega
                    have hg' : g < wr.heap.size := by omega
                    go_wp2
                    go_quiet (fail)
                    go_wp2
                    exact ⟨⟨m + 1, by omega, by go_num, (by (repeat (first | (with_reducible exact Below.refl _ _) | (with_reducible assumption) | (with_reducible refine Below.setCell ?_ (by first | omega | (simp <;> omega)) _) | (with_reducible refine Below.alloc ?_ (by first | omega | (simp <;> omega)) _) | (with_reducible refine Below.drew ?_) | (with_reducible refine below_drewN ?_ _) | (with_reducible refine Below.trans ?_ (Below.mono (by with_reducible assumption) (by first | omega | (simp <;> omega)))))))⟩, by simp [intOf]; omega⟩
                  · obtain ⟨q, rfl⟩ : ∃ q, m = pre.length + q := ⟨m - pre.length, by omega⟩
                    have hqM : q < M.length := by omega
                    obtain ⟨g2, rfl, hg2, ⟨x0, x1, x2, x3⟩⟩ := (t2.below (hbx.mono (by omega))) q _ (tok_at hqM)
                    have e1 : N[pre.length + q] = shiftT (a.size + 1) M[q] := by
                      simp only [HN.out]
                      rw [List.getElem_append_right (by omega)]
                      simp
                    rw [e1] at q0 q1 q2 q3
                    have hbl := toks_lo b M 0 [] (Nat.zero_le _) (by rw [HTb.out]) M[q] (List.getElem_mem hqM)
                    obtain ⟨⟨tk, tx, tl, th⟩, htt⟩ : ∃ t, t = M[q] := ⟨_, rfl⟩
                    rw [← htt] at q0 q1 q2 q3 x0 x1 x2 x3 hbl
                    clear htt e1
                    simp only at hbl
                    unfold shiftT at q0 q1 q2 q3
                    simp only at q0 q1 q2 q3 x0 x1 x2 x3
                    have c2 : ((tl + (a.size + 1) : Nat) : Int) = (tl : Int) + (a.size : Int) + 1 := by omega
                    have c3 : ((th + (a.size + 1) : Nat) : Int) = (th : Int) + (a.size : Int) + 1 := by omega
                    rw [c2] at q2
                    rw [c3] at q3
                    clear c2 c3
                    have hg2' : g2 < wr.heap.size := by omega
                    have hg' : g < wr.heap.size := by omega
                    have hidx : ((pre.length : Int) + (q : Int) - ((pre.length : Int) + 1) + 1) = (q : Int) := by omega
                    go_wp2
                    go_quiet (fail)
                    go_wp2
                    exact ⟨⟨pre.length + q + 1, by omega, by go_num, (by (repeat (first | (with_reducible exact Below.refl _ _) | (with_reducible assumption) | (with_reducible refine Below.setCell ?_ (by first | omega | (simp <;> omega)) _) | (with_reducible refine Below.alloc ?_ (by first | omega | (simp <;> omega)) _) | (with_reducible refine Below.drew ?_) | (with_reducible refine below_drewN ?_ _) | (with_reducible refine Below.trans ?_ (Below.mono (by with_reducible assumption) (by first | omega | (simp <;> omega)))))))⟩, by simp [intOf]; omega⟩
                · have hbw2 : Below w.heap.size w wr := hbw.trans ((b6w.mono hbw.size).trans (hbx.mono (by have := hbw.size; omega)))
                  go_wp2_with (go_at_call 15; (with_reducible refine (HK.out _ (by (repeat (first | (with_reducible exact Below.refl _ _) | (with_reducible assumption) | (with_reducible refine Below.setCell ?_ (by first | omega | (simp <;> omega)) _) | (with_reducible refine Below.alloc ?_ (by first | omega | (simp <;> omega)) _) | (with_reducible refine Below.drew ?_) | (with_reducible refine below_drewN ?_ _) | (with_reducible refine Below.trans ?_ (Below.mono (by with_reducible assumption) (by first | omega | (simp <;> omega)))))))).mono ?_); rintro e wk ⟨rfl, bk⟩; have zk := Below.size bk)
                  all_goals (refine bodyPost_ret (v := .bool true) (by simp [results, Try.results7, go_sem]) rfl ⟨rfl, (by (repeat (first | (with_reducible exact Below.refl _ _) | (with_reducible assumption) | (with_reducible refine Below.setCell ?_ (by first | omega | (simp <;> omega)) _) | (with_reducible refine Below.alloc ?_ (by first | omega | (simp <;> omega)) _) | (with_reducible refine Below.drew ?_) | (with_reducible refine below_drewN ?_ _) | (with_reducible refine Below.trans ?_ (Below.mono (by with_reducible assumption) (by first | omega | (simp <;> omega)))))))⟩)
            · have hpos : ((n : Int) > 0) = True := by simp; omega
              go_wp2_with (go_at_call 15; (with_reducible refine (HK.out _ (by (repeat (first | (with_reducible exact Below.refl _ _) | (with_reducible assumption) | (with_reducible refine Below.setCell ?_ (by first | omega | (simp <;> omega)) _) | (with_reducible refine Below.alloc ?_ (by first | omega | (simp <;> omega)) _) | (with_reducible refine Below.drew ?_) | (with_reducible refine below_drewN ?_ _) | (with_reducible refine Below.trans ?_ (Below.mono (by with_reducible assumption) (by first | omega | (simp <;> omega)))))))).mono ?_); rintro e wk ⟨rfl, bk⟩; have zk := Below.size bk)
              all_goals (refine bodyPost_ret (v := .bool true) (by simp [results, Try.results7, go_sem]) rfl ⟨rfl, (by (repeat (first | (with_reducible exact Below.refl _ _) | (with_reducible assumption) | (with_reducible refine Below.setCell ?_ (by first | omega | (simp <;> omega)) _) | (with_reducible refine Below.alloc ?_ (by first | omega | (simp <;> omega)) _) | (with_reducible refine Below.drew ?_) | (with_reducible refine below_drewN ?_ _) | (with_reducible refine Below.trans ?_ (Below.mono (by with_reducible assumption) (by first | omega | (simp <;> omega)))))))⟩)
      · have hn1 : ((fb : Int) != 0) = true := by simp; omega
        go_enter Try.func7, Try.ntmps7
        go_wp2_with (first
          | (go_at_call 11; (with_reducible refine HA.out.mono ?_); rintro e w1 ⟨⟨v1, rfl, ho1⟩, b1⟩; have z1 := Below.size b1; obtain ⟨Al, cl, rfl, hcl, ht1, hob1⟩ := own_trd ho1)
          | (go_at_call 11; (with_reducible refine (HB.out w1 b1).mono ?_); rintro e w2 ⟨⟨v2, rfl, ho2⟩, b2⟩; have z2 := Below.size b2; obtain ⟨Am, cm, rfl, hcm, ht2, hob2⟩ := own_trd ho2)
          | (go_at_call 15; (with_reducible refine (HK.out _ (by (repeat (first | (with_reducible exact Below.refl _ _) | (with_reducible assumption) | (with_reducible refine Below.setCell ?_ (by first | omega | (simp <;> omega)) _) | (with_reducible refine Below.alloc ?_ (by first | omega | (simp <;> omega)) _) | (with_reducible refine Below.drew ?_) | (with_reducible refine below_drewN ?_ _) | (with_reducible refine Below.trans ?_ (Below.mono (by with_reducible assumption) (by first | omega | (simp <;> omega)))))))).mono ?_); rintro e wk ⟨rfl, bk⟩; have zk := Below.size bk))
        all_goals (refine bodyPost_ret (v := .bool true) (by simp [results, Try.results7, go_sem]) rfl ⟨rfl, (by (repeat (first | (with_reducible exact Below.refl _ _) | (with_reducible assumption) | (with_reducible refine Below.setCell ?_ (by first | omega | (simp <;> omega)) _) | (with_reducible refine Below.alloc ?_ (by first | omega | (simp <;> omega)) _) | (with_reducible refine Below.drew ?_) | (with_reducible refine below_drewN ?_ _) | (with_reducible refine Below.trans ?_ (Below.mono (by with_reducible assumption) (by first | omega | (simp <;> omega)))))))⟩)
    · have hn1 : ((fa : Int) != 0) = true := by simp; omega
      go_enter Try.func7, Try.ntmps7
      go_wp2_with (first
        | (go_at_call 11; (with_reducible refine HA.out.mono ?_); rintro e w1 ⟨⟨v1, rfl, ho1⟩, b1⟩; have z1 := Below.size b1; obtain ⟨Al, cl, rfl, hcl, ht1, hob1⟩ := own_trd ho1)
        | (go_at_call 11; (with_reducible refine (HB.out w1 b1).mono ?_); rintro e w2 ⟨⟨v2, rfl, ho2⟩, b2⟩; have z2 := Below.size b2; obtain ⟨Am, cm, rfl, hcm, ht2, hob2⟩ := own_trd ho2)
        | (go_at_call 15; (with_reducible refine (HK.out _ (by (repeat (first | (with_reducible exact Below.refl _ _) | (with_reducible assumption) | (with_reducible refine Below.setCell ?_ (by first | omega | (simp <;> omega)) _) | (with_reducible refine Below.alloc ?_ (by first | omega | (simp <;> omega)) _) | (with_reducible refine Below.drew ?_) | (with_reducible refine below_drewN ?_ _) | (with_reducible refine Below.trans ?_ (Below.mono (by with_reducible assumption) (by first | omega | (simp <;> omega)))))))).mono ?_); rintro e wk ⟨rfl, bk⟩; have zk := Below.size bk))
      all_goals (refine bodyPost_ret (v := .bool true) (by simp [results, Try.results7, go_sem]) rfl ⟨rfl, (by (repeat (first | (with_reducible exact Below.refl _ _) | (with_reducible assumption) | (with_reducible refine Below.setCell ?_ (by first | omega | (simp <;> omega)) _) | (with_reducible refine Below.alloc ?_ (by first | omega | (simp <;> omega)) _) | (with_reducible refine Below.drew ?_) | (with_reducible refine below_drewN ?_ _) | (with_reducible refine Below.trans ?_ (Below.mono (by with_reducible assumption) (by first | omega | (simp <;> omega)))))))⟩)
  · have h15' : ((a.size : Int) + (b.size : Int) > 1496) = True := by simp; omega
    go_enter Try.func7, Try.ntmps7
    go_wp2
    exact bodyPost_ret (v := .bool true) (by simp [results, Try.results7, go_sem]) rfl ⟨rfl, Below.refl _ _⟩
end Go.Proofs.Ytdlppdoankeilaa
