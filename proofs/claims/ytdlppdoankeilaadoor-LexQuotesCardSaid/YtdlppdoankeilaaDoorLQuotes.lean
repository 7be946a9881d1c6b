/- The walk of chapter 2's law LexQuotes. -/
import Derived.Test.YtdlppdoankeilaaDoorQL
import Derived.Test.YtdlppdoankeilaaDoorKnown
import Derived.Test.YtdlppdoankeilaaDoorW8
import Derived.Test.YtdlppdoankeilaaDoorLater
import Derived.Laws.IdiomStrings
import Derived.Laws.Cover4
import Derived.Deep.DeepCutAuto
import Derived.Deep.RegionHeld3
namespace Go.Proofs.YtdlppdoankeilaaDoor
set_option linter.unusedVariables false
set_option linter.unusedSimpArgs false
set_option linter.unnecessarySimpa false
open Go.RowKit
attribute [local go_sem] cell_alloc_add cell_set_add lt_more
theorem reT_runes (s : ByteArray) : ∀ (l : List Nat) (a : ByteArray), l.foldl (fun a i => a ++ Utf8.encode (rn s i : Int)) a = (l.map fun i => (rn s i : Int)).foldl (fun r n => r ++ Utf8.encode n) a
  | [], _ => rfl
  | i :: l, a => reT_runes s l (a ++ Utf8.encode (rn s i : Int))
/-- The runes' row. -/
def runeRow (s : ByteArray) (c : Nat) : Array Value := ((places s).map fun j => Value.int .i32 (rn s j : Int)).toArray ++ Array.replicate (c - (places s).length) (.int .i32 0)
theorem run_runes_from (s : ByteArray) (hs : s.size ≤ 70368744177664) (W : World) : (convert 9 30 (.string s)).run Tryd.prog W = .ok (.slice (some ⟨W.heap.size, 0, none⟩) (places s).length (grownCap W (places s).length 0 21))
    (W.drew.alloc (.cells (runeRow s (grownCap W (places s).length 0 21)) 21)) := by
  have hl := places_len s
  have hz : (Conv.runesFrom s s.size 0 #[]).size = (places s).length := by rw [runes_eq]; simp
  have := run_runes_of_string (P := Tryd.prog) W 9 30 21 s Tryd.underlying9 Tryd.underlying30 Tryd.underlying21 (by rw [hz]; omega)
  rw [hz, runes_eq] at this
  exact this
/-- The runes of a text, as a text again. -/
theorem run_runes_to (s : ByteArray) (W : World) (c c' : Nat) (D : World) (hD : D.heap.size = W.heap.size) :
    (convert 30 9 (.slice (some ⟨W.heap.size, 0, none⟩) (places s).length c)).run Tryd.prog (D.alloc (.cells (runeRow s c') 21)) = .ok (.string (reT s (places s))) (D.alloc (.cells (runeRow s c') 21)) := by
  have := run_convert_runes (P := Tryd.prog) (D.alloc (.cells (runeRow s c') 21)) 30 9 21 ⟨W.heap.size, 0, none⟩ (places s).length c ((places s).map fun i => (rn s i : Int)) (by simp) Tryd.underlying30 Tryd.underlying21 Tryd.underlying9 (fun j hj => by
    have hj2 : j < (places s).length := by simpa using hj
    have e : (⟨W.heap.size, 0, none⟩ : Addr).add j = ⟨W.heap.size, j, none⟩ := by unfold Addr.add; split <;> simp_all
    rw [e, ← hD, World.cell?_alloc_mark, runeRow, Array.getElem?_append_left (by simpa using hj2)]
    simp [hj2])
  rw [this, List.take_of_length_le (by simp)]
  unfold reT runesBytes
  rw [reT_runes]
  rfl
theorem quote_len (s : ByteArray) (hs : s.size ≤ 187) : (quoteB s).size ≤ 1500 := by
  have h1 := qbody_len s (places s)
  have h2 := places_len s
  have h3 : (quoteB s).size = (qbody s (places s)).length + 2 := by unfold quoteB; simp [ByteArray.size]
  omega
/-- The tokens of a quoted text. -/
theorem quote_tokens (s : ByteArray) (hs : s.size ≤ 187) (W : World) (hm : Mx W) (cap : Nat) (fr : Nat × Nat) :
    Calls Tryd.prog 4 #[.slice (some ⟨W.heap.size, 0, none⟩) (quoteB s).size cap] (W.alloc (.cells (bytesRow (quoteB s) cap) 5 fr)).drew fun e w' =>
      ∃ g c cur, e = .returned (.tuple #[.slice (some ⟨g, 0, none⟩) 2 c, .int .i64 0, .int .i64 0]) ∧ 2 ≤ c ∧ Row w' g 29 cur ∧ w'.cell? ⟨g, 0, none⟩ = some (.int .i64 4) ∧ w'.cell? ⟨g, 1, none⟩ = some (.string (reT s (places s))) ∧ Below W.heap.size W w' := by
  have hq := quote_len s hs
  have hk := quote_toks s
  generalize quoteB s = q at *
  have HR : tokR q = ([⟨4, reT s (places s), 0, q.size⟩, endT q.size], 0, 0) := tokR_ok (by omega) hk
  have HL : tokL q = [⟨4, reT s (places s), 0, q.size⟩, endT q.size] := by
    show (if (tokR q).2.2 = 0 then _ else _) = _
    rw [HR]; rfl
  have hb : Below W.heap.size W (W.alloc (.cells (bytesRow q cap) 5 fr)).drew := (by (repeat (first | (with_reducible exact Below.refl _ _) | (with_reducible assumption) | (with_reducible refine Below.setCell ?_ (by first | omega | (simp <;> omega)) _) | (with_reducible refine Below.alloc ?_ (by first | omega | (simp <;> omega)) _) | (with_reducible refine Below.drew ?_) | (with_reducible refine below_drewN ?_ _) | (with_reducible refine Below.trans ?_ (Below.mono (by with_reducible assumption) (by first | omega | (simp <;> omega)))))))
  have := Tokens_any q (some ⟨W.heap.size, 0, none⟩) cap (by omega) _ (hm.keep hb) ((rd_row W q cap 5 fr).drew.more (by show W.heap.size + 1 ≤ (W.alloc _).heap.size; rw [World.size_alloc]; exact Nat.le_refl _))
  rw [HR, HL] at this
  refine this.mono ?_
  rintro e w' ⟨⟨v, rfl, ho⟩, hb'⟩
  obtain ⟨A, c, rfl, hc, hr⟩ := own_toks ho
  obtain ⟨g, cur, rfl, _, hrow, _, hcell⟩ := hr.resolve_left (by simp)
  have c0 := hcell 0 _ rfl 0 (by decide)
  have c1 := hcell 0 _ rfl 1 (by decide)
  simp [tokC] at c0 c1
  exact ⟨g, c, cur, rfl, hc, hrow, c0, c1, hb.trans (hb'.mono hb.size)⟩
set_option maxRecDepth 100000 in
set_option maxHeartbeats 8000000 in
theorem LexQuotes_any (s : ByteArray) (w : World) (hm : Mx w) (hT : Tz w) :
    Calls Tryd.prog 3 #[.string s] w fun e w' => e = .returned (.bool true) ∧ Below w.heap.size w w' := by
  by_cases hs : s.size ≤ 187
  · have hs' : ((s.size : Int) > 187) = False := by simp; omega
    have kb := fun (w : World) (x : ByteArray) => run_bytes_of_string (P := Tryd.prog) w 9 26 5 x Tryd.underlying9 Tryd.underlying26 Tryd.underlying5
    have HQ := Lib.hid (Quote_any s (by omega) w hT)
    have HK := Lib.hid (fun W (hb : Below w.heap.size w W) => known_any W (hm.keep hb))
    have HT := Lib.hid (fun W (hb : Below w.heap.size w W) cap fr => quote_tokens s hs W (hm.keep hb) cap fr)
    go_enter Tryd.func3, Tryd.ntmps3
    go_wp2_with (first
      | (go_at_call 5; (with_reducible refine HQ.out.mono ?_); rintro e w1 ⟨rfl, b1⟩)
      | (go_at_call 4; (with_reducible refine (HT.out w1 b1 _ _).mono ?_); rintro e w2 ⟨g, c, cur, rfl, hc, hr, c0, c1, b2⟩)
      | fail)
    have hcf0 := trivial
    have hcf := run_runes_from s (by omega)
    have hct := fun W c c' => run_runes_to s W c c' W.drew rfl
    have hct2 : ∀ (W : World) c c', (convert 30 9 (.slice (some ⟨W.heap.size, 0, none⟩) (places s).length c)).run Tryd.prog (W.alloc (.cells (runeRow s c') 21)).drew = .ok (.string (reT s (places s))) (W.alloc (.cells (runeRow s c') 21)).drew := fun W c c' => run_runes_to s W c c' W.drew rfl
    have hct3 : ∀ (W : World) c c', (convert 30 9 (.slice (some ⟨W.heap.size, 0, none⟩) (places s).length c)).run Tryd.prog (W.alloc (.cells (runeRow s c') 21)).drew.drew = .ok (.string (reT s (places s))) (W.alloc (.cells (runeRow s c') 21)).drew.drew := fun W c c' => run_runes_to s W c c' W.drew.drew rfl
    have f0 := hr.free 0
    have f1 := hr.free 1
    have glt := hr.lt
    clear HQ HT kb hm hT
    generalize reT s (places s) = t at *
    generalize hn : (places s).length = n at *
    have bw2 : Below w.heap.size w w2 := b1.trans (b2.mono b1.size)
    have zw2 := bw2.size
    have ne0 := World.new_ne w2 _ c0
    have ne1 := World.new_ne w2 _ c1
    clear b1 b2 hr f0 f1 hcf0
    go_region_held (fun w' => w'.cell? ⟨g, 0, none⟩ = some (.int .i64 4) ∧ w'.cell? ⟨g, 1, none⟩ = some (.string t)) (go_keep) (first | (go_at_call 6; (with_reducible refine (HK.out _ (by (repeat (first | (with_reducible exact Below.refl _ _) | (with_reducible assumption) | (with_reducible refine Below.setCell ?_ (by first | omega | (simp <;> omega)) _) | (with_reducible refine Below.alloc ?_ (by first | omega | (simp <;> omega)) _) | (with_reducible refine Below.drew ?_) | (with_reducible refine below_drewN ?_ _) | (with_reducible refine Below.trans ?_ (Below.mono (by with_reducible assumption) (by first | omega | (simp <;> omega)))))))).mono ?_); rintro e wk ⟨rfl, bk⟩; have k0 : wk.cell? ⟨g, 0, none⟩ = some (.int .i64 4) := (bk.cell (p := ⟨g, 0, none⟩) (by simp; omega)).trans (by go_keep); have k1 : wk.cell? ⟨g, 1, none⟩ = some (.string t) := (bk.cell (p := ⟨g, 1, none⟩) (by simp; omega)).trans (by go_keep)) | fail)
    go_wp2
    go_ret
    exact ⟨rfl, (by (repeat (first | (with_reducible exact Below.refl _ _) | (with_reducible assumption) | (with_reducible refine Below.setCell ?_ (by first | omega | (simp <;> omega)) _) | (with_reducible refine Below.alloc ?_ (by first | omega | (simp <;> omega)) _) | (with_reducible refine Below.drew ?_) | (with_reducible refine below_drewN ?_ _) | (with_reducible refine Below.trans ?_ (Below.mono (by with_reducible assumption) (by first | omega | (simp <;> omega)))))))⟩
  · have hs' : ((s.size : Int) > 187) = True := by simp; omega
    go_enter Tryd.func3, Tryd.ntmps3
    go_wp2
    go_ret
    exact ⟨rfl, Below.refl _ _⟩
end Go.Proofs.YtdlppdoankeilaaDoor
