/- The walks of the library's FormatInt at base 16, for small numbers. -/
import Derived.Test.YtdlppdoankeilaaDoorPgDec
import Derived.Test.YtdlppdoankeilaaDoorRow2
import Derived.Test.YtdlppdoankeilaaDoorQuote
import Derived.Laws.Rows
import Derived.Laws.Bits64b
import Derived.Lib.LaidTab
namespace Go.Proofs.YtdlppdoankeilaaDoor
set_option linter.unusedVariables false
set_option linter.unusedSimpArgs false
set_option linter.unnecessarySimpa false
open Go.RowKit
attribute [local go_sem] cell_alloc_add cell_set_add lt_more
/-- The cell of the library's table that TrailingZeros64 reads at 16. -/
def Tz (w : World) : Prop := w.cell? ⟨3, 15, none⟩ = some (.int .u8 4) ∧ 3 < w.heap.size
theorem Tz.later {w w' : World} (h : Tz w) {B : Nat} (hb : Below B w w') (hB : 3 < B) : Tz w' := ⟨(hb.cell (p := ⟨3, 15, none⟩) hB).trans h.1, Nat.lt_of_lt_of_le h.2 hb.size⟩
theorem Tz.keep {w w' : World} (h : Tz w) (hb : Below w.heap.size w w') : Tz w' := h.later hb h.2
set_option maxRecDepth 100000 in
set_option maxHeartbeats 1000000 in
theorem isPow (w : World) : Calls Tryd.prog 50 #[.int .i64 16] w fun e w' => e = .returned (.bool true) ∧ w' = w := by
  have e1 : bits BinOp.and IntKind.i64 16 15 = 0 := by decide
  go_enter Tryd.func50, Tryd.ntmps50
  go_wp2
  go_ret
  exact ⟨rfl, rfl⟩
set_option maxRecDepth 100000 in
set_option maxHeartbeats 1000000 in
theorem tz64 (w : World) (h : Tz w) : Calls Tryd.prog 57 #[.int .u64 16] w fun e w' => e = .returned (.int .i64 4) ∧ w' = w := by
  have e1 : IntKind.u64.wrap (-16) = 18446744073709551600 := by decide
  have e2 : bits BinOp.and IntKind.u64 16 18446744073709551600 = 16 := by decide
  have e3 : (IntKind.u64.wrap (16 * 285870213051353865) / 288230376151711744).toNat = 15 := by decide
  have hc := h.1
  have hg : 3 < w.heap.size := h.2
  clear h
  go_enter Tryd.func57, Tryd.ntmps57
  go_wp2
  go_ret
  exact ⟨rfl, rfl⟩
set_option maxRecDepth 100000 in
set_option maxHeartbeats 1000000 in
theorem tz (w : World) (h : Tz w) : Calls Tryd.prog 51 #[.int .u64 16] w fun e w' => e = .returned (.int .i64 4) ∧ w' = w := by
  go_enter Tryd.func51, Tryd.ntmps51
  go_wp2_with (go_at_call 57; refine (tz64 _ h).mono ?_; rintro e w1 ⟨rfl, rfl⟩)
  go_ret
  exact ⟨rfl, rfl⟩

def dg : ByteArray := ⟨#[48, 49, 50, 51, 52, 53, 54, 55, 56, 57, 97, 98, 99, 100, 101, 102, 103, 104, 105, 106, 107, 108, 109, 110, 111, 112, 113, 114, 115, 116, 117, 118, 119, 120, 121, 122]⟩
theorem dg_at (r : Nat) (h : r < 16) (h' : r < dg.size) : dg[r] = hexU r := by
  have : ∀ x : Fin 16, dg.data[x.1]? = some (hexU x.1) := by decide
  have h2 := this ⟨r, h⟩
  have h3 : dg.data[r]? = some dg[r] := by rw [Array.getElem?_eq_getElem (by exact h')]; rfl
  rw [h3] at h2; injection h2
theorem conv_one (r : Nat) (h : r < 16) (w : World) (C : Array Value) (t : TypeId) (h1 : C[64]? = some (.int .u8 ((hexU r).toNat : Int))) :
    (convert 26 9 (.slice (some ⟨w.heap.size, 64, none⟩) 1 1)).run Tryd.prog (w.alloc (.cells C t)) = .ok (.string (hexB r)) (w.alloc (.cells C t)) := by
  have := run_convert_bytes_back (P := Tryd.prog) (w.alloc (.cells C t)) 26 9 5 ⟨w.heap.size, 64, none⟩ 1 [hexU r] Tryd.underlying26 Tryd.underlying5 Tryd.underlying9 (fun j hj => by
    simp at hj; subst hj; rw [add_row, World.cell?_alloc_mark]; simpa using h1)
  rw [hexB_one h]; simpa using this
theorem conv_two (r : Nat) (h : 16 ≤ r) (w : World) (C : Array Value) (t : TypeId) (h1 : C[63]? = some (.int .u8 ((hexU (r / 16)).toNat : Int))) (h2 : C[64]? = some (.int .u8 ((hexU (r % 16)).toNat : Int))) :
    (convert 26 9 (.slice (some ⟨w.heap.size, 63, none⟩) 2 2)).run Tryd.prog (w.alloc (.cells C t)) = .ok (.string (hexB r)) (w.alloc (.cells C t)) := by
  have := run_convert_bytes_back (P := Tryd.prog) (w.alloc (.cells C t)) 26 9 5 ⟨w.heap.size, 63, none⟩ 2 [hexU (r / 16), hexU (r % 16)] Tryd.underlying26 Tryd.underlying5 Tryd.underlying9 (fun j hj => by
    simp at hj
    rw [add_row, World.cell?_alloc_mark]
    rcases (by omega : j = 0 ∨ j = 1) with rfl | rfl
    · simpa using h1
    · simpa using h2)
  rw [hexB_two h]; simpa using this
theorem zlen : Tryd.zeroCells92.size = 65 := by kernel_rfl

set_option maxRecDepth 100000 in
set_option maxHeartbeats 4000000 in
theorem fbits_one (r : Nat) (hr : r < 16) (w : World) (h : Tz w) : Calls Tryd.prog 38 #[.slice none 0 0, .int .u64 (r : Int), .int .i64 16, .bool false, .bool false] w fun e w' => (∃ v, e = .returned (.tuple #[v, .string (hexB r)])) ∧ Below w.heap.size w w' := by
  go_enter Tryd.func38, Tryd.ntmps38
  go_wp2_with (first
    | (go_at_call 50; refine (isPow _).mono ?_; rintro e w1 ⟨rfl, rfl⟩)
    | (go_at_call 51; refine (tz _ (h.keep (by (repeat (first | (with_reducible exact Below.refl _ _) | (with_reducible assumption) | (with_reducible refine Below.setCell ?_ (by first | omega | (simp <;> omega)) _) | (with_reducible refine Below.alloc ?_ (by first | omega | (simp <;> omega)) _) | (with_reducible refine Below.drew ?_) | (with_reducible refine below_drewN ?_ _) | (with_reducible refine Below.trans ?_ (Below.mono (by with_reducible assumption) (by first | omega | (simp <;> omega))))))))).mono ?_; rintro e w1 ⟨rfl, rfl⟩))
  refine wp_loop_rounds 1 ?_
  rw [rounds_succ]
  go_wp2
  rw [conv_one r hr _ _ _ (by rw [Array.getElem?_setIfInBounds_self_of_lt (by rw [zlen]; decide)]; congr 3; exact congrArg UInt8.toNat (dg_at r hr _))]
  go_wp2
  go_ret2
  exact ⟨⟨_, rfl⟩, (Below.refl _ _).alloc (Nat.le_refl _) _⟩
set_option maxRecDepth 100000 in
set_option maxHeartbeats 4000000 in
theorem fbits_two (r : Nat) (hr : 16 ≤ r) (hr2 : r < 128) (w : World) (h : Tz w) : Calls Tryd.prog 38 #[.slice none 0 0, .int .u64 (r : Int), .int .i64 16, .bool false, .bool false] w fun e w' => (∃ v, e = .returned (.tuple #[v, .string (hexB r)])) ∧ Below w.heap.size w w' := by
  have hm : bits .and .u64 (r : Int) 15 = ((r % 16 : Nat) : Int) := by
    have := bits_and_u64_nat r 15 (by omega) (by omega)
    rw [nat_mask4] at this; exact this
  have h16 : r % 16 < 16 := by omega
  have h17 : r / 16 < 16 := by omega
  go_enter Tryd.func38, Tryd.ntmps38
  go_wp2_with (first
    | (go_at_call 50; refine (isPow _).mono ?_; rintro e w1 ⟨rfl, rfl⟩)
    | (go_at_call 51; refine (tz _ (h.keep (by (repeat (first | (with_reducible exact Below.refl _ _) | (with_reducible assumption) | (with_reducible refine Below.setCell ?_ (by first | omega | (simp <;> omega)) _) | (with_reducible refine Below.alloc ?_ (by first | omega | (simp <;> omega)) _) | (with_reducible refine Below.drew ?_) | (with_reducible refine below_drewN ?_ _) | (with_reducible refine Below.trans ?_ (Below.mono (by with_reducible assumption) (by first | omega | (simp <;> omega))))))))).mono ?_; rintro e w1 ⟨rfl, rfl⟩))
  refine wp_loop_rounds 2 ?_
  rw [rounds_succ]
  go_wp2
  rw [rounds_succ]
  go_wp2
  rw [conv_two r hr _ _ _ (by rw [Array.getElem?_setIfInBounds_self_of_lt (by rw [Array.size_setIfInBounds, zlen]; decide)]; congr 3; exact congrArg UInt8.toNat (dg_at (r / 16) h17 _))
    (by rw [Array.getElem?_setIfInBounds_ne (by decide), Array.getElem?_setIfInBounds_self_of_lt (by rw [zlen]; decide)]; congr 3; exact congrArg UInt8.toNat (dg_at (r % 16) h16 _))]
  go_wp2
  go_ret2
  exact ⟨⟨_, rfl⟩, (Below.refl _ _).alloc (Nat.le_refl _) _⟩

theorem fbits (r : Nat) (hr : r < 128) (w : World) (h : Tz w) : Calls Tryd.prog 38 #[.slice none 0 0, .int .u64 (r : Int), .int .i64 16, .bool false, .bool false] w fun e w' => (∃ v, e = .returned (.tuple #[v, .string (hexB r)])) ∧ Below w.heap.size w w' := by
  by_cases h16 : r < 16
  · exact fbits_one r h16 w h
  · exact fbits_two r (by omega) hr w h
set_option maxRecDepth 100000 in
set_option maxHeartbeats 1000000 in
theorem ifint (r : Nat) (hr : r < 128) (w : World) (h : Tz w) : Calls Tryd.prog 22 #[.int .i64 (r : Int), .int .i64 16] w fun e w' => e = .returned (.string (hexB r)) ∧ Below w.heap.size w w' := by
  go_enter Tryd.func22, Tryd.ntmps22
  go_wp2_with (go_at_call 38; refine (fbits r hr _ h).mono ?_; rintro e w1 ⟨⟨v, rfl⟩, hb⟩)
  go_ret
  exact ⟨rfl, hb⟩
set_option maxRecDepth 100000 in
set_option maxHeartbeats 1000000 in
theorem fint (r : Nat) (hr : r < 128) (w : World) (h : Tz w) : Calls Tryd.prog 12 #[.int .i64 (r : Int), .int .i64 16] w fun e w' => e = .returned (.string (hexB r)) ∧ Below w.heap.size w w' := by
  go_enter Tryd.func12, Tryd.ntmps12
  go_wp2_with (go_at_call 22; refine (ifint r hr _ h).mono ?_; rintro e w1 ⟨rfl, hb⟩)
  go_ret
  exact ⟨rfl, hb⟩
end Go.Proofs.YtdlppdoankeilaaDoor
