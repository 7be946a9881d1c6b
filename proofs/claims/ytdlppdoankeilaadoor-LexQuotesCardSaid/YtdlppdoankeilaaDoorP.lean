/- The rows of chapter 1's laws: bytes and a number that came in, opened; the library's table. -/
import Derived.Test.YtdlppdoankeilaaDoorRow
import Derived.Test.YtdlppdoankeilaaDoorW7
namespace Go.Proofs.YtdlppdoankeilaaDoor
set_option linter.unusedVariables false
set_option linter.unusedSimpArgs false
set_option linter.unnecessarySimpa false
open Go.ChangeShapes Go.WideShapes Go.ChangeAt Go.WideMaps Go.WideElems Go.RowKit Go.Joins
open Go.ChangeMaps (open_string shut_string)
theorem cell_addr_lt {W : World} {p : Addr} {v : Value} (h : W.cell? p = some v) : p.block < W.heap.size := by
  rcases Nat.lt_or_ge p.block W.heap.size with hl | hg
  · exact hl
  · simp [World.cell?, Array.getElem?_eq_none hg] at h
theorem cellsU8 : Tryd.prog.cellsOf 5 = 1 := by kernel_rfl
set_option maxRecDepth 10000 in
theorem open_bytes {H : Type} {enc : TypeId × Value → H} {w : World} {v : Value} {d : DataW H} {p : List MemPlace} (h : DataW.Trod enc Tryd.prog w 0 (fun _ => true) true 26 v d p)
    (hval : Value.okWide Tryd.prog w .any 0 26 v) :
    ∃ (A : Option Addr) (s : ByteArray) (c : Nat), v = .slice A s.size c ∧ s.size ≤ c ∧ Rd w w.heap.size A s.size (byteC s) ∧ (s.size = 0 ∨ ∃ el sp, d = .slice el sp ∧ el.length = s.size) := by
  obtain ⟨a1, len, cap, rfl⟩ := okWide_slice Tryd.underlying26 hval
  obtain ⟨fuel, hf⟩ := h
  rcases open_ints Tryd.underlying26 Tryd.underlying5 cellsU8 hf with ⟨hcs, hx⟩ | ⟨a, len', cap', zs, hcs, _, hl, hm, hz, hx, hcell, hwz⟩
  · simp [Value.cells] at hcs
    obtain ⟨rfl, rfl, rfl⟩ := hcs
    exact ⟨none, ⟨#[]⟩, 0, rfl, Nat.le_refl _, Rd.none_, .inl rfl⟩
  · simp [Value.cells] at hcs
    obtain ⟨rfl, rfl, rfl⟩ := hcs
    have hz' : zs.length = cap := by simpa using hz
    obtain ⟨s, hs⟩ : ∃ s : ByteArray, s = ⟨((zs.take len).map fun z => UInt8.ofNat z.toNat).toArray⟩ := ⟨_, rfl⟩
    have hsz : s.size = len := by subst hs; simp [ByteArray.size]; omega
    simp only [Prod.mk.injEq] at hx
    refine ⟨some a, s, cap, by rw [hsz], by omega, ?_, .inr ⟨_, _, hx.1, by simp [lits, hsz]; omega⟩⟩
    rw [hsz]
    intro j hj
    have hc := hcell j (by omega)
    have hb : a.block < w.heap.size := by have := cell_addr_lt hc; rwa [block_add] at this
    refine ⟨a, rfl, hb, ?_⟩
    rw [hc]
    have hj2 : j < zs.length := by omega
    have e : zs.getD j 0 = zs[j] := by simp [List.getD, hj2]
    have hw := hwz zs[j] (List.getElem_mem _)
    simp [Lit.wf, IntKind.min, IntKind.max, IntKind.signed, IntKind.bits] at hw
    unfold byteC
    rw [data_at (show j < s.size by omega), e]
    have h1 : (UInt8.ofNat zs[j].toNat).toNat = zs[j].toNat := by rw [UInt8.toNat_ofNat']; omega
    have h2 : s.data.toList[j]'(by simpa using show j < s.size by omega) = UInt8.ofNat zs[j].toNat := by simp [hs]
    rw [h2, h1]
    congr 2
    omega
theorem reach_bytes {H : Type} {ts : List TypeId} {ds : List (DataW H)} {d : DataW H} {s : ByteArray} (hz : s.size = 0 ∨ ∃ el sp, d = .slice el sp ∧ el.length = s.size) (h : (DataW.weightsEach Tryd.prog ts ds).all (· ≤ reachBytes) = true) {j : Nat} (ht : ts[j]? = some 26)
    (hd : ds[j]? = some d) : s.size ≤ 140737488351232 := by
  rcases hz with h0 | ⟨el, sp, rfl, hl⟩
  · omega
  · have := sized_slice h ht hd Tryd.underlying26
    have hb : Tryd.prog.bytesOf 5 = 1 := by kernel_rfl
    have hr : reachBytes = 140737488351232 := rfl
    rw [hb] at this
    omega
def tzs : List Int := [0,1,56,2,57,49,28,3,61,58,42,50,38,29,17,4,62,47,59,36,45,43,51,22,53,39,33,30,24,18,12,5,63,55,48,27,60,41,37,16,46,35,44,21,52,32,23,11,54,26,40,15,34,20,31,10,25,14,19,9,13,8,7,6]
theorem tz_of_laid {W : World} (h : laidMetH Tryd.prog [("math/bits.deBruijn32tab", Rows.laid_math_bits_deBruijn32tab), ("math/bits.deBruijn64tab", Rows.laid_math_bits_deBruijn64tab), ("internal/strconv.uint64pow10", Rows.laid_internal_strconv_uint64pow10)] W) : Tz W := by
  rw [MakeChecks.laidMetH_plain _ _ _ (by kernel_rfl)] at h
  have h2 := h.tail
  have ht := Lib.tabIs_of_head (zs := tzs) (P := Tryd.prog) (W := W) (name := "math/bits.deBruijn64tab") (k := .u8) (g := 3) (t := 102) (e := 5) (n := 64)
    (by kernel_rfl) (by kernel_rfl) Tryd.underlying102 Tryd.underlying5 (by kernel_rfl) (by kernel_rfl) h2
  have hc := ht.cell (g := 3) (by kernel_rfl) 15 (by decide)
  exact ⟨hc, cell_addr_lt hc⟩
theorem wf64 {n : Int} (h : (Lit.int .i64 n).wf = true) : -9223372036854775808 ≤ n ∧ n ≤ 9223372036854775807 := by
  simp [Lit.wf, IntKind.min, IntKind.max, IntKind.signed, IntKind.bits] at h; omega
theorem reach_str {H : Type} {ts : List TypeId} {ds : List (DataW H)} (h : (DataW.weightsEach Tryd.prog ts ds).all (· ≤ reachBytes) = true) {j : Nat} {s : ByteArray} {t : TypeId} (ht : ts[j]? = some t)
    (hd : ds[j]? = some (.lit (.string s.data.toList))) : s.size ≤ 140737488351232 := by
  have := sized_string h ht hd
  simpa [reachBytes] using this
end Go.Proofs.YtdlppdoankeilaaDoor
