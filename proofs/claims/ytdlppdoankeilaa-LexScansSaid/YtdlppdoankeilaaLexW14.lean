/- The walk of chapter 2's reference: Tokens. -/
import Derived.Test.YtdlppdoankeilaaLexW13
namespace Go.Proofs.Ytdlppdoankeilaa
set_option linter.unusedVariables false
set_option linter.unusedSimpArgs false
set_option linter.unnecessarySimpa false
open Go.RowKit
attribute [local go_sem] cell_alloc_add cell_set_add lt_more
/-- The tokens of a text, the byte of the error, the error (0: none). -/
def tokR (s : ByteArray) : List Tok × Nat × Nat := if s.size ≤ 65536 then capT 8192 (toks s 0 []) else ([], 0, 2)
set_option maxRecDepth 100000 in
set_option maxHeartbeats 4000000 in
theorem rTokens_any (s : ByteArray) (A : Option Addr) (c : Nat) (hs : s.size ≤ 1099511627776) (hcap : s.size ≤ c) (w : World) {B : Nat} (hB : B ≤ w.heap.size) (h : Rd w B A s.size (byteC s)) :
    Calls Try.prog 12 #[.slice A s.size c] w fun e w' => TPost w (tokR s) e w' ∧ Below w.heap.size w w' := by

  by_cases hz : s.size ≤ 65536
  · have HT := Lib.hid (rtokens_any s A c hz hcap w hB h 8192 (by omega))
    have hR : tokR s = capT 8192 (toks s 0 []) := if_pos hz
    rw [← hR] at HT
    clear hR
    have ht : ((s.size : Int) > 65536) = False := by simp; omega
    go_enter Try.func12, Try.ntmps12
    simp only [Int.cast_ofNat_Int] at HT
    go_wp2_with (go_at_call 24; (with_reducible refine (HT.out).mono ?_); rintro e w1 ⟨⟨v, rfl, ho⟩, b1⟩)
    exact bodyPost_ret (v := .tuple #[v, .int .i64 ((tokR s).2.1 : Int), .int .i64 ((tokR s).2.2 : Int)]) (by simp [results, Try.results12, go_sem, *]) rfl ⟨⟨v, rfl, ho⟩, b1⟩
  · have hR : tokR s = ([], 0, 2) := if_neg hz
    have ht : ((s.size : Int) > 65536) = True := by simp; omega
    have HP := Lib.hid (TPost.of (w := w) (w' := w) hR (World.ownsRow_nil _ _ _ _))
    clear hR
    go_enter Try.func12, Try.ntmps12
    go_wp2
    exact bodyPost_ret (v := .tuple #[.slice none 0 0, .int .i64 0, .int .i64 2]) (by simp [results, Try.results12, go_sem, *]) rfl ⟨HP.out, Below.refl _ _⟩
end Go.Proofs.Ytdlppdoankeilaa
