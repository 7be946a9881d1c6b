/- Plain: the places of a text's runes, as what an iterator hands on. No program in sight. -/
import Derived.Test.YtdlppdoankeilaaDoorConv
namespace Go.Proofs.YtdlppdoankeilaaDoor
set_option linter.unusedVariables false
set_option linter.unusedSimpArgs false
set_option linter.unnecessarySimpa false
open Go.RowKit

/-- A place of a text. -/
abbrev Pl (s : ByteArray) : Type := { i : Nat // i < s.size }
def plE (s : ByteArray) (x : Pl s) : Array Value := #[.int .i64 (x.1 : Int), .int .i32 (rn s x.1 : Int)]
def plL (s : ByteArray) (l : List Nat) : List (Pl s) := l.filterMap fun i => if h : i < s.size then some ⟨i, h⟩ else none
theorem plL_snoc {s : ByteArray} {pre : List Nat} {k : Nat} (h : k < s.size) : plL s (pre ++ [k]) = plL s pre ++ [⟨k, h⟩] := by
  unfold plL; rw [List.filterMap_append]; simp [h]
theorem plL_len {s : ByteArray} {pre : List Nat} {k : Nat} (hp : AtPlace s pre k) (h : k < s.size) : (plL s pre).length < s.size := by
  have h1 : (plL s pre).length ≤ pre.length := List.length_filterMap_le _ _
  have h2 := (hp.step h).len
  simp at h2; omega
theorem plL_pre {s : ByteArray} {pre : List Nat} {k : Nat} (hp : AtPlace s pre k) : plL s pre <+: plL s (places s) := by
  rw [hp.1]; unfold plL; rw [List.filterMap_append]; exact List.prefix_append _ _
theorem mem_placesF (s : ByteArray) : ∀ (f i j : Nat), j ∈ placesF s f i → j < s.size
  | 0, _, _, h => by simp [placesF] at h
  | f + 1, i, j, h => by
    simp only [placesF] at h
    split at h
    · rcases List.mem_cons.1 h with rfl | h
      · assumption
      · exact mem_placesF s f _ j h
    · simp at h
theorem mem_places {s : ByteArray} {j : Nat} (h : j ∈ places s) : j < s.size := mem_placesF s _ _ j h
theorem plL_val {s : ByteArray} {l : List Nat} (h : ∀ j ∈ l, j < s.size) : (plL s l).map (·.1) = l := by
  unfold plL
  induction l with
  | nil => rfl
  | cons a l ih =>
    have ha := h a (by simp)
    have := ih (fun j hj => h j (by simp [hj]))
    simp [ha, this]
/-- The places that have come. -/
def vals {t : ByteArray} (pre : List (Pl t)) : List Nat := pre.map (·.1)
theorem vals_snoc {t : ByteArray} (pre : List (Pl t)) (x : Pl t) : vals (pre ++ [x]) = vals pre ++ [x.1] := by simp [vals]
theorem vals_len {t : ByteArray} (pre : List (Pl t)) : (vals pre).length = pre.length := by simp [vals]
end Go.Proofs.YtdlppdoankeilaaDoor
