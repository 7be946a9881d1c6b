/- A sign among the scanner's: what strings.ContainsAny and strings.Contains say of it. -/
import Derived.Test.YtdlppdoankeilaaDoorFar
namespace Go.Proofs.YtdlppdoankeilaaDoor
set_option linter.unusedVariables false
set_option linter.unusedSimpArgs false
set_option linter.unnecessarySimpa false
open Go.RowKit
theorem containsAny_any (chars : List UInt8) : ∀ l : List UInt8, Lib.containsAny l chars = l.any fun x => chars.contains x
  | [] => rfl
  | x :: l => by
    have ih := containsAny_any chars l
    unfold Lib.containsAny at ih ⊢
    have hge := Lib.indexAny_ge chars l
    unfold Lib.indexAny
    rw [List.any_cons, ← ih]
    cases hc : chars.contains x
    · rw [if_neg (by simp), Bool.false_or]
      by_cases h : Lib.indexAny l chars = -1
      · rw [h]; rfl
      · rw [if_neg (by simpa using h)]; exact decide_eq_decide.2 (by omega)
    · simp
def clearB (ws : List (List UInt8)) : Bool := ws.all fun w => w.all fun x => decide (x.toNat < 128) && !([32, 9, 13, 10] : List UInt8).contains x
theorem clearB_at {ws : List (List UInt8)} (h : clearB ws = true) {w : List UInt8} (hw : w ∈ ws) {x : UInt8} (hx : x ∈ w) : x.toNat < 128 ∧ ([32, 9, 13, 10] : List UInt8).contains x = false := by
  have := List.all_eq_true.1 (List.all_eq_true.1 h w hw) x hx
  simpa using this
theorem blanked_mem : ∀ (ws : List (List UInt8)) (x : UInt8), x ∈ blanked ws → x = 32 ∨ ∃ w ∈ ws, x ∈ w
  | [], x, h => by simp [blanked] at h; exact .inl h
  | w :: r, x, h => by
    simp only [blanked, List.mem_cons, List.mem_append] at h
    rcases h with h | h | h
    · exact .inl h
    · exact .inr ⟨w, by simp, h⟩
    · rcases blanked_mem r x h with h | ⟨v, hv, hx⟩
      · exact .inl h
      · exact .inr ⟨v, by simp [hv], hx⟩
/-- What ContainsAny says of a text, as far as a list of signs asks. -/
def SignQ (ws : List (List UInt8)) (l : List UInt8) (B : Bool) : Prop := (l ∈ ws → B = false) ∧ (B = false → Lib.contains (blanked ws) (32 :: (l ++ [32])) = decide (l ∈ ws))
theorem signQ_far {ws : List (List UInt8)} (h : clearB ws = true) {l : List UInt8} {x : UInt8} (hx : x ∈ l) (h128 : 128 ≤ x.toNat) (B : Bool) : SignQ ws l B := by
  have hn : l ∉ ws := fun hl => by have := (clearB_at h hl hx).1; omega
  refine ⟨fun hl => absurd hl hn, fun _ => ?_⟩
  rw [decide_eq_false hn, Bool.eq_false_iff]
  intro hc
  rw [contains_iff] at hc
  have hm : x ∈ blanked ws := hc.subset (by simp [hx])
  rcases blanked_mem ws x hm with e | ⟨v, hv, hxv⟩
  · rw [e] at h128; exact absurd h128 (by decide)
  · have := (clearB_at h hv hxv).1; omega
theorem signQ_near {ws : List (List UInt8)} (h : clearB ws = true) (l : List UInt8) : SignQ ws l (Lib.containsAny l [32, 9, 13, 10]) := by
  rw [containsAny_any]
  refine ⟨fun hl => ?_, fun hB => ?_⟩
  · rw [List.any_eq_false]
    intro x hx
    rw [(clearB_at h hl hx).2]; exact Bool.false_ne_true
  · refine among_eq l (fun x hx e => ?_) ws ?_
    · have := List.any_eq_false.1 hB x hx
      rw [e] at this
      exact this (by decide)
    · rw [List.all_eq_true]
      intro w hw
      rw [List.all_eq_true]
      intro x hx
      have := (clearB_at h hw hx).2
      rw [bne_iff_ne]
      intro e
      rw [e] at this
      exact absurd this (by decide)
theorem conAny_sign (ws : List (List UInt8)) (h : clearB ws = true) (t : ByteArray) (ht : t.size ≤ 8) (w : World) :
    Calls Tryd.prog 45 #[.string t, .string ⟨#[32, 9, 13, 10]⟩] w fun e w' => (∃ B, e = .returned (.bool B) ∧ SignQ ws t.data.toList B) ∧ Below w.heap.size w w' := by
  by_cases ha : ∀ x ∈ t.data.toList, x.toNat < 128
  · refine (Tryd.strings_ContainsAny_laid t ⟨#[32, 9, 13, 10]⟩ w (by omega) (by decide) (fun j b hj => ha b (List.mem_of_getElem? hj)) (fun j b hj => ?_)).mono ?_
    · have := List.mem_of_getElem? hj
      simp at this
      rcases this with e | e | e | e <;> (rw [e]; decide)
    · rintro e w' ⟨rfl, hb⟩
      exact ⟨⟨_, rfl, signQ_near h _⟩, hb⟩
  · refine (conAny_short t ht w).mono ?_
    rintro e w' ⟨⟨B, rfl⟩, hb⟩
    have : ∃ x ∈ t.data.toList, 128 ≤ x.toNat := Classical.byContradiction fun hn => ha fun x hx => by
      have h2 : ¬ 128 ≤ x.toNat := fun h3 => hn ⟨x, hx, h3⟩
      omega
    obtain ⟨x, hx, h128⟩ := this
    exact ⟨⟨B, rfl, signQ_far h hx h128 B⟩, hb⟩
/-- The sign that begins here (kind 0: none). -/
def tokS (s : ByteArray) (i : Nat) : Tok := if signAt s i = 0 then tokZ else ⟨9, s.extract i (i + signAt s i), i, i + signAt s i⟩
/-- What a sign does to the brackets that are open. -/
def holesS (s : ByteArray) (i : Nat) (holes : List Bool) : List Bool := if signAt s i = 1 ∧ bt s i = 123 then holes ++ [false] else if signAt s i = 1 ∧ bt s i = 125 then holes.dropLast else holes
/-- The longest sign of at most 3 - k bytes. -/
def signF (s : ByteArray) (i k : Nat) : Nat := match k with
  | 0 => signAt s i
  | 1 => if i + 2 ≤ s.size ∧ isSign 2 (cut s i 2) = true then 2 else if i + 1 ≤ s.size ∧ isSign 1 (cut s i 1) = true then 1 else 0
  | 2 => if i + 1 ≤ s.size ∧ isSign 1 (cut s i 1) = true then 1 else 0
  | _ => 0
theorem signF_yes {s : ByteArray} {i k : Nat} (hk : k < 3) (h : i + (3 - k) ≤ s.size ∧ isSign (3 - k) (cut s i (3 - k)) = true) : signF s i k = 3 - k := by
  match k, hk with
  | 0, _ => show signAt s i = 3; unfold signAt; exact if_pos h
  | 1, _ => exact if_pos h
  | 2, _ => exact if_pos h
theorem signF_no {s : ByteArray} {i k : Nat} (hk : k < 3) (h : ¬ (i + (3 - k) ≤ s.size ∧ isSign (3 - k) (cut s i (3 - k)) = true)) : signF s i k = signF s i (k + 1) := by
  match k, hk with
  | 0, _ => show signAt s i = _; unfold signAt; exact if_neg h
  | 1, _ => exact if_neg h
  | 2, _ => exact if_neg h
def signsOf (n : Nat) : List (List UInt8) := if n = 3 then signs3 else if n = 2 then signs2 else signs1
theorem isSign_of {n : Nat} (h1 : 1 ≤ n) (h3 : n ≤ 3) (l : List UInt8) : isSign n l = decide (l ∈ signsOf n) := by
  unfold isSign signsOf
  split
  · rfl
  · split
    · rfl
    · rw [if_pos (by omega)]
theorem clear3 : clearB signs3 = true := by decide
theorem clear2 : clearB signs2 = true := by decide
theorem clear1 : clearB signs1 = true := by decide
end Go.Proofs.YtdlppdoankeilaaDoor
