/- Plain: the values of chapter 14 and what its operators answer. No program in sight. -/
import Derived.Test.YtkfpomkfgdkjdaaDoorMem
import Derived.WalkKit
import Derived.Lib.ItoaNum
namespace Go.Proofs.YtkfpomkfgdkjdaaDoor
set_option linter.unusedVariables false
set_option linter.unusedSimpArgs false
open Go.RowKit

/-- A value: kind, number, text. -/
structure V where
  k : Int
  n : Int
  s : ByteArray

def noText : ByteArray := ⟨#[]⟩
def big : Int := 9007199254740991
def clamp (n : Int) : Int := if big < n then big else if n < -big then -big else n
def b2i (b : Bool) : Int := if b then 1 else 0
def vu : V := ⟨0, 0, ⟨#[]⟩⟩
def vb (b : Bool) : V := ⟨2, b2i b, ⟨#[]⟩⟩
def vn (n : Int) : V := ⟨3, n, ⟨#[]⟩⟩
def vs (s : ByteArray) : V := ⟨4, 0, s⟩
/-- A value as it counts. -/
def sane (v : V) : V :=
  if v.k = 2 then vb (v.n != 0) else if v.k = 3 then vn (clamp v.n) else if v.k = 4 then vs v.s else if v.k = 5 then ⟨5, v.n, ⟨#[]⟩⟩ else if v.k = 1 then ⟨1, 0, ⟨#[]⟩⟩ else vu

/-- What a call answers: a value, a text that is thrown, a fault. -/
structure O where
  v : V
  t : ByteArray
  f : Int
def done (v : V) : O := ⟨v, ⟨#[]⟩, 0⟩
def thrown (t : ByteArray) : O := ⟨vu, t, 1⟩
def exactO (n : Int) (ok : Bool) : O := if ok = true ∧ n ≤ big ∧ -big ≤ n then done (vn n) else ⟨vu, ⟨#[]⟩, 2⟩

theorem exactO_in {n : Int} {ok : Bool} (h : ok = true) (h1 : n ≤ 9007199254740991) (h2 : -9007199254740991 ≤ n) : exactO n ok = done (vn n) := by
  unfold exactO big; exact if_pos ⟨h, h1, h2⟩
theorem exactO_out {n : Int} {ok : Bool} (h : ok = false ∨ 9007199254740991 < n ∨ n < -9007199254740991) : exactO n ok = ⟨vu, ⟨#[]⟩, 2⟩ := by
  unfold exactO big; refine if_neg (fun hh => ?_); obtain ⟨a, b, c⟩ := hh; rcases h with h | h | h
  · rw [h] at a; cases a
  · omega
  · omega

def truthy (v : V) : Bool :=
  if (sane v).k = 2 ∨ (sane v).k = 3 then (sane v).n != 0 else if (sane v).k = 4 then !((sane v).s.toList.isEmpty) else (sane v).k == 5

def tNull : ByteArray := ⟨#[110, 117, 108, 108]⟩
def tUndef : ByteArray := ⟨#[117, 110, 100, 101, 102, 105, 110, 101, 100]⟩
def tTrue : ByteArray := ⟨#[116, 114, 117, 101]⟩
def tFalse : ByteArray := ⟨#[102, 97, 108, 115, 101]⟩
def eNum : ByteArray := ⟨#[84, 121, 112, 101, 69, 114, 114, 111, 114, 58, 32, 110, 117, 109, 98, 101, 114]⟩
def eOrder : ByteArray := ⟨#[84, 121, 112, 101, 69, 114, 114, 111, 114, 58, 32, 111, 114, 100, 101, 114]⟩
def ePlus : ByteArray := ⟨#[84, 121, 112, 101, 69, 114, 114, 111, 114, 58, 32, 43]⟩
def digits (n : Int) : ByteArray := ⟨(Lib.itoa n).toArray⟩
/-- A value as text. -/
def textOf (v : V) : ByteArray :=
  if (sane v).k = 1 then tNull else if (sane v).k = 2 then (if (sane v).n = 0 then tFalse else tTrue) else if (sane v).k = 3 then digits (sane v).n
  else if (sane v).k = 4 then (sane v).s else if (sane v).k = 5 then ⟨#[]⟩ else tUndef
theorem clamp_bd (n : Int) : -9007199254740991 ≤ clamp n ∧ clamp n ≤ 9007199254740991 := by
  unfold clamp big
  by_cases h1 : (9007199254740991 : Int) < n
  · rw [if_pos h1]; omega
  · rw [if_neg h1]
    by_cases h2 : n < -9007199254740991
    · rw [if_pos h2]; omega
    · rw [if_neg h2]; omega
theorem sane_bd (v : V) (h : (sane v).k = 3) : -9007199254740991 ≤ (sane v).n ∧ (sane v).n ≤ 9007199254740991 := by
  unfold sane at h ⊢
  split at h
  · simp [vb] at h
  · rw [if_neg (by assumption)]; split at h
    · rw [if_pos (by assumption)]; exact clamp_bd v.n
    · split at h
      · simp [vs] at h
      · split at h
        · simp at h
        · split at h
          · simp at h
          · simp [vu] at h

/-- What an operator of one value answers. -/
def opNot : ByteArray := ⟨#[33]⟩
def opNeg : ByteArray := ⟨#[45]⟩
def opCom : ByteArray := ⟨#[126]⟩
theorem ret_agg3 {a b : Int} {s t : ByteArray} {k n : Int} (h1 : k = a) (h2 : n = b) (h3 : s = t) : Ending.returned (.agg #[.int .i64 k, .int .i64 n, .string s]) = .returned (.agg #[.int .i64 a, .int .i64 b, .string t]) := by rw [h1, h2, h3]
end Go.Proofs.YtkfpomkfgdkjdaaDoor
