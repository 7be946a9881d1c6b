/- Plain: a part of a slice of bytes, made a string. -/
import Derived.Test.YtdlppdoankeilaaDoorConv
namespace Go.Proofs.YtdlppdoankeilaaDoor
set_option linter.unusedVariables false
set_option linter.unusedSimpArgs false
set_option linter.unnecessarySimpa false
open Go.RowKit
theorem Rd.shift {w : World} {B n : Nat} {ad : Addr} {f : Nat → Value} (h : Rd w B (some ad) n f) {lo m : Nat} (hm : lo + m ≤ n) : Rd w B (some (ad.add lo)) m (fun j => f (lo + j)) := fun j hj => by
  obtain ⟨ad2, e, hb, hc⟩ := h (lo + j) (by omega)
  obtain rfl : ad = ad2 := by injection e
  exact ⟨_, rfl, by rw [block_add]; exact hb, by rw [add_add]; exact hc⟩
theorem extract_len {s : ByteArray} {lo n : Nat} (h : lo + n ≤ s.size) : (s.extract lo (lo + n)).size = n := by rw [ByteArray.size_extract]; omega
theorem Rd.part_of {w : World} {B : Nat} {ad : Addr} {s : ByteArray} (h : Rd w B (some ad) s.size (byteC s)) {lo n : Nat} (hm : lo + n ≤ s.size) : Rd w B (some (ad.add lo)) (s.extract lo (lo + n)).size (byteC (s.extract lo (lo + n))) := by
  rw [extract_len hm]
  exact (h.shift hm).congr fun j hj => by unfold byteC; rw [bt_extract (by omega) hm]
theorem run_part {P : Program} {w : World} {B : Nat} {ad : Addr} {s : ByteArray} (src dst e : TypeId) (hs : P.underlying src = some (.slice e)) (he : P.underlying e = some (.int .u8)) (hd : P.underlying dst = some .string)
    (h : Rd w B (some ad) s.size (byteC s)) (lo n m : Nat) (hm : lo + n ≤ s.size) : (convert src dst (.slice (some (ad.add lo)) n m)).run P w = .ok (.string (s.extract lo (lo + n))) w := by
  have := run_string_of (P := P) src dst e m hs he hd (h.part_of hm)
  rwa [extract_len hm] at this
end Go.Proofs.YtdlppdoankeilaaDoor
