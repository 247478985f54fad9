/- Plain: bytes as lists of numbers. -/
import Derived.Test.YtmdlhbhdlhjakaaStoreP
set_option linter.unusedVariables false
set_option linter.unusedSimpArgs false
namespace Go.Proofs.Ytmdlhbhdlhjakaa
open Go.RowKit

theorem str_size (bs : List Nat) : (strOfNums (castL bs)).size = bs.length := by rw [strOfNums_size]; simp [castL]
theorem byteAt_str {bs : List Nat} (hb : ∀ x ∈ bs, x < 256) (i : Nat) : byteAt (strOfNums (castL bs)) i = bs.getD i 0 := by
  by_cases h : i < bs.length
  · have hs : i < (strOfNums (castL bs)).size := by rw [str_size]; exact h
    rw [← byteAt_get _ _ hs]
    have e : (strOfNums (castL bs))[i]'hs = ((castL bs).map fun n => UInt8.ofNat n.toNat)[i]'(by simpa [castL] using h) := rfl
    rw [e]
    have hx := hb (bs[i]) (List.getElem_mem h)
    simp [castL, List.getD_eq_getElem?_getD, h]
    omega
  · rw [List.getD_eq_getElem?_getD, List.getElem?_eq_none (by omega)]
    unfold byteAt
    rw [dif_neg (by rw [str_size]; exact h)]
    rfl
theorem bytesOf_get (s : ByteArray) {n i : Nat} (h : i < n) : (bytesOf s n).getD i 0 = byteAt s i := by simp [bytesOf, List.getD_eq_getElem?_getD, h]
theorem byteArray_ext {s t : ByteArray} (h : s.size = t.size) (hb : ∀ i, i < s.size → byteAt s i = byteAt t i) : s = t := by
  apply ByteArray.ext
  apply Array.ext
  · exact h
  · intro i h1 h2
    have hs : i < s.size := h1
    have ht : i < t.size := h2
    have := hb i hs
    rw [← byteAt_get s i hs, ← byteAt_get t i ht] at this
    exact UInt8.toNat_inj.1 this
theorem str_bytes (s : ByteArray) : strOfNums (castL (bytesOf s s.size)) = s := by
  have hl : (strOfNums (castL (bytesOf s s.size))).size = s.size := by rw [str_size, bytesOf_len]
  refine byteArray_ext hl fun i hi => ?_
  rw [hl] at hi
  rw [byteAt_str (bytesOf_lt s s.size), bytesOf_get s hi]
end Go.Proofs.Ytmdlhbhdlhjakaa
