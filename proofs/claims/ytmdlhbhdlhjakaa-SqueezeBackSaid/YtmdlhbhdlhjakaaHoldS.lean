/- Plain: what is deflated as it is is told again. -/
import Derived.Test.YtmdlhbhdlhjakaaHoldP
set_option linter.unusedVariables false
set_option linter.unusedSimpArgs false
namespace Go.Proofs.Ytmdlhbhdlhjakaa
open Go.RowKit

theorem storedL_one {s : ByteArray} (h : s.size ≤ 65535) (k : Nat) : storedL (k + 1) s = blkOf 1 s.size ++ bytesOf s s.size := by rw [storedL, if_pos h]
theorem blk_head {n : Nat} (bs : List Nat) : byteBits (blkOf 1 n ++ bs) = numBits 1 1 ++ (numBits 0 2 ++ (numBits 0 5 ++ (numBits n 16 ++ (numBits (65535 - n) 16 ++ byteBits bs)))) := by
  have h := blk_bits (last := 1) (n := n) (by omega) []
  have e : alignZeros ((byteBits [] ++ numBits 1 1) ++ numBits 0 2).length = 5 := by decide
  rw [e] at h
  rw [byteBits_append, ← List.nil_append (blkOf 1 n), ← h]
  simp [byteBits]
theorem inflate_plain {s : ByteArray} {most : Nat} (h64 : s.size ≤ 65535) (hm : s.size ≤ most) (k : Nat) : inflateS (strOfNums (castL (storedL (k + 1) s))) most = .ok (bytesOf s s.size, (strOfNums (castL (storedL (k + 1) s))).size) := by
  rw [storedL_one h64]
  have hlt : ∀ x ∈ blkOf 1 s.size ++ bytesOf s s.size, x < 256 := fun x hx => (List.mem_append.1 hx).elim (blkOf_lt (by omega) h64 x) (bytesOf_lt _ _ x)
  have hsz : (strOfNums (castL (blkOf 1 s.size ++ bytesOf s s.size))).size = 5 + s.size := by rw [str_size, List.length_append, bytesOf_len]; rfl
  have hby : ∀ i, i < s.size → byteAt (strOfNums (castL (blkOf 1 s.size ++ bytesOf s s.size))) (5 + i) = byteAt s i := fun i hi => by
    rw [byteAt_str hlt, List.getD_eq_getElem?_getD, List.getElem?_append_right (by simp [blkOf])]
    have e : 5 + i - (blkOf 1 s.size).length = i := by simp [blkOf]
    rw [e, ← List.getD_eq_getElem?_getD, bytesOf_get s hi]
  have hh := holds_text (byteBits_row (blkOf 1 s.size ++ bytesOf s s.size))
  rw [textOf_bytes _ hlt, blk_head] at hh
  generalize strOfNums (castL (blkOf 1 s.size ++ bytesOf s s.size)) = t at *
  have h1 := hh.right
  rw [numBits_length] at h1
  have h2 := h1.right
  rw [numBits_length] at h2
  have h3 := h2.right
  rw [numBits_length] at h3
  have h4 := h3.right
  rw [numBits_length] at h4
  have g3 := getS_holds h3.left (by omega)
  have g4 := getS_holds h4.left (by omega)
  have hb : bytesAt t 5 s.size = bytesOf s s.size := by
    refine List.map_congr_left fun i hi => ?_
    exact hby i (List.mem_range.1 hi)
  have hs : storedS t most 3 [] = .ok (bytesOf s s.size, 40 + 8 * s.size) := by
    unfold storedS
    change getS t 8 16 = _ at g3
    rw [show 8 * ((3 + 7) / 8) = 8 by rfl, g3]; simp only
    change getS t (8 + 16) 16 = _ at g4
    rw [g4]; simp only
    rw [if_neg (by omega), show (8 + 16 + 16) / 8 = 5 by rfl, if_neg (by omega), if_neg (by simpa using hm), hb]
    rfl
  unfold inflateS
  rw [inflS, getS_holds hh.left (by decide)]; simp only
  rw [getS_holds h1.left (by decide)]; simp only
  unfold kindS
  rw [if_pos rfl]
  change storedS t most (0 + 1 + 2) [] = _ at hs
  rw [hs]; simp only [if_true]
  rw [hsz]
  congr 2
  omega
end Go.Proofs.Ytmdlhbhdlhjakaa
