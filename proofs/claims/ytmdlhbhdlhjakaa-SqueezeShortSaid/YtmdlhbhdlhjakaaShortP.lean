/- Plain: how long deflated bytes are. -/
import Derived.Test.YtmdlhbhdlhjakaaBest
import Derived.Test.YtmdlhbhdlhjakaaBytesP
set_option linter.unusedVariables false
set_option linter.unusedSimpArgs false
namespace Go.Proofs.Ytmdlhbhdlhjakaa
open Go.RowKit

def blocksOf (n : Nat) : Nat := max 1 ((n + 65534) / 65535)
theorem storedL_len : ∀ (k : Nat) (s : ByteArray), s.size ≤ 65535 * k → 1 ≤ k → (storedL k s).length = s.size + 5 * blocksOf s.size
  | 0, s, _, h => by omega
  | k + 1, s, h, _ => by
    rw [storedL]
    unfold blocksOf
    split
    · rw [List.length_append, bytesOf_len]
      simp only [blkOf, List.length_cons, List.length_nil]
      omega
    · have hs : (s.extract 65535 s.size).size = s.size - 65535 := by simp [ByteArray.size_extract]
      rw [List.length_append, List.length_append, bytesOf_len, storedL_len k _ (by rw [hs]; omega) (by omega), hs]
      unfold blocksOf
      simp only [blkOf, List.length_cons, List.length_nil]
      omega
theorem storedB_size (s : ByteArray) : (storedB s).size = s.size + 5 * blocksOf s.size := by
  unfold storedB
  rw [strOfNums_size]
  simp only [castL, List.length_map]
  exact storedL_len _ s (by omega) (by omega)
theorem bestB_le (s : ByteArray) : (bestB s).size ≤ s.size + 5 * blocksOf s.size := by
  have := storedB_size s
  unfold bestB
  split <;> omega
theorem bestB_fixed (s : ByteArray) : (bestB s).size ≤ (fixedB s).size := by
  unfold bestB
  split <;> omega
theorem fixedB_size (s : ByteArray) : (fixedB s).size = ((fixBits s).length + 7) / 8 := by
  unfold fixedB
  exact textOf_size _

/-! ### one byte, many times -/
def Same1 (s : ByteArray) (c : Nat) : Prop := ∀ i, i < s.size → byteAt s i = c
theorem pieceK_ge {s : ByteArray} {q : Nat} : ∀ j n b, n ≤ (pieceK s q j n b).1
  | 0, n, b => Nat.le_refl _
  | j + 1, n, b => by
    rw [pieceK]
    split
    · split
      · have := pieceK_ge (s := s) (q := q) j (alikeOf s j q) (q - j); omega
      · exact pieceK_ge j n b
    · exact Nat.le_refl _
theorem alike_same {s : ByteArray} {c q : Nat} (h : Same1 s c) (hq : 1 ≤ q) (hs : q < s.size) : min 258 (s.size - q) ≤ alikeOf s (q - 1) q := by
  have h1 := alikeFrom_stop s (q - 1) q 258 0
  unfold alikeOf
  generalize ha : alikeFrom s (q - 1) q 258 0 = a at h1
  by_cases c1 : a < 258
  · have h2 := h1 (by omega)
    by_cases c2 : q + a < s.size
    · exact absurd ⟨c2, by rw [h _ c2, h _ (by omega)]⟩ h2
    · omega
  · omega
theorem find_same {s : ByteArray} {c q : Nat} (h : Same1 s c) (hq : 1 ≤ q) (hs : q + 3 ≤ s.size) : (findOf s q).1 = min 258 (s.size - q) := by
  have h1 := alike_same h hq (by omega)
  have h2 : min 258 (s.size - q) ≤ (findOf s q).1 := by
    unfold findOf
    rw [if_pos hs]
    obtain ⟨j, rfl⟩ : ∃ j, q = j + 1 := ⟨q - 1, by omega⟩
    rw [pieceK, if_pos (by omega)]
    rw [Nat.add_sub_cancel] at h1
    rw [if_pos ⟨by omega, by omega⟩]
    exact Nat.le_trans h1 (pieceK_ge _ _ _)
  rcases findOf_good s q with ⟨h0, _⟩ | ⟨g1, g2, g3, g4, g5⟩
  · omega
  · have h7 := alikeOf_le s (q - (findOf s q).2) q
    have h8 := (alikeOf_eq (s := s) (j := q - (findOf s q).2) (q := q) (i := (findOf s q).1 - 1) (by omega)).1
    omega
theorem find_bd {s : ByteArray} {q : Nat} (h3 : ¬ (findOf s q).1 < 3) : 3 ≤ (findOf s q).1 ∧ (findOf s q).1 ≤ 258 ∧ 1 ≤ (findOf s q).2 ∧ (findOf s q).2 ≤ 32768 ∧ (findOf s q).2 ≤ q ∧ q + (findOf s q).1 ≤ s.size := by
  rcases findOf_good s q with ⟨h0, _⟩ | ⟨g1, g2, g3, g4, g5⟩
  · omega
  · have h7 := alikeOf_le s (q - (findOf s q).2) q
    have h8 := (alikeOf_eq (s := s) (j := q - (findOf s q).2) (q := q) (i := (findOf s q).1 - 1) (by omega)).1
    omega
theorem toks_bits (s : ByteArray) : ∀ k q, q ≤ s.size → (bitsT (toksFrom s k q)).length ≤ 48 * (s.size - q)
  | 0, q, h => by simp [toksFrom, bitsT]
  | k + 1, q, h => by
    rw [toksFrom]
    split
    · split
      · have h1 := toks_bits s k (q + 1) (by omega)
        have h2 := lit_len (i := byteAt s q) (by have := byteAt_lt s q; omega)
        show (tokBits (.lit (byteAt s q)) ++ bitsT (toksFrom s k (q + 1))).length ≤ _
        rw [List.length_append]
        simp only [tokBits]
        omega
      · rename_i h3
        obtain ⟨a1, a2, a3, a4, a5, a6⟩ := find_bd h3
        have h1 := toks_bits s k (q + (findOf s q).1) a6
        have h2 := copyBits_len a1 a2 a3 a4
        show (tokBits (.copy (findOf s q).1 (findOf s q).2) ++ bitsT (toksFrom s k (q + (findOf s q).1))).length ≤ _
        rw [List.length_append]
        simp only [tokBits]
        omega
    · simp [bitsT]
theorem toks_copy {s : ByteArray} {c q : Nat} (h : Same1 s c) (k : Nat) (hq : 1 ≤ q) (hs : q + 3 ≤ s.size) : (bitsT (toksFrom s (k + 1) q)).length ≤ 48 + (bitsT (toksFrom s k (q + min 258 (s.size - q)))).length := by
  have hf := find_same h hq hs
  have h3 : ¬ (findOf s q).1 < 3 := by omega
  obtain ⟨a1, a2, a3, a4, a5, a6⟩ := find_bd h3
  have h2 := copyBits_len a1 a2 a3 a4
  rw [toksFrom, if_pos (by omega), if_neg h3, ← hf]
  show (tokBits (.copy (findOf s q).1 (findOf s q).2) ++ bitsT (toksFrom s k (q + (findOf s q).1))).length ≤ _
  rw [List.length_append]
  simp only [tokBits]
  omega
theorem same_short {s : ByteArray} {c : Nat} (h : Same1 s c) (h1 : 300 ≤ s.size) (h2 : s.size ≤ 555) : 10 * (bestB s).size < s.size := by
  have hb := bestB_fixed s
  rw [fixedB_size] at hb
  have e : (fixBits s).length = 3 + (bitsT (toksOf s)).length + (symBits litL 256).length := by
    unfold fixBits
    simp only [List.length_append, numBits_length]
  have h256 := lit_len (i := 256) (by omega)
  have ht : (bitsT (toksOf s)).length ≤ 15 + 48 + 48 + 96 := by
    unfold toksOf
    obtain ⟨k, hk⟩ : ∃ k, s.size = k + 1 + 1 + 1 := ⟨s.size - 3, by omega⟩
    have e0 : toksFrom s s.size 0 = toksFrom s (k + 1 + 1 + 1) 0 := by rw [← hk]
    rw [e0, toksFrom, if_pos (by omega), if_pos (by rcases findOf_good s 0 with ⟨g0, _⟩ | ⟨g1, g2, g3, g4, g5⟩ <;> omega)]
    have hl := lit_len (i := byteAt s 0) (by have := byteAt_lt s 0; omega)
    have c1 := toks_copy h (k + 1) (q := 1) (by omega) (by omega)
    rw [show 1 + min 258 (s.size - 1) = 259 by omega] at c1
    have c2 := toks_copy h k (q := 259) (by omega) (by omega)
    have c3 := toks_bits s k (259 + min 258 (s.size - 259)) (by omega)
    show (tokBits (.lit (byteAt s 0)) ++ bitsT (toksFrom s (k + 1 + 1) (0 + 1))).length ≤ _
    rw [List.length_append]
    simp only [tokBits, Nat.zero_add]
    by_cases hc : s.size ≤ 519
    · omega
    · obtain ⟨k', rfl⟩ : ∃ k', k = k' + 1 := ⟨k - 1, by omega⟩
      rw [show 259 + min 258 (s.size - 259) = 517 by omega] at c2
      have c4 := toks_copy h k' (q := 517) (by omega) (by omega)
      have c5 := toks_bits s k' (517 + min 258 (s.size - 517)) (by omega)
      omega
  simp only [Int.cast_ofNat_Int] at h256
  have h256' : (symBits litL 256).length ≤ 15 := h256.1
  omega
theorem repl_same (c m : Nat) (hc : c < 256) : Same1 (strOfNums (castL (List.replicate m c))) c := by
  intro i hi
  rw [str_size, List.length_replicate] at hi
  rw [byteAt_str (fun x hx => by rw [List.eq_of_mem_replicate hx]; exact hc)]
  simp [List.getD_eq_getElem?_getD, hi]
end Go.Proofs.Ytmdlhbhdlhjakaa
