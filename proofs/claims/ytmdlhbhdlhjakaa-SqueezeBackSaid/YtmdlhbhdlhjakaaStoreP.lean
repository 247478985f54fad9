/- Plain: bytes that are deflated as they are. -/
import Derived.Test.YtmdlhbhdlhjakaaWriterB
set_option linter.unusedVariables false
set_option linter.unusedSimpArgs false
namespace Go.Proofs.Ytmdlhbhdlhjakaa
open Go.RowKit

def blkOf (last n : Nat) : List Nat := [last, n % 256, n / 256, (65535 - n) % 256, (65535 - n) / 256]
def bytesOf (s : ByteArray) (n : Nat) : List Nat := (List.range n).map (byteAt s)
def storedL : Nat → ByteArray → List Nat
  | 0, _ => []
  | k + 1, s => if s.size ≤ 65535 then blkOf 1 s.size ++ bytesOf s s.size else blkOf 0 65535 ++ bytesOf s 65535 ++ storedL k (s.extract 65535 s.size)
def byteBits (bs : List Nat) : List Nat := bs.flatMap fun x => numBits x 8
def castL (bs : List Nat) : List Int := bs.map fun x => ((x : Nat) : Int)
theorem byteBits_append (a b : List Nat) : byteBits (a ++ b) = byteBits a ++ byteBits b := by simp [byteBits]
theorem byteBits_len : ∀ bs : List Nat, (byteBits bs).length = 8 * bs.length
  | [] => rfl
  | x :: xs => by
    have := byteBits_len xs
    show (numBits x 8 ++ byteBits xs).length = _
    rw [List.length_append, this, numBits_length, List.length_cons]; omega
theorem byteBits_one (x : Nat) : byteBits [x] = numBits x 8 := by simp [byteBits]
theorem rowOf_bytes : ∀ (k : Nat) (bs : List Nat), bs.length = k → (∀ x ∈ bs, x < 256) → rowOf (byteBits bs) k = castL bs
  | 0, bs, h, _ => by
    obtain rfl := List.eq_nil_of_length_eq_zero h
    rfl
  | k + 1, bs, h, hb => by
    obtain ⟨l, x, rfl⟩ : ∃ l x, bs = l ++ [x] := ⟨bs.dropLast, bs.getLast (by intro e; subst e; simp at h), (List.dropLast_concat_getLast _).symm⟩
    have hl : l.length = k := by simpa using h
    have h8 := byteBits_len l
    rw [rowOf_succ, byteBits_append, byteBits_one, rowOf_left (by omega), rowOf_bytes k l hl (fun y hy => hb y (by simp [hy]))]
    have e := val_numBits (byteBits l) (n := x) (w := 8) (by have := hb x (by simp); omega)
    rw [h8, hl] at e
    rw [e]; simp [castL]
theorem textOf_bytes (bs : List Nat) (hb : ∀ x ∈ bs, x < 256) : textOf (byteBits bs) = strOfNums (castL bs) := by
  rw [textOf, byteBits_len, show (8 * bs.length + 7) / 8 = bs.length by omega, rowOf_bytes _ bs rfl hb]
theorem numBits_two (n : Nat) : numBits n 16 = numBits (n % 256) 8 ++ numBits (n / 256) 8 := by
  simp [numBits, List.range_succ]; omega
theorem numBits_head {last : Nat} (h : last ≤ 1) : numBits last 1 ++ numBits 0 2 ++ numBits 0 5 = numBits last 8 := by
  rcases Nat.lt_or_ge last 1 with h1 | h1
  · obtain rfl : last = 0 := by omega
    decide
  · obtain rfl : last = 1 := by omega
    decide
theorem blk_bits {last n : Nat} (h : last ≤ 1) (bs : List Nat) :
    (((((byteBits bs ++ numBits last 1) ++ numBits 0 2) ++ numBits 0 (alignZeros ((byteBits bs ++ numBits last 1) ++ numBits 0 2).length)) ++ numBits n 16) ++ numBits (65535 - n) 16) = byteBits (bs ++ blkOf last n) := by
  have e : alignZeros ((byteBits bs ++ numBits last 1) ++ numBits 0 2).length = 5 := by
    simp only [List.length_append, numBits_length, byteBits_len, alignZeros]; omega
  rw [e, numBits_two n, numBits_two (65535 - n), byteBits_append]
  have e2 : byteBits (blkOf last n) = numBits last 8 ++ (numBits (n % 256) 8 ++ (numBits (n / 256) 8 ++ (numBits ((65535 - n) % 256) 8 ++ numBits ((65535 - n) / 256) 8))) := by simp [byteBits, blkOf]
  rw [e2, ← numBits_head h]
  simp only [List.append_assoc]
theorem blkOf_lt {last n : Nat} (h : last ≤ 1) (hn : n ≤ 65535) : ∀ x ∈ blkOf last n, x < 256 := by
  intro x hx
  simp [blkOf] at hx
  omega
theorem bytesOf_lt (s : ByteArray) (n : Nat) : ∀ x ∈ bytesOf s n, x < 256 := by
  intro x hx
  simp [bytesOf] at hx
  obtain ⟨i, _, rfl⟩ := hx
  exact byteAt_lt s i
theorem bytesOf_succ (s : ByteArray) (n : Nat) : bytesOf s (n + 1) = bytesOf s n ++ [byteAt s n] := by simp [bytesOf, List.range_succ]
theorem bytesOf_len (s : ByteArray) (n : Nat) : (bytesOf s n).length = n := by simp [bytesOf]
theorem storedL_lt : ∀ (k : Nat) (s : ByteArray), ∀ x ∈ storedL k s, x < 256
  | 0, s, x, h => by simp [storedL] at h
  | k + 1, s, x, h => by
    rw [storedL] at h
    split at h
    · rcases List.mem_append.1 h with h | h
      · exact blkOf_lt (by omega) (by assumption) x h
      · exact bytesOf_lt _ _ x h
    · rcases List.mem_append.1 h with h | h
      · rcases List.mem_append.1 h with h | h
        · exact blkOf_lt (by omega) (by omega) x h
        · exact bytesOf_lt _ _ x h
      · exact storedL_lt k _ x h
theorem bits_xor_block (n : Nat) (h : n ≤ 65535) : bits .xor .i64 65535 (n : Int) = ((65535 - n : Nat) : Int) := by
  have e1 : (65535 : Int) = ((65535 : Nat) : Int) := rfl
  have e2 : 65535 ^^^ n = 65535 - n := by
    apply Nat.eq_of_testBit_eq
    intro i
    have h1 := Nat.testBit_two_pow_sub_succ (x := n) (n := 16) (by omega) i
    have h2 := Nat.testBit_two_pow_sub_one 16 i
    rw [show 2 ^ 16 - (n + 1) = 65535 - n by omega] at h1
    rw [show 2 ^ 16 - 1 = 65535 by decide] at h2
    rw [Nat.testBit_xor, h1, h2]
    by_cases hi : i < 16
    · simp [hi]
    · have : n.testBit i = false := Nat.testBit_lt_two_pow (Nat.lt_of_lt_of_le (show n < 2 ^ 16 by omega) (Nat.pow_le_pow_right (by decide) (by omega)))
      simp [hi, this]
  rw [e1]
  simp only [bits, BitVec.ofInt_natCast, BitVec.toNat_xor, BitVec.toNat_ofNat]
  rw [Nat.mod_eq_of_lt (show 65535 < 2 ^ IntKind.i64.bits by decide), Nat.mod_eq_of_lt (Nat.lt_of_le_of_lt h (show 65535 < 2 ^ IntKind.i64.bits by decide)), e2]
  exact wraps_i62 _ (by omega) (by omega)
end Go.Proofs.Ytmdlhbhdlhjakaa
