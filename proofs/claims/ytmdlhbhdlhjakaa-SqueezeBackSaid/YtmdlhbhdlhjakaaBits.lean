/- Bits: the bits of bytes, the number that some bits are; the walk's operators on 64 bits as such numbers. -/
import Derived.Laws.BitsLemmas
import Derived.WalkKit
set_option linter.unusedVariables false
set_option linter.unusedSimpArgs false
namespace Go.Proofs.Ytmdlhbhdlhjakaa
open Go.RowKit

def byteAt (s : ByteArray) (i : Nat) : Nat := if h : i < s.size then (s[i]'h).toNat else 0
theorem byteAt_lt (s : ByteArray) (i : Nat) : byteAt s i < 256 := by
  unfold byteAt
  split
  · exact UInt8.toNat_lt _
  · omega
theorem byteAt_get (s : ByteArray) (i : Nat) (h : i < s.size) : (s[i]'h).toNat = byteAt s i := by simp [byteAt, h]

/-- The bit of a place in bytes, the lowest of a byte ahead. -/
def bit (s : ByteArray) (p : Nat) : Nat := byteAt s (p / 8) / 2 ^ (p % 8) % 2
/-- The number of n bits from p on, the lowest ahead. -/
def val (f : Nat → Nat) (p : Nat) : Nat → Nat
  | 0 => 0
  | n + 1 => val f p n + 2 ^ n * f (p + n)
def IsBits (f : Nat → Nat) : Prop := ∀ i, f i ≤ 1
theorem bit_le (s : ByteArray) : IsBits (bit s) := fun p => by unfold bit; omega
theorem val_lt {f : Nat → Nat} (hf : IsBits f) (p : Nat) : ∀ n, val f p n < 2 ^ n
  | 0 => by simp [val]
  | n + 1 => by
    have h1 := val_lt hf p n
    have h2 := hf (p + n)
    rw [val, Nat.pow_succ]
    have : 2 ^ n * f (p + n) ≤ 2 ^ n * 1 := Nat.mul_le_mul_left _ h2
    omega
theorem val_add (f : Nat → Nat) (p a : Nat) : ∀ b, val f p (a + b) = val f p a + 2 ^ a * val f (p + a) b
  | 0 => by simp [val]
  | b + 1 => by
    rw [← Nat.add_assoc, val, val_add f p a b, val, Nat.mul_add, Nat.pow_add, Nat.add_assoc, Nat.mul_assoc, Nat.add_assoc p a b]
theorem val_mod {f : Nat → Nat} (hf : IsBits f) (p : Nat) {a n : Nat} (h : a ≤ n) : val f p n % 2 ^ a = val f p a := by
  obtain ⟨b, rfl⟩ := Nat.exists_eq_add_of_le h
  rw [val_add, Nat.add_mul_mod_self_left]
  exact Nat.mod_eq_of_lt (val_lt hf p a)
theorem val_div {f : Nat → Nat} (hf : IsBits f) (p : Nat) {a n : Nat} (h : a ≤ n) : val f p n / 2 ^ a = val f (p + a) (n - a) := by
  obtain ⟨b, rfl⟩ := Nat.exists_eq_add_of_le h
  rw [val_add, Nat.add_mul_div_left _ _ (Nat.two_pow_pos a), Nat.div_eq_of_lt (val_lt hf p a), Nat.add_sub_cancel_left, Nat.zero_add]
theorem val_congr {f g : Nat → Nat} {p q : Nat} : ∀ n, (∀ i, i < n → f (p + i) = g (q + i)) → val f p n = val g q n
  | 0, _ => rfl
  | n + 1, h => by rw [val, val, val_congr n (fun i hi => h i (by omega)), h n (by omega)]
theorem val_one (f : Nat → Nat) (p : Nat) : val f p 1 = f p := by simp [val]
/-- The number of digits to the base 2, back. -/
theorem val_digits (n : Nat) : ∀ k, val (fun j => n / 2 ^ j % 2) 0 k = n % 2 ^ k
  | 0 => by simp [val, Nat.mod_one]
  | k + 1 => by
    rw [val, val_digits n k, Nat.pow_succ, Nat.mod_mul, Nat.zero_add]
theorem val_byte (s : ByteArray) (i : Nat) : val (bit s) (8 * i) 8 = byteAt s i := by
  have h : val (bit s) (8 * i) 8 = val (fun j => byteAt s i / 2 ^ j % 2) 0 8 := by
    refine val_congr 8 fun j hj => ?_
    have h1 : (8 * i + j) / 8 = i := by omega
    have h2 : (8 * i + j) % 8 = j := by omega
    simp only [bit, h1, h2, Nat.zero_add]
  rw [h, val_digits]
  exact Nat.mod_eq_of_lt (byteAt_lt s i)

theorem val_push (s : ByteArray) {p m a : Nat} (ha : 8 * a = p + m) (h : a < s.size) : val (bit s) p m + (s[a]'h).toNat * 2 ^ m = val (bit s) p (m + 8) := by
  rw [val_add, byteAt_get s a h, ← val_byte s a, ha, Nat.mul_comm]

/-! ### The walk's operators on 64 bits -/
theorem wraps_i62 (n : Int) (h0 : 0 ≤ n) (h1 : n < 2 ^ 62) : IntKind.i64.wrap n = n := by rw [IntKind.wrap_i64]; omega
theorem wrap64_small {n : Int} (h0 : -9223372036854775808 ≤ n) (h1 : n ≤ 9223372036854775807) : wrap64 n = n := by unfold wrap64; omega
theorem bits_or_add (x y i : Nat) (hx : x < 2 ^ i) (hxy : x + y * 2 ^ i < 2 ^ 62) (hi : i ≤ 62) : bits .or .i64 (x : Int) (((y * 2 ^ i : Nat) : Int)) = ((x + y * 2 ^ i : Nat) : Int) := by
  have h1 : bits .or .i64 (x : Int) (((y * 2 ^ i : Nat) : Int)) = ((x ||| (y * 2 ^ i) : Nat) : Int) :=
    (bits_nat .i64 62 (by decide) (fun n a b => wraps_i62 n a b) x (y * 2 ^ i) (by omega) (by omega)).2
  rw [h1]
  congr 1
  rw [Nat.or_comm, Nat.mul_comm, ← Nat.two_pow_add_eq_or_of_lt hx y, Nat.add_comm]
theorem bits_and_mask (x i : Nat) (hx : x < 2 ^ 62) (hi : i ≤ 61) : bits .and .i64 (x : Int) (((2 ^ i - 1 : Nat) : Int)) = ((x % 2 ^ i : Nat) : Int) := by
  have hp : 2 ^ i ≤ 2 ^ 61 := Nat.pow_le_pow_right (by decide) hi
  have h1 : bits .and .i64 (x : Int) (((2 ^ i - 1 : Nat) : Int)) = ((x &&& (2 ^ i - 1) : Nat) : Int) :=
    (bits_nat .i64 62 (by decide) (fun n a b => wraps_i62 n a b) x (2 ^ i - 1) hx (by have := Nat.two_pow_pos i; omega)).1
  rw [h1, Nat.and_two_pow_sub_one_eq_mod]
end Go.Proofs.Ytmdlhbhdlhjakaa
