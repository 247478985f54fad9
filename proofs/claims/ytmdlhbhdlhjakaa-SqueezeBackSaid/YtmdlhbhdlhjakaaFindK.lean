/- The contract of package squeeze's finder: key. -/
import Derived.Test.YtmdlhbhdlhjakaaCoder
set_option linter.unusedVariables false
set_option linter.unusedSimpArgs false
namespace Go.Proofs.Ytmdlhbhdlhjakaa
open Go.RowKit

theorem or_hi (x y i : Nat) (hy : y < 2 ^ i) (hxy : x * 2 ^ i + y < 2 ^ 62) : bits .or .i64 (((x * 2 ^ i : Nat) : Int)) (y : Int) = ((x * 2 ^ i + y : Nat) : Int) := by
  have h1 : bits .or .i64 (((x * 2 ^ i : Nat) : Int)) (y : Int) = (((x * 2 ^ i) ||| y : Nat) : Int) :=
    (bits_nat .i64 62 (by decide) (fun n a b => wraps_i62 n a b) (x * 2 ^ i) y (by omega) (by omega)).2
  rw [h1]
  congr 1
  rw [Nat.mul_comm, ← Nat.two_pow_add_eq_or_of_lt hy x]
def keyOf (s : ByteArray) (q : Nat) : Nat := byteAt s q * 65536 + byteAt s (q + 1) * 256 + byteAt s (q + 2)
set_option maxRecDepth 100000 in
theorem key_any {w : World} {g : Nat} {s : ByteArray} {rest : List Value} (q : Nat) (hb : IsBlk w g (.string s :: rest) 84) (hs : s.size ≤ 1000000000) (hq : q + 3 ≤ s.size) :
    Calls Try.prog 81 #[.pointer (some ⟨g, 0, none⟩), .int .i64 q] w fun e w' => e = .returned (.int .i64 (keyOf s q)) ∧ ∃ m, w' = w.drewN m := by
  have h0 := hb.cell 0 rfl
  have hb0 := byteAt_get s q (by omega)
  have hb1 := byteAt_get s (q + 1) (by omega)
  have hb2 := byteAt_get s (q + 2) (by omega)
  have l0 := byteAt_lt s q
  have l1 := byteAt_lt s (q + 1)
  have l2 := byteAt_lt s (q + 2)
  have hi0 : (q : Int) < (s.size : Int) := by omega
  have hi1 : (q : Int) + 1 < (s.size : Int) := by omega
  have hi2 : (q : Int) + 2 < (s.size : Int) := by omega
  have hx1 : 0 ≤ (q : Int) + 1 := by omega
  have hx2 : 0 ≤ (q : Int) + 2 := by omega
  have et1 : ((q : Int) + 1).toNat = q + 1 := by omega
  have et2 : ((q : Int) + 2).toNat = q + 2 := by omega
  have ew1 : IntKind.i64.wrap ((q : Int) + 1) = (q : Int) + 1 := by rw [IntKind.wrap_i64]; omega
  have ew2 : IntKind.i64.wrap ((q : Int) + 2) = (q : Int) + 2 := by rw [IntKind.wrap_i64]; omega
  obtain ⟨K, hK⟩ : ∃ K, K = keyOf s q := ⟨_, rfl⟩
  rw [← hK]
  unfold keyOf at hK
  generalize byteAt s q = b0 at *
  generalize byteAt s (q + 1) = b1 at *
  generalize byteAt s (q + 2) = b2 at *
  have HK := Sealed.mk hK
  clear hK
  go_enter Try.func81, Try.ntmps81
  go_wp2
  go_quiet (fail)
  go_wp2
  go_ret
  refine ⟨ret_int ?_, _, rfl⟩
  have e1 : bits .or .i64 ((b0 : Int) * 65536) ((b1 : Int) * 256) = (((b0 * 256 + b1) * 2 ^ 8 : Nat) : Int) := by
    have h := or_hi b0 (b1 * 256) 16 (by omega) (by omega)
    have a1 : ((b0 * 2 ^ 16 : Nat) : Int) = (b0 : Int) * 65536 := by omega
    have a2 : ((b1 * 256 : Nat) : Int) = (b1 : Int) * 256 := by omega
    rw [a1, a2] at h
    rw [h]; congr 1; omega
  rw [e1, or_hi (b0 * 256 + b1) b2 8 (by omega) (by omega), HK.out]
  congr 1; omega
end Go.Proofs.Ytmdlhbhdlhjakaa
