/- The contracts of package bitrow's reader: Align, Bytes. -/
import Derived.Test.YtmdlhbhdlhjakaaInfR
set_option linter.unusedVariables false
set_option linter.unusedSimpArgs false
namespace Go.Proofs.Ytmdlhbhdlhjakaa
open Go.RowKit

set_option maxRecDepth 100000 in
theorem ralign_ok {w : World} {g : Nat} {s : ByteArray} {p : Nat} (h : RdSt w g s p) (hs : s.size ≤ 140737488355328) :
    Calls Try.prog 112 #[.pointer (some ⟨g, 0, none⟩)] w fun e w' => e = .returned (.tuple #[]) ∧ Chg g [73] w w' ∧ RdSt w' g s (8 * ((p + 7) / 8)) := by
  obtain ⟨m, a, hb, hm, ha, has⟩ := h
  have h1 := hb.cell 1 rfl
  have hB := Sealed.mk hb
  have HA := Sealed.mk ha
  have HT0 := (take_any (w := w.drew) (m := m) (d := m) hb.drew (Nat.lt_of_lt_of_le (val_lt (bit_le s) p m) (Nat.pow_le_pow_right (by decide) (by omega))) (by omega) (Nat.le_refl _))
  have hmm : (m : Int) % 8 = (m : Int) := by omega
  have HT : Sealed (Calls Try.prog 79 #[.pointer (some ⟨g, 0, none⟩), .int .i64 ((m : Int) % 8)] w.drew fun e w' => e = .returned (.int .i64 ((val (bit s) p m % 2 ^ m : Nat) : Int)) ∧
      IsBlk w' g (.int .i64 ((val (bit s) p m / 2 ^ m : Nat) : Int) :: .int .i64 ((m - m : Nat) : Int) :: [.string s, .int .i64 a]) 73 ∧ Chg g [73] w.drew w') := ⟨by rw [hmm]; exact HT0⟩
  clear hb ha hmm HT0
  go_enter Try.func112, Try.ntmps112
  go_wp2
  go_still_tail 9, (by kernel_rfl)
  go_wp2_with fail
  refine HT.out.mono ?_
  rintro e w1 ⟨rfl, h2, h3⟩
  have H2 := Sealed.mk h2
  have H3 := Sealed.mk h3
  clear h2 h3
  go_wp2
  go_end0
  refine ⟨rfl, (Chg.refl g _ w).drew.trans H3.out, 0, a, ?_, by omega, by have := HA.out; omega, has⟩
  have e := H2.out
  rw [Nat.sub_self] at e
  have hv : val (bit s) p m / 2 ^ m = 0 := Nat.div_eq_of_lt (val_lt (bit_le s) p m)
  rw [hv] at e
  exact e
set_option maxRecDepth 100000 in
theorem rbytes_short {w : World} {g : Nat} {s : ByteArray} {q : Nat} (h : RdSt w g s (8 * q)) (hs : s.size ≤ 140737488355328) (n : Nat) (hn : n ≤ 1000000000) (hlt : s.size < q + n) :
    Calls Try.prog 113 #[.pointer (some ⟨g, 0, none⟩), .int .i64 n] w fun e w' => e = .returned (.tuple #[.string ⟨#[]⟩, .int .i64 5]) ∧ Chg g [73] w w' ∧ RdSt w' g s (8 * q) := by
  have hq := h.le
  obtain ⟨m, a, hb, hm, ha, has⟩ := h
  obtain rfl : m = 0 := by omega
  obtain rfl : a = q := by omega
  have h1 := hb.cell 1 rfl
  have h2 := hb.cell 2 rfl
  have h3 := hb.cell 3 rfl
  have hB := Sealed.mk hb
  have h0 : decide ((n : Int) < 0) = false := decide_eq_false (by omega)
  have ht : decide ((s.size : Int) - (a : Int) < (n : Int)) = true := decide_eq_true (by omega)
  clear hb ha hq
  go_enter Try.func113, Try.ntmps113
  go_wp2
  go_quiet (fail)
  go_wp2
  go_ret2
  exact ⟨rfl, (Chg.refl _ _ w).drewN _, 0, a, hB.out.drewN _, by omega, by omega, has⟩
set_option maxRecDepth 100000 in
theorem rbytes_ok {w : World} {g : Nat} {s : ByteArray} {q : Nat} (h : RdSt w g s (8 * q)) (hs : s.size ≤ 140737488355328) (n : Nat) (hn : n ≤ 1000000000) (hlt : q + n ≤ s.size) :
    Calls Try.prog 113 #[.pointer (some ⟨g, 0, none⟩), .int .i64 n] w fun e w' => e = .returned (.tuple #[.string (s.extract q (q + n)), .int .i64 0]) ∧ Chg g [73] w w' ∧ RdSt w' g s (8 * (q + n)) := by
  have hq := h.le
  obtain ⟨m, a, hb, hm, ha, has⟩ := h
  obtain rfl : m = 0 := by omega
  obtain rfl : a = q := by omega
  have h1 := hb.cell 1 rfl
  have h2 := hb.cell 2 rfl
  have h3 := hb.cell 3 rfl
  have f0 := hb.free 0
  have f1 := hb.free 1
  have f3 := hb.free 3
  have h00 := hb.cell 0 rfl
  have hB := Sealed.mk hb
  have h0 : decide ((n : Int) < 0) = false := decide_eq_false (by omega)
  have ht : decide ((s.size : Int) - (a : Int) < (n : Int)) = false := decide_eq_false (by omega)
  clear hb ha hq
  go_enter Try.func113, Try.ntmps113
  go_wp2
  have hi1 : (a : Int) + (n : Int) ≤ (s.size : Int) := by omega
  have hi2 : ((a : Int) + (n : Int)).toNat = a + n := by omega
  have hi3 : 0 ≤ (a : Int) + (n : Int) := by omega
  have hi4 : (a : Int) ≤ (a : Int) + (n : Int) := by omega
  go_quiet (fail)
  go_wp2
  go_quiet (fail)
  go_wp2
  go_ret2
  have b1 := hB.out.set 0 (.int .i64 0)
  have c1 := (Chg.refl g [73] w).set hB.out (Nat.le_refl _) (by simp) 0 (.int .i64 0)
  have b2 := b1.set 1 (.int .i64 0)
  have c2 := c1.set b1 (Nat.le_refl _) (by simp) 1 (.int .i64 0)
  have b3 := b2.set 3 (.int .i64 ((a : Int) + (n : Int)))
  have c3 := c2.set b2 (Nat.le_refl _) (by simp) 3 (.int .i64 ((a : Int) + (n : Int)))
  refine ⟨rfl, ⟨c3.os, c3.tape, c3.output, c3.size, c3.block⟩, 0, a + n, ?_, by omega, by omega, hlt⟩
  rw [show (((a + n : Nat)) : Int) = (a : Int) + (n : Int) by omega]
  exact b3
end Go.Proofs.Ytmdlhbhdlhjakaa
