/- The walk of the statement SqueezeBack. -/
import Derived.Test.YtmdlhbhdlhjakaaHoldS
import Derived.Test.YtmdlhbhdlhjakaaInfN
import Derived.Test.YtmdlhbhdlhjakaaBest
set_option linter.unusedVariables false
set_option linter.unusedSimpArgs false
namespace Go.Proofs.Ytmdlhbhdlhjakaa
open Go.RowKit

theorem toks_most {s : ByteArray} : ∀ k q, q ≤ s.size → (bitsT (toksFrom s k q)).length ≤ 48 * (s.size - q)
  | 0, q, h => by simp [toksFrom, bitsT]
  | k + 1, q, h => by
    rw [toksFrom]
    by_cases hlt : q < s.size
    · rw [if_pos hlt]
      by_cases h3 : (findOf s q).1 < 3
      · rw [if_pos h3]
        have h9 : 48 * (s.size - (q + 1)) + 48 = 48 * (s.size - q) := by omega
        have e : bitsT (Tok.lit (byteAt s q) :: toksFrom s k (q + 1)) = symBits litL ((byteAt s q : Nat) : Int) ++ bitsT (toksFrom s k (q + 1)) := rfl
        have h1 := toks_most (s := s) k (q + 1) (by omega)
        have h8 := byteAt_lt s q
        have h2 := lit_len (i := byteAt s q) (by omega)
        rw [e, List.length_append]; omega
      · rw [if_neg h3]
        have hg := findOf_good s q
        generalize (findOf s q).1 = n at *
        generalize (findOf s q).2 = b at *
        rcases hg with ⟨rfl, _⟩ | ⟨g3, g1, gq, gb, gn⟩
        · omega
        have g258 : n ≤ 258 := by rw [gn]; exact alikeOf_le _ _ _
        have gsz : q + n ≤ s.size := by
          have := (alikeOf_eq (s := s) (j := q - b) (q := q) (i := n - 1) (by omega)).1; omega
        have e : bitsT (Tok.copy n b :: toksFrom s k (q + n)) = copyBits n b ++ bitsT (toksFrom s k (q + n)) := rfl
        have h1 := toks_most (s := s) k (q + n) gsz
        have h2 := copyBits_len g3 g258 g1 gb
        rw [e, List.length_append]; omega
    · rw [if_neg hlt]; simp [bitsT]
theorem fixedB_most (s : ByteArray) : (fixedB s).size ≤ 6 * s.size + 10 := by
  have h := toks_most (s := s) s.size 0 (by omega)
  have h2 := lit_len (i := 256) (by omega)
  unfold fixedB
  rw [textOf_size]
  unfold fixBits toksOf
  simp only [List.length_append, numBits_length]
  have e : symBits litL 256 = symBits litL ((256 : Nat) : Int) := rfl
  rw [e]
  omega
theorem storedB_len {s : ByteArray} (h : s.size ≤ 65535) : (storedB s).size = 5 + s.size := by
  unfold storedB
  rw [storedL_one h, str_size, List.length_append, bytesOf_len]; rfl
theorem tells_fixed {s : ByteArray} {most : Nat} (hm : s.size ≤ most) : inflateS (fixedB s) most = .ok (bytesOf s s.size, (fixedB s).size) := inflate_fixed hm
theorem tells_stored {s : ByteArray} {most : Nat} (h : s.size ≤ 65535) (hm : s.size ≤ most) : inflateS (storedB s) most = .ok (bytesOf s s.size, (storedB s).size) := inflate_plain h hm _
theorem tells_best {s : ByteArray} {most : Nat} (h : s.size ≤ 65535) (hm : s.size ≤ most) : inflateS (bestB s) most = .ok (bytesOf s s.size, (bestB s).size) := by
  unfold bestB
  split
  · exact tells_fixed hm
  · exact tells_stored h hm
theorem bestB_len {s : ByteArray} (h : s.size ≤ 65535) : (bestB s).size ≤ 5 + s.size := by
  have := storedB_len h
  unfold bestB
  split
  · omega
  · omega
set_option maxRecDepth 100000 in
set_option maxHeartbeats 1000000 in
theorem back_walk11 (s : ByteArray) (w : World) : Calls Try.prog 11 #[.string s] w fun e w' => e = .returned (.bool true) ∧ Below w.heap.size w w' := by
  by_cases h : 5000 < s.size
  · have hd : decide (5000 < (s.size : Int)) = true := decide_eq_true (by omega)
    clear h
    go_enter Try.func11, Try.ntmps11
    go_wp2_with fail
    refine (squeezed_any _).mono ?_
    rintro e w1 ⟨rfl, hb⟩
    have B1 := Sealed.mk hb
    clear hb
    go_wp2
    go_ret
    exact ⟨rfl, B1.out⟩
  · have hd : decide (5000 < (s.size : Int)) = false := decide_eq_false (by omega)
    have HA : Sealed (∀ w, Calls Try.prog 25 #[.string s] w fun e w' => e = .returned (.string (storedB s)) ∧ Below w.heap.size w w') := ⟨fun w => stored_any s w (by omega)⟩
    have HB : Sealed (∀ w, Calls Try.prog 28 #[.string s] w fun e w' => e = .returned (.string (fixedB s)) ∧ Below w.heap.size w w') := ⟨fun w => fixed_any s w (by omega)⟩
    have HC : Sealed (∀ w, Calls Try.prog 30 #[.string s] w fun e w' => e = .returned (.string (bestB s)) ∧ Below w.heap.size w w') := ⟨fun w => best_any s w (by omega)⟩
    have IA : Sealed (∀ w, Calls Try.prog 33 #[.string (storedB s), .int .i64 (s.size : Nat)] w fun e w' => e = .returned (.tuple #[.string s, .int .i64 ((storedB s).size : Nat), .int .i64 0]) ∧ Below w.heap.size w w') := ⟨fun w => by
      have h := inflate_any (storedB s) s.size (by rw [storedB_len (by omega)]; omega) (by omega) w
      rw [tells_stored (by omega) (Nat.le_refl _), inflEnd, str_bytes] at h; exact h⟩
    have IB : Sealed (∀ w, Calls Try.prog 33 #[.string (fixedB s), .int .i64 (s.size : Nat)] w fun e w' => e = .returned (.tuple #[.string s, .int .i64 ((fixedB s).size : Nat), .int .i64 0]) ∧ Below w.heap.size w w') := ⟨fun w => by
      have h := inflate_any (fixedB s) s.size (by have := fixedB_most s; omega) (by omega) w
      rw [tells_fixed (Nat.le_refl _), inflEnd, str_bytes] at h; exact h⟩
    have IC : Sealed (∀ w, Calls Try.prog 33 #[.string (bestB s), .int .i64 (s.size : Nat)] w fun e w' => e = .returned (.tuple #[.string s, .int .i64 ((bestB s).size : Nat), .int .i64 0]) ∧ Below w.heap.size w w') := ⟨fun w => by
      have h := inflate_any (bestB s) s.size (by have := bestB_len (s := s) (by omega); omega) (by omega) w
      rw [tells_best (by omega) (Nat.le_refl _), inflEnd, str_bytes] at h; exact h⟩
    generalize storedB s = a at *
    generalize fixedB s = b at *
    generalize bestB s = c at *
    clear h
    go_enter Try.func11, Try.ntmps11
    go_wp2_with fail
    refine (HA.out _).mono ?_
    rintro e w1 ⟨rfl, hb⟩
    have B1 := Sealed.mk hb
    clear hb
    go_wp2_with fail
    refine (HB.out _).mono ?_
    rintro e w2 ⟨rfl, hb⟩
    have B2 := Sealed.mk (B1.out.trans (hb.mono B1.out.size))
    clear hb B1
    go_wp2_with fail
    refine (HC.out _).mono ?_
    rintro e w3 ⟨rfl, hb⟩
    have B3 := Sealed.mk (B2.out.trans (hb.mono B2.out.size))
    clear hb B2
    go_wp2_with fail
    refine (IA.out _).mono ?_
    rintro e w4 ⟨rfl, hb⟩
    have B4 := Sealed.mk (B3.out.trans (hb.mono B3.out.size))
    clear hb B3
    go_wp2_with fail
    refine (IB.out _).mono ?_
    rintro e w5 ⟨rfl, hb⟩
    have B5 := Sealed.mk (B4.out.trans (hb.mono B4.out.size))
    clear hb B4
    go_wp2_with fail
    refine (IC.out _).mono ?_
    rintro e w6 ⟨rfl, hb⟩
    have B6 := Sealed.mk (B5.out.trans (hb.mono B5.out.size))
    clear hb B5
    go_wp2_with fail
    refine (squeezed_any _).mono ?_
    rintro e w7 ⟨rfl, hb⟩
    have B7 := Sealed.mk (B6.out.trans (hb.mono B6.out.size))
    clear hb B6
    go_wp2
    go_ret
    exact ⟨rfl, B7.out⟩
end Go.Proofs.Ytmdlhbhdlhjakaa
