/- The contracts of package squeeze's finder: alike, key. -/
import Derived.Test.YtmdlhbhdlhjakaaCoder
set_option linter.unusedVariables false
set_option linter.unusedSimpArgs false
namespace Go.Proofs.Ytmdlhbhdlhjakaa
open Go.RowKit

def alikeFrom (s : ByteArray) (j q : Nat) : Nat → Nat → Nat
  | 0, n => n
  | k + 1, n => if q + n < s.size ∧ byteAt s (q + n) = byteAt s (j + n) then alikeFrom s j q k (n + 1) else n
def alikeOf (s : ByteArray) (j q : Nat) : Nat := alikeFrom s j q 258 0

theorem drewN_add (w : World) (a b : Nat) : (w.drewN a).drewN b = w.drewN (a + b) := by simp [World.drewN, Nat.add_assoc]

set_option maxRecDepth 100000 in
set_option maxHeartbeats 1000000 in
theorem alike_any {w : World} {g : Nat} {s : ByteArray} {rest : List Value} (j q : Nat) (hb : IsBlk w g (.string s :: rest) 84) (hj : j < q) (hs : s.size ≤ 1000000000) (hq : q ≤ s.size) :
    Calls Try.prog 82 #[.pointer (some ⟨g, 0, none⟩), .int .i64 j, .int .i64 q] w fun e w' => e = .returned (.int .i64 (alikeOf s j q)) ∧ ∃ m, w' = w.drewN m := by
  obtain ⟨R, hR⟩ : ∃ R, R = alikeOf s j q := ⟨_, rfl⟩
  rw [← hR]
  have HR := Sealed.mk hR
  have HB := Sealed.mk hb
  clear hR hb
  go_enter Try.func82, Try.ntmps82
  go_wp2
  go_loopg [7] 258 (fun k s7 w' => ∃ n m : Nat, s7 = .int .i64 n ∧ Sealed (n + k = 258) ∧ n ≤ 258 ∧ Sealed (alikeFrom s j q k n = R) ∧ w' = w.drewN m)
  case atStart => exact ⟨0, 0, rfl, ⟨rfl⟩, by omega, ⟨HR.out.symm⟩, rfl⟩
  case round =>
    obtain ⟨n, m, rfl, HK, hn, HE, rfl⟩ := hrel
    have h0 := (HB.out.drewN m).cell 0 rfl
    have h00 := HB.out.cell 0 rfl
    have ew : IntKind.i64.wrap ((q : Int) + (n : Int)) = (q : Int) + (n : Int) := by rw [IntKind.wrap_i64]; omega
    have ew2 : IntKind.i64.wrap ((j : Int) + (n : Int)) = (j : Int) + (n : Int) := by rw [IntKind.wrap_i64]; omega
    by_cases h1 : n < 258
    · obtain ⟨k, rfl⟩ : ∃ k, gk = k + 1 := ⟨gk - 1, by have := HK.out; omega⟩
      have hd1 : decide ((n : Int) < 258) = true := decide_eq_true (by omega)
      by_cases h2 : q + n < s.size
      · have hb0 := byteAt_get s (q + n) h2
        have hb1 := byteAt_get s (j + n) (by omega)
        have hi2 : (q : Int) + (n : Int) < (s.size : Int) := by omega
        have hd2 : decide ((q : Int) + (n : Int) < (s.size : Int)) = true := decide_eq_true hi2
        have hi3 : (j : Int) + (n : Int) < (s.size : Int) := by omega
        have hx0 : 0 ≤ (q : Int) + (n : Int) := by omega
        have hx1 : 0 ≤ (j : Int) + (n : Int) := by omega
        have et0 : ((q : Int) + (n : Int)).toNat = q + n := by omega
        have et1 : ((j : Int) + (n : Int)).toNat = j + n := by omega
        obtain ⟨b0, hb0e⟩ : ∃ b, b = byteAt s (q + n) := ⟨_, rfl⟩
        obtain ⟨b1, hb1e⟩ : ∃ b, b = byteAt s (j + n) := ⟨_, rfl⟩
        rw [← hb0e] at hb0
        rw [← hb1e] at hb1
        have H0 := Sealed.mk hb0e
        have H1 := Sealed.mk hb1e
        clear hb0e hb1e
        have he := HE.out
        rw [alikeFrom, ← H0.out, ← H1.out] at he
        by_cases h4 : b0 = b1
        · have hd4 : ((b0 : Int) == (b1 : Int)) = true := by subst h4; simp
          rw [if_pos ⟨h2, h4⟩] at he
          have HV := Sealed.mk he
          clear he h4 HE
          go_wp2
          go_quiet (fail)
          go_wp2
          go_roundg k
          case measure => omega
          case rel => exact ⟨n + 1, m + _, by go_num, ⟨by have := HK.out; omega⟩, by omega, HV, rfl⟩
        · have hd4 : ((b0 : Int) == (b1 : Int)) = false := by simp; omega
          rw [if_neg (fun h => h4 h.2)] at he
          have HV := Sealed.mk he
          clear he h4 HE
          go_wp2
          go_quiet (fail)
          go_wp2
          go_ret
          exact ⟨ret_int (by rw [HV.out]), m + _, drewN_add _ _ _⟩
      · have hd2 : decide ((q : Int) + (n : Int) < (s.size : Int)) = false := decide_eq_false (by omega)
        have he := HE.out
        rw [alikeFrom, if_neg (by omega)] at he
        have HV := Sealed.mk he
        clear he h2 hq HE
        go_wp2
        go_quiet (fail)
        go_wp2
        go_ret
        exact ⟨ret_int (by rw [HV.out]), m + _, drewN_add _ _ _⟩
    · have hd1 : decide ((n : Int) < 258) = false := decide_eq_false (by omega)
      have he := HE.out
      obtain rfl : gk = 0 := by have := HK.out; omega
      rw [alikeFrom] at he
      have HV := Sealed.mk he
      clear he h1 HE
      go_wp2
      go_quiet (fail)
      go_wp2
      go_ret
      exact ⟨ret_int (by rw [HV.out]), m + _, drewN_add _ _ _⟩
end Go.Proofs.Ytmdlhbhdlhjakaa
