/- The contracts of package squeeze's code. -/
import Derived.Test.YtmdlhbhdlhjakaaFixP
set_option linter.unusedVariables false
set_option linter.unusedSimpArgs false
namespace Go.Proofs.Ytmdlhbhdlhjakaa
open Go.RowKit

set_option maxRecDepth 100000 in
theorem code_any {w : World} {g t : Nat} {T : List (Nat × Nat)} (n : Nat) (hb : IsBlk w g (nums .i64 (cellsOf T)) t) (hT : T.length ≤ 1000) (h0 : 0 < T.length) :
    Calls Try.prog 85 #[.slice (some ⟨g, 0, none⟩) T.length T.length, .int .i64 n] w fun e w' => e = .returned (.int .i64 (codeOf T n)) ∧ w = w' := by
  obtain ⟨R, hR⟩ : ∃ R, R = codeOf T n := ⟨_, rfl⟩
  rw [← hR]
  have HR := Sealed.mk hR
  have HB := Sealed.mk hb
  obtain ⟨L, hL⟩ : ∃ L, L = T.length := ⟨_, rfl⟩
  rw [← hL] at hT h0 ⊢
  have HL := Sealed.mk hL
  clear hR hb hL
  go_enter Try.func85, Try.ntmps85
  go_wp2
  go_loopg [5] L (fun f s5 w' => ∃ k : Nat, s5 = .int .i64 k ∧ k < L ∧ Sealed (L ≤ f + k) ∧ Sealed (codeFrom T n f k = R) ∧ w' = w)
  case atStart => exact ⟨0, rfl, h0, ⟨by omega⟩, ⟨by rw [HR.out, codeOf, HL.out]⟩, rfl⟩
  case round =>
    obtain ⟨k, rfl, hk, HF, HE, rfl⟩ := hrel
    obtain ⟨f, rfl⟩ : ∃ f, gk = f + 1 := ⟨gk - 1, by have := HF.out; omega⟩
    by_cases h1 : k + 1 < L
    · have hd1 : decide ((k : Int) + 1 < (L : Int)) = true := decide_eq_true (by omega)
      have hc := HB.out.cell (2 * (k + 1)) (v := .int .i64 (leastOf T (k + 1) : Int)) (by rw [nums_get (by rw [cellsOf_len, ← HL.out]; omega), (cellsOf_get T (k + 1) (by rw [← HL.out]; exact h1)).1])
      rw [show 2 * (k + 1) = (k + 1) * 2 by omega] at hc
      have he := HE.out
      rw [codeFrom, ← HL.out] at he
      obtain ⟨x, hx⟩ : ∃ x, x = leastOf T (k + 1) := ⟨_, rfl⟩
      rw [← hx] at hc he
      clear hx
      have hi1 : (0 : Int) ≤ (k : Int) + 1 := by omega
      have hi2 : ((k : Int) + 1).toNat = k + 1 := by omega
      have hi3 : (k : Int) + 1 < (L : Int) := by omega
      by_cases h2 : x ≤ n
      · have hd2 : decide (x ≤ n) = true := decide_eq_true h2
        rw [if_pos ⟨h1, h2⟩] at he
        have HE2 := Sealed.mk he
        clear he h2
        go_wp2
        go_roundg f
        case measure => omega
        case rel => exact ⟨k + 1, by go_num, h1, ⟨by have := HF.out; omega⟩, HE2, rfl⟩
      · have hd2 : decide (x ≤ n) = false := decide_eq_false h2
        rw [if_neg (fun h => h2 h.2)] at he
        have HE2 := Sealed.mk he
        clear he h2
        go_wp2
        go_ret
        exact ⟨ret_int (by rw [HE2.out]), rfl⟩
    · have hd1 : decide ((k : Int) + 1 < (L : Int)) = false := decide_eq_false (by omega)
      have he := HE.out
      rw [codeFrom, ← HL.out, if_neg (fun h => h1 h.1)] at he
      have HE2 := Sealed.mk he
      clear he h1
      go_wp2
      go_ret
      exact ⟨ret_int (by rw [HE2.out]), rfl⟩
end Go.Proofs.Ytmdlhbhdlhjakaa
