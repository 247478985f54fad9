/- The contracts of the document's answer's numbers: power, Power, Extra, Length, Distance, length, distance. -/
import Derived.Test.YtmdlhbhdlhjakaaFixP
set_option linter.unusedVariables false
set_option linter.unusedSimpArgs false
namespace Go.Proofs.Ytmdlhbhdlhjakaa
open Go.RowKit

theorem power08_any (d : Nat) (hd : d ≤ 40) (w : World) : Calls Try.prog 111 #[.int .i64 d] w fun e w' => e = .returned (.int .i64 ((2 ^ d : Nat) : Int)) ∧ w = w' := by
  go_enter Try.func111, Try.ntmps111
  go_wp2
  go_loopg [3, 4] d (fun k s3 s4 w' => ∃ i x : Nat, s3 = .int .i64 x ∧ s4 = .int .i64 i ∧ i ≤ d ∧ Sealed (k = d - i) ∧ Sealed (x = 2 ^ i) ∧ x ≤ 1099511627776 ∧ w' = w)
  case atStart => exact ⟨0, 1, rfl, rfl, by omega, ⟨rfl⟩, ⟨rfl⟩, by omega, rfl⟩
  case round =>
    obtain ⟨i, x, rfl, rfl, hi, HK, HX, hx, rfl⟩ := hrel
    by_cases hlt : i < d
    · have hlt' : decide (i < d) = true := decide_eq_true hlt
      go_wp2
      go_roundg (d - (i + 1))
      case measure => have := HK.out; omega
      case rel =>
        have h2 : 2 ^ (i + 1) ≤ 2 ^ 40 := Nat.pow_le_pow_right (by decide) (by omega)
        have hX := HX.out
        rw [Nat.pow_succ] at h2
        exact ⟨i + 1, x * 2, by go_num, by go_num, hlt, ⟨rfl⟩, ⟨by rw [Nat.pow_succ, hX]⟩, by omega, rfl⟩
    · obtain rfl : i = d := by omega
      have hlt' : decide (i < i) = false := decide_eq_false hlt
      go_wp2
      go_ret
      exact ⟨ret_int (by rw [HX.out]), rfl⟩
theorem power10_any (d : Nat) (hd : d ≤ 40) (w : World) : Calls Try.prog 87 #[.int .i64 d] w fun e w' => e = .returned (.int .i64 ((2 ^ d : Nat) : Int)) ∧ w = w' := by
  go_enter Try.func87, Try.ntmps87
  go_wp2
  go_loopg [3, 4] d (fun k s3 s4 w' => ∃ i x : Nat, s3 = .int .i64 x ∧ s4 = .int .i64 i ∧ i ≤ d ∧ Sealed (k = d - i) ∧ Sealed (x = 2 ^ i) ∧ x ≤ 1099511627776 ∧ w' = w)
  case atStart => exact ⟨0, 1, rfl, rfl, by omega, ⟨rfl⟩, ⟨rfl⟩, by omega, rfl⟩
  case round =>
    obtain ⟨i, x, rfl, rfl, hi, HK, HX, hx, rfl⟩ := hrel
    by_cases hlt : i < d
    · have hlt' : decide (i < d) = true := decide_eq_true hlt
      go_wp2
      go_roundg (d - (i + 1))
      case measure => have := HK.out; omega
      case rel =>
        have h2 : 2 ^ (i + 1) ≤ 2 ^ 40 := Nat.pow_le_pow_right (by decide) (by omega)
        have hX := HX.out
        rw [Nat.pow_succ] at h2
        exact ⟨i + 1, x * 2, by go_num, by go_num, hlt, ⟨rfl⟩, ⟨by rw [Nat.pow_succ, hX]⟩, by omega, rfl⟩
    · obtain rfl : i = d := by omega
      have hlt' : decide (i < i) = false := decide_eq_false hlt
      go_wp2
      go_ret
      exact ⟨ret_int (by rw [HX.out]), rfl⟩
def extraN (n free group : Nat) : Nat := if n < free then 0 else (n - free) / group + 1
theorem extra_any (n free group : Nat) (hn : n ≤ 1000) (hf : free ≤ 1000) (hg : 0 < group) (hg2 : group ≤ 1000) (w : World) : Calls Try.prog 59 #[.int .i64 n, .int .i64 free, .int .i64 group] w fun e w' => e = .returned (.int .i64 (extraN n free group)) ∧ w = w' := by
  by_cases h : n < free
  · have h' : decide (n < free) = true := decide_eq_true h
    have e : extraN n free group = 0 := by unfold extraN; rw [if_pos h]
    rw [e]
    go_enter Try.func59, Try.ntmps59
    go_wp2
    go_ret
    exact ⟨rfl, rfl⟩
  · have h' : decide (n < free) = false := decide_eq_false h
    have e : Sealed (((extraN n free group : Nat) : Int) = ((n : Int) - (free : Int)) / (group : Int) + 1) := ⟨by
      unfold extraN; rw [if_neg h]
      rw [show (n : Int) - (free : Int) = ((n - free : Nat) : Int) by omega]
      simp⟩
    have hq : 0 ≤ ((n : Int) - (free : Int)) / (group : Int) := Int.ediv_nonneg (by omega) (by omega)
    have hq2 : ((n : Int) - (free : Int)) / (group : Int) ≤ 1000 := by
      have := Int.ediv_le_self (a := (n : Int) - (free : Int)) (group : Int) (by omega); omega
    have h0 : (0 : Int) ≤ (n : Int) - (free : Int) := by omega
    have hz : ((group : Int) == 0) = false := by simp; omega
    go_enter Try.func59, Try.ntmps59
    go_wp2
    go_ret
    exact ⟨ret_int (by rw [e.out]), rfl⟩
def lenSum : Nat → Nat
  | 0 => 3
  | i + 1 => lenSum i + 2 ^ extraN i 8 4
def distSum : Nat → Nat
  | 0 => 1
  | i + 1 => distSum i + 2 ^ extraN i 4 2
theorem lenSum_ok : ∀ k, k < 28 → lenSum k = leastOf lenT k ∧ extraN k 8 4 = extraOf lenT k ∧ lenSum k ≤ 1000 ∧ extraN k 8 4 ≤ 10 := by decide
theorem distSum_ok : ∀ k, k < 30 → distSum k = leastOf distT k ∧ extraN k 4 2 = extraOf distT k ∧ distSum k ≤ 100000 ∧ extraN k 4 2 ≤ 20 := by decide
theorem length10_any (k : Nat) (hk : k < 29) (w : World) : Calls Try.prog 58 #[.int .i64 k] w fun e w' => e = .returned (.int .i64 (leastOf lenT k)) ∧ w = w' := by
  by_cases h : k = 28
  · subst h
    go_enter Try.func58, Try.ntmps58
    go_wp2
    go_ret
    exact ⟨rfl, rfl⟩
  · have h' : ((k : Int) == 28) = false := by simp; omega
    have HL := Sealed.mk (lenSum_ok k (by omega)).1
    rw [← HL.out]
    clear h
    have hk2 : Sealed (k < 28) := ⟨by simp at h'; omega⟩
    go_enter Try.func58, Try.ntmps58
    go_wp2
    go_loopg [3, 4] k (fun f s3 s4 w' => ∃ i x : Nat, s3 = .int .i64 x ∧ s4 = .int .i64 i ∧ i ≤ k ∧ Sealed (f = k - i) ∧ Sealed (x = lenSum i) ∧ x ≤ 1000000 ∧ w' = w)
    case atStart => exact ⟨0, 3, rfl, rfl, by omega, ⟨rfl⟩, ⟨rfl⟩, by omega, rfl⟩
    case round =>
      obtain ⟨i, x, rfl, rfl, hi, HK, HX, hx, rfl⟩ := hrel
      by_cases hlt : i < k
      · have hlt' : decide (i < k) = true := decide_eq_true hlt
        have ho := lenSum_ok i (by have := hk2.out; omega)
        have HE := Sealed.mk (extra_any i 8 4 (by omega) (by omega) (by omega) (by omega) wr)
        have HP := Sealed.mk (power10_any (extraN i 8 4) (by omega) wr)
        have HN : Sealed (x + 2 ^ extraN i 8 4 = lenSum (i + 1)) := ⟨by rw [HX.out]; rfl⟩
        have hb : 2 ^ extraN i 8 4 ≤ 2 ^ 10 := Nat.pow_le_pow_right (by decide) ho.2.2.2
        have hx2 : Sealed (x ≤ 1000) := ⟨by rw [HX.out]; exact ho.2.2.1⟩
        clear ho
        generalize extraN i 8 4 = ex at *
        obtain ⟨pw, hpw⟩ : ∃ pw, pw = 2 ^ ex := ⟨_, rfl⟩
        rw [← hpw] at HP HN hb
        have hb2 : pw ≤ 1024 := hb
        clear hpw hb
        go_wp2_with fail
        refine HE.out.mono ?_
        rintro e w' ⟨rfl, rfl⟩
        go_wp2_with fail
        refine HP.out.mono ?_
        rintro e w' ⟨rfl, rfl⟩
        go_wp2
        go_roundg (k - (i + 1))
        case measure => have := HK.out; omega
        case rel => exact ⟨i + 1, x + pw, by go_num, by go_num, hlt, ⟨rfl⟩, HN, by have := hx2.out; omega, rfl⟩
      · obtain rfl : i = k := by omega
        have hlt' : decide (i < i) = false := decide_eq_false hlt
        go_wp2
        go_ret
        exact ⟨ret_int (by rw [HX.out]), rfl⟩
theorem distance10_any (k : Nat) (hk : k < 30) (w : World) : Calls Try.prog 60 #[.int .i64 k] w fun e w' => e = .returned (.int .i64 (leastOf distT k)) ∧ w = w' := by
  have HL := Sealed.mk (distSum_ok k (by omega)).1
  rw [← HL.out]
  have hk2 : Sealed (k < 30) := ⟨hk⟩
  go_enter Try.func60, Try.ntmps60
  go_wp2
  go_loopg [3, 4] k (fun f s3 s4 w' => ∃ i x : Nat, s3 = .int .i64 x ∧ s4 = .int .i64 i ∧ i ≤ k ∧ Sealed (f = k - i) ∧ Sealed (x = distSum i) ∧ x ≤ 100000000 ∧ w' = w)
  case atStart => exact ⟨0, 1, rfl, rfl, by omega, ⟨rfl⟩, ⟨rfl⟩, by omega, rfl⟩
  case round =>
    obtain ⟨i, x, rfl, rfl, hi, HK, HX, hx, rfl⟩ := hrel
    by_cases hlt : i < k
    · have hlt' : decide (i < k) = true := decide_eq_true hlt
      have ho := distSum_ok i (by have := hk2.out; omega)
      have HE := Sealed.mk (extra_any i 4 2 (by omega) (by omega) (by omega) (by omega) wr)
      have HP := Sealed.mk (power10_any (extraN i 4 2) (by omega) wr)
      have HN : Sealed (x + 2 ^ extraN i 4 2 = distSum (i + 1)) := ⟨by rw [HX.out]; rfl⟩
      have hb : 2 ^ extraN i 4 2 ≤ 2 ^ 20 := Nat.pow_le_pow_right (by decide) ho.2.2.2
      have hx2 : Sealed (x ≤ 100000) := ⟨by rw [HX.out]; exact ho.2.2.1⟩
      clear ho
      generalize extraN i 4 2 = ex at *
      obtain ⟨pw, hpw⟩ : ∃ pw, pw = 2 ^ ex := ⟨_, rfl⟩
      rw [← hpw] at HP HN hb
      have hb2 : pw ≤ 1048576 := hb
      clear hpw hb
      go_wp2_with fail
      refine HE.out.mono ?_
      rintro e w' ⟨rfl, rfl⟩
      go_wp2_with fail
      refine HP.out.mono ?_
      rintro e w' ⟨rfl, rfl⟩
      go_wp2
      go_roundg (k - (i + 1))
      case measure => have := HK.out; omega
      case rel => exact ⟨i + 1, x + pw, by go_num, by go_num, hlt, ⟨rfl⟩, HN, by have := hx2.out; omega, rfl⟩
    · obtain rfl : i = k := by omega
      have hlt' : decide (i < i) = false := decide_eq_false hlt
      go_wp2
      go_ret
      exact ⟨ret_int (by rw [HX.out]), rfl⟩
theorem length11_any (n : Nat) (h3 : 3 ≤ n) (hn : n ≤ 258) (w : World) : Calls Try.prog 56 #[.int .i64 n] w fun e w' => e = .returned (.int .i64 (codeOf lenT n)) ∧ w = w' := by
  obtain ⟨R, hR⟩ : ∃ R, R = codeOf lenT n := ⟨_, rfl⟩
  rw [← hR]
  have HR := Sealed.mk hR
  clear hR
  have HT : Sealed (lenT.length = 29) := ⟨rfl⟩
  go_enter Try.func56, Try.ntmps56
  go_wp2
  go_loopg [3] 29 (fun f s3 w' => ∃ k : Nat, s3 = .int .i64 k ∧ k < 29 ∧ Sealed (29 ≤ f + k) ∧ Sealed (codeFrom lenT n f k = R) ∧ w' = w)
  case atStart => exact ⟨0, rfl, by omega, ⟨by omega⟩, ⟨by rw [HR.out, codeOf, HT.out]⟩, rfl⟩
  case round =>
    obtain ⟨k, rfl, hk, HF, HE, rfl⟩ := hrel
    obtain ⟨f, rfl⟩ : ∃ f, gk = f + 1 := ⟨gk - 1, by have := HF.out; omega⟩
    have he := HE.out
    rw [codeFrom, HT.out] at he
    by_cases h1 : k + 1 < 29
    · have hd1 : decide ((k : Int) < 28) = true := decide_eq_true (by omega)
      have HL := Sealed.mk (length10_any (k + 1) h1 wr)
      obtain ⟨x, hx⟩ : ∃ x, x = leastOf lenT (k + 1) := ⟨_, rfl⟩
      rw [← hx] at HL he
      clear hx
      have hc : ((k + 1 : Nat) : Int) = (k : Int) + 1 := by omega
      rw [hc] at HL
      clear hc
      by_cases h2 : x ≤ n
      · have hd2 : decide (x ≤ n) = true := decide_eq_true h2
        rw [if_pos ⟨h1, h2⟩] at he
        have HE2 := Sealed.mk he
        clear he h2 HE
        go_wp2_with fail
        refine HL.out.mono ?_
        rintro e w' ⟨rfl, rfl⟩
        go_wp2
        go_roundg f
        case measure => omega
        case rel => exact ⟨k + 1, by go_num, h1, ⟨by have := HF.out; omega⟩, HE2, rfl⟩
      · have hd2 : decide (x ≤ n) = false := decide_eq_false h2
        rw [if_neg (fun h => h2 h.2)] at he
        have HE2 := Sealed.mk he
        clear he h2 HE
        go_wp2_with fail
        refine HL.out.mono ?_
        rintro e w' ⟨rfl, rfl⟩
        go_wp2
        go_ret
        exact ⟨ret_int (by rw [HE2.out]), rfl⟩
    · have hd1 : decide ((k : Int) < 28) = false := decide_eq_false (by omega)
      rw [if_neg (fun h => h1 h.1)] at he
      have HE2 := Sealed.mk he
      clear he h1 HE
      go_wp2
      go_ret
      exact ⟨ret_int (by rw [HE2.out]), rfl⟩
theorem distance11_any (n : Nat) (h3 : 1 ≤ n) (hn : n ≤ 32768) (w : World) : Calls Try.prog 57 #[.int .i64 n] w fun e w' => e = .returned (.int .i64 (codeOf distT n)) ∧ w = w' := by
  obtain ⟨R, hR⟩ : ∃ R, R = codeOf distT n := ⟨_, rfl⟩
  rw [← hR]
  have HR := Sealed.mk hR
  clear hR
  have HT : Sealed (distT.length = 30) := ⟨rfl⟩
  go_enter Try.func57, Try.ntmps57
  go_wp2
  go_loopg [3] 30 (fun f s3 w' => ∃ k : Nat, s3 = .int .i64 k ∧ k < 30 ∧ Sealed (30 ≤ f + k) ∧ Sealed (codeFrom distT n f k = R) ∧ w' = w)
  case atStart => exact ⟨0, rfl, by omega, ⟨by omega⟩, ⟨by rw [HR.out, codeOf, HT.out]⟩, rfl⟩
  case round =>
    obtain ⟨k, rfl, hk, HF, HE, rfl⟩ := hrel
    obtain ⟨f, rfl⟩ : ∃ f, gk = f + 1 := ⟨gk - 1, by have := HF.out; omega⟩
    have he := HE.out
    rw [codeFrom, HT.out] at he
    by_cases h1 : k + 1 < 30
    · have hd1 : decide ((k : Int) < 29) = true := decide_eq_true (by omega)
      have HL := Sealed.mk (distance10_any (k + 1) h1 wr)
      obtain ⟨x, hx⟩ : ∃ x, x = leastOf distT (k + 1) := ⟨_, rfl⟩
      rw [← hx] at HL he
      clear hx
      have hc : ((k + 1 : Nat) : Int) = (k : Int) + 1 := by omega
      rw [hc] at HL
      clear hc
      by_cases h2 : x ≤ n
      · have hd2 : decide (x ≤ n) = true := decide_eq_true h2
        rw [if_pos ⟨h1, h2⟩] at he
        have HE2 := Sealed.mk he
        clear he h2 HE
        go_wp2_with fail
        refine HL.out.mono ?_
        rintro e w' ⟨rfl, rfl⟩
        go_wp2
        go_roundg f
        case measure => omega
        case rel => exact ⟨k + 1, by go_num, h1, ⟨by have := HF.out; omega⟩, HE2, rfl⟩
      · have hd2 : decide (x ≤ n) = false := decide_eq_false h2
        rw [if_neg (fun h => h2 h.2)] at he
        have HE2 := Sealed.mk he
        clear he h2 HE
        go_wp2_with fail
        refine HL.out.mono ?_
        rintro e w' ⟨rfl, rfl⟩
        go_wp2
        go_ret
        exact ⟨ret_int (by rw [HE2.out]), rfl⟩
    · have hd1 : decide ((k : Int) < 29) = false := decide_eq_false (by omega)
      rw [if_neg (fun h => h1 h.1)] at he
      have HE2 := Sealed.mk he
      clear he h1 HE
      go_wp2
      go_ret
      exact ⟨ret_int (by rw [HE2.out]), rfl⟩
end Go.Proofs.Ytmdlhbhdlhjakaa
