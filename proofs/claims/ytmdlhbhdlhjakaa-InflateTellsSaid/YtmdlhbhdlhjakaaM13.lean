/- Plain: the bits of fixed codes. The contracts of the document's answer's numbers: power, Power, Extra, Length, Distance, length, distance. Plain: what deflated bytes tell. -/
import Derived.Test.YtmdlhbhdlhjakaaM11
import Derived.Test.YtmdlhbhdlhjakaaM12
set_option linter.unusedVariables false
set_option linter.unusedSimpArgs false
namespace Go.Proofs.Ytmdlhbhdlhjakaa
open Go.RowKit

def lenT : List (Nat × Nat) := [(3, 0), (4, 0), (5, 0), (6, 0), (7, 0), (8, 0), (9, 0), (10, 0), (11, 1), (13, 1), (15, 1), (17, 1), (19, 2), (23, 2), (27, 2),
  (31, 2), (35, 3), (43, 3), (51, 3), (59, 3), (67, 4), (83, 4), (99, 4), (115, 4), (131, 5), (163, 5), (195, 5), (227, 5), (258, 0)]
def distT : List (Nat × Nat) := [(1, 0), (2, 0), (3, 0), (4, 0), (5, 1), (7, 1), (9, 2), (13, 2), (17, 3), (25, 3), (33, 4), (49, 4), (65, 5), (97, 5), (129, 6),
  (193, 6), (257, 7), (385, 7), (513, 8), (769, 8), (1025, 9), (1537, 9), (2049, 10), (3073, 10), (4097, 11), (6145, 11), (8193, 12), (12289, 12), (16385, 13), (24577, 13)]
def cellsOf (T : List (Nat × Nat)) : List Int := T.flatMap fun x => [(x.1 : Int), (x.2 : Int)]
theorem lenCells_eq : lenCells = cellsOf lenT := by decide
theorem distCells_eq : distCells = cellsOf distT := by decide
def leastOf (T : List (Nat × Nat)) (k : Nat) : Nat := (T.getD k (0, 0)).1
def extraOf (T : List (Nat × Nat)) (k : Nat) : Nat := (T.getD k (0, 0)).2
theorem cellsOf_len : ∀ T : List (Nat × Nat), (cellsOf T).length = 2 * T.length
  | [] => rfl
  | x :: xs => by
    have := cellsOf_len xs
    show (_ :: _ :: cellsOf xs).length = _
    simp only [List.length_cons, this]; omega
theorem cellsOf_get : ∀ (T : List (Nat × Nat)) (k : Nat), k < T.length → (cellsOf T).getD (2 * k) 0 = (leastOf T k : Int) ∧ (cellsOf T).getD (2 * k + 1) 0 = (extraOf T k : Int)
  | [], k, h => by simp at h
  | x :: xs, 0, h => ⟨rfl, rfl⟩
  | x :: xs, k + 1, h => cellsOf_get xs k (by simpa using h)
def codeFrom (T : List (Nat × Nat)) (n : Nat) : Nat → Nat → Nat
  | 0, k => k
  | f + 1, k => if k + 1 < T.length ∧ leastOf T (k + 1) ≤ n then codeFrom T n f (k + 1) else k
def codeOf (T : List (Nat × Nat)) (n : Nat) : Nat := codeFrom T n T.length 0
theorem codeFrom_ok (T : List (Nat × Nat)) (n : Nat) : ∀ f k, T.length ≤ f + k → k < T.length → leastOf T k ≤ n →
    codeFrom T n f k < T.length ∧ leastOf T (codeFrom T n f k) ≤ n ∧ (codeFrom T n f k + 1 < T.length → n < leastOf T (codeFrom T n f k + 1))
  | 0, k, h1, h2, h3 => by omega
  | f + 1, k, h1, h2, h3 => by
    rw [codeFrom]
    split
    · rename_i h
      exact codeFrom_ok T n f (k + 1) (by omega) h.1 h.2
    · rename_i h
      exact ⟨h2, h3, fun hl => by
        rcases Nat.lt_or_ge n (leastOf T (k + 1)) with h' | h'
        · exact h'
        · exact absurd ⟨hl, h'⟩ h⟩
theorem codeOf_len {n : Nat} (h3 : 3 ≤ n) (h : n ≤ 258) : codeOf lenT n < 29 ∧ leastOf lenT (codeOf lenT n) ≤ n ∧ n - leastOf lenT (codeOf lenT n) < 2 ^ extraOf lenT (codeOf lenT n) ∧ extraOf lenT (codeOf lenT n) ≤ 5 := by
  obtain ⟨h1, h2, h4⟩ := codeFrom_ok lenT n lenT.length 0 (by omega) (by decide) (by show 3 ≤ n; exact h3)
  change codeOf lenT n < _ at h1
  change leastOf lenT (codeOf lenT n) ≤ n at h2
  change codeOf lenT n + 1 < _ → n < leastOf lenT (codeOf lenT n + 1) at h4
  generalize codeOf lenT n = r at *
  have hl : lenT.length = 29 := rfl
  rw [hl] at h1 h4
  have t : ∀ r, r < 29 → (leastOf lenT (r + 1) ≤ leastOf lenT r + 2 ^ extraOf lenT r ∨ r = 28) ∧ extraOf lenT r ≤ 5 := by decide
  have t2 : leastOf lenT 28 = 258 ∧ extraOf lenT 28 = 0 := by decide
  obtain ⟨ta, tb⟩ := t r h1
  refine ⟨h1, h2, ?_, tb⟩
  rcases ta with ta | ta
  · by_cases hr : r + 1 < 29
    · have := h4 hr; omega
    · obtain rfl : r = 28 := by omega
      rw [t2.1, t2.2]; omega
  · subst ta
    rw [t2.1, t2.2]; omega
theorem codeOf_dist {n : Nat} (h1' : 1 ≤ n) (h : n ≤ 32768) : codeOf distT n < 30 ∧ leastOf distT (codeOf distT n) ≤ n ∧ n - leastOf distT (codeOf distT n) < 2 ^ extraOf distT (codeOf distT n) ∧ extraOf distT (codeOf distT n) ≤ 13 := by
  obtain ⟨h1, h2, h4⟩ := codeFrom_ok distT n distT.length 0 (by omega) (by decide) (by show 1 ≤ n; exact h1')
  change codeOf distT n < _ at h1
  change leastOf distT (codeOf distT n) ≤ n at h2
  change codeOf distT n + 1 < _ → n < leastOf distT (codeOf distT n + 1) at h4
  generalize codeOf distT n = r at *
  have hl : distT.length = 30 := rfl
  rw [hl] at h1 h4
  have t : ∀ r, r < 30 → (leastOf distT (r + 1) ≤ leastOf distT r + 2 ^ extraOf distT r ∨ r = 29) ∧ extraOf distT r ≤ 13 := by decide
  have t2 : leastOf distT 29 = 24577 ∧ extraOf distT 29 = 13 := by decide
  obtain ⟨ta, tb⟩ := t r h1
  refine ⟨h1, h2, ?_, tb⟩
  rcases ta with ta | ta
  · by_cases hr : r + 1 < 30
    · have := h4 hr; omega
    · obtain rfl : r = 29 := by omega
      rw [t2.1, t2.2]; omega
  · subst ta
    rw [t2.1, t2.2]; omega

/-! ### The bits -/
inductive Tok
  | lit (c : Nat)
  | copy (n b : Nat)
def copyBits (n b : Nat) : List Nat :=
  symBits litL ((257 + codeOf lenT n : Nat) : Int) ++ numBits (n - leastOf lenT (codeOf lenT n)) (extraOf lenT (codeOf lenT n)) ++
    (symBits distL ((codeOf distT b : Nat) : Int) ++ numBits (b - leastOf distT (codeOf distT b)) (extraOf distT (codeOf distT b)))
def tokBits : Tok → List Nat
  | .lit c => symBits litL (c : Int)
  | .copy n b => copyBits n b
def bitsT (ts : List Tok) : List Nat := ts.flatMap tokBits
def toksFrom (s : ByteArray) : Nat → Nat → List Tok
  | 0, _ => []
  | k + 1, q => if q < s.size then (if (findOf s q).1 < 3 then .lit (byteAt s q) :: toksFrom s k (q + 1) else .copy (findOf s q).1 (findOf s q).2 :: toksFrom s k (q + (findOf s q).1)) else []
def toksOf (s : ByteArray) : List Tok := toksFrom s s.size 0
def fixBits (s : ByteArray) : List Nat := numBits 1 1 ++ numBits 1 2 ++ bitsT (toksOf s) ++ symBits litL 256
theorem litL_get {i : Nat} (h : i < 288) : litL.getD i 0 = litF i := by simp [litL, List.getD_eq_getElem?_getD, h]
theorem distL_get {i : Nat} (h : i < 32) : distL.getD i 0 = 5 := by simp [distL, List.getD_eq_getElem?_getD, h]
theorem litF_bd (i : Nat) : 7 ≤ litF i ∧ litF i ≤ 9 := by unfold litF; repeat' (first | omega | split)
theorem lit_valid {i : Nat} (h : i < 288) : validB litL (i : Int) = true := by
  have h1 := litF_bd i
  have h2 : litL.length = 288 := litL_ok.2.2
  unfold validB
  rw [Int.toNat_natCast, litL_get h, h2]
  simp; omega
theorem dist_valid {i : Nat} (h : i < 32) : validB distL (i : Int) = true := by
  have h2 : distL.length = 32 := distL_ok.2.2
  unfold validB
  rw [Int.toNat_natCast, distL_get h, h2]
  simp; omega
theorem lit_len {i : Nat} (h : i < 288) : (symBits litL (i : Int)).length ≤ 15 ∧ 1 ≤ (symBits litL (i : Int)).length := symBits_len litL_ok.1 (lit_valid h)
theorem dist_len {i : Nat} (h : i < 32) : (symBits distL (i : Int)).length ≤ 15 ∧ 1 ≤ (symBits distL (i : Int)).length := symBits_len distL_ok.1 (dist_valid h)
theorem copyBits_len {n b : Nat} (h3 : 3 ≤ n) (h : n ≤ 258) (h1 : 1 ≤ b) (hb : b ≤ 32768) : (copyBits n b).length ≤ 48 := by
  obtain ⟨a1, a2, a3, a4⟩ := codeOf_len h3 h
  obtain ⟨b1, b2, b3, b4⟩ := codeOf_dist h1 hb
  have c1 := lit_len (i := 257 + codeOf lenT n) (by omega)
  have c2 := dist_len (i := codeOf distT b) (by omega)
  unfold copyBits
  simp only [List.length_append, numBits_length]
  omega
end Go.Proofs.Ytmdlhbhdlhjakaa

namespace Go.Proofs.Ytmdlhbhdlhjakaa
open Go.RowKit

theorem power08_any (d : Nat) (hd : d ≤ 40) (w : World) : Calls Try.prog 111 #[.int .i64 d] w fun e w' => e = .returned (.int .i64 ((2 ^ d : Nat) : Int)) ∧ w = w' := by
  go_enter Try.func111, Try.ntmps111
  go_wp2
  go_loopg [3, 4] d (fun k s3 s4 w' => ∃ i x : Nat, s3 = .int .i64 x ∧ s4 = .int .i64 i ∧ i ≤ d ∧ Sealed (k = d - i) ∧ Sealed (x = 2 ^ i) ∧ x ≤ 1099511627776 ∧ w' = w)
  case atStart => exact ⟨0, 1, rfl, rfl, by omega, ⟨rfl⟩, ⟨rfl⟩, by omega, rfl⟩
  case round =>
    obtain ⟨i, x, rfl, rfl, hi, HK, HX, hx, rfl⟩ := hrel
    by_cases hlt : i < d
    · have hlt' : decide (i < d) = true := decide_eq_true hlt
      go_wp2
      go_roundg (d - (i + 1))
      case measure => have := HK.out; omega
      case rel =>
        have h2 : 2 ^ (i + 1) ≤ 2 ^ 40 := Nat.pow_le_pow_right (by decide) (by omega)
        have hX := HX.out
        rw [Nat.pow_succ] at h2
        exact ⟨i + 1, x * 2, by go_num, by go_num, hlt, ⟨rfl⟩, ⟨by rw [Nat.pow_succ, hX]⟩, by omega, rfl⟩
    · obtain rfl : i = d := by omega
      have hlt' : decide (i < i) = false := decide_eq_false hlt
      go_wp2
      go_ret
      exact ⟨ret_int (by rw [HX.out]), rfl⟩
theorem power10_any (d : Nat) (hd : d ≤ 40) (w : World) : Calls Try.prog 87 #[.int .i64 d] w fun e w' => e = .returned (.int .i64 ((2 ^ d : Nat) : Int)) ∧ w = w' := by
  go_enter Try.func87, Try.ntmps87
  go_wp2
  go_loopg [3, 4] d (fun k s3 s4 w' => ∃ i x : Nat, s3 = .int .i64 x ∧ s4 = .int .i64 i ∧ i ≤ d ∧ Sealed (k = d - i) ∧ Sealed (x = 2 ^ i) ∧ x ≤ 1099511627776 ∧ w' = w)
  case atStart => exact ⟨0, 1, rfl, rfl, by omega, ⟨rfl⟩, ⟨rfl⟩, by omega, rfl⟩
  case round =>
    obtain ⟨i, x, rfl, rfl, hi, HK, HX, hx, rfl⟩ := hrel
    by_cases hlt : i < d
    · have hlt' : decide (i < d) = true := decide_eq_true hlt
      go_wp2
      go_roundg (d - (i + 1))
      case measure => have := HK.out; omega
      case rel =>
        have h2 : 2 ^ (i + 1) ≤ 2 ^ 40 := Nat.pow_le_pow_right (by decide) (by omega)
        have hX := HX.out
        rw [Nat.pow_succ] at h2
        exact ⟨i + 1, x * 2, by go_num, by go_num, hlt, ⟨rfl⟩, ⟨by rw [Nat.pow_succ, hX]⟩, by omega, rfl⟩
    · obtain rfl : i = d := by omega
      have hlt' : decide (i < i) = false := decide_eq_false hlt
      go_wp2
      go_ret
      exact ⟨ret_int (by rw [HX.out]), rfl⟩
def extraN (n free group : Nat) : Nat := if n < free then 0 else (n - free) / group + 1
theorem extra_any (n free group : Nat) (hn : n ≤ 1000) (hf : free ≤ 1000) (hg : 0 < group) (hg2 : group ≤ 1000) (w : World) : Calls Try.prog 59 #[.int .i64 n, .int .i64 free, .int .i64 group] w fun e w' => e = .returned (.int .i64 (extraN n free group)) ∧ w = w' := by
  by_cases h : n < free
  · have h' : decide (n < free) = true := decide_eq_true h
    have e : extraN n free group = 0 := by unfold extraN; rw [if_pos h]
    rw [e]
    go_enter Try.func59, Try.ntmps59
    go_wp2
    go_ret
    exact ⟨rfl, rfl⟩
  · have h' : decide (n < free) = false := decide_eq_false h
    have e : Sealed (((extraN n free group : Nat) : Int) = ((n : Int) - (free : Int)) / (group : Int) + 1) := ⟨by
      unfold extraN; rw [if_neg h]
      rw [show (n : Int) - (free : Int) = ((n - free : Nat) : Int) by omega]
      simp⟩
    have hq : 0 ≤ ((n : Int) - (free : Int)) / (group : Int) := Int.ediv_nonneg (by omega) (by omega)
    have hq2 : ((n : Int) - (free : Int)) / (group : Int) ≤ 1000 := by
      have := Int.ediv_le_self (a := (n : Int) - (free : Int)) (group : Int) (by omega); omega
    have h0 : (0 : Int) ≤ (n : Int) - (free : Int) := by omega
    have hz : ((group : Int) == 0) = false := by simp; omega
    go_enter Try.func59, Try.ntmps59
    go_wp2
    go_ret
    exact ⟨ret_int (by rw [e.out]), rfl⟩
def lenSum : Nat → Nat
  | 0 => 3
  | i + 1 => lenSum i + 2 ^ extraN i 8 4
def distSum : Nat → Nat
  | 0 => 1
  | i + 1 => distSum i + 2 ^ extraN i 4 2
theorem lenSum_ok : ∀ k, k < 28 → lenSum k = leastOf lenT k ∧ extraN k 8 4 = extraOf lenT k ∧ lenSum k ≤ 1000 ∧ extraN k 8 4 ≤ 10 := by decide
theorem distSum_ok : ∀ k, k < 30 → distSum k = leastOf distT k ∧ extraN k 4 2 = extraOf distT k ∧ distSum k ≤ 100000 ∧ extraN k 4 2 ≤ 20 := by decide
theorem length10_any (k : Nat) (hk : k < 29) (w : World) : Calls Try.prog 58 #[.int .i64 k] w fun e w' => e = .returned (.int .i64 (leastOf lenT k)) ∧ w = w' := by
  by_cases h : k = 28
  · subst h
    go_enter Try.func58, Try.ntmps58
    go_wp2
    go_ret
    exact ⟨rfl, rfl⟩
  · have h' : ((k : Int) == 28) = false := by simp; omega
    have HL := Sealed.mk (lenSum_ok k (by omega)).1
    rw [← HL.out]
    clear h
    have hk2 : Sealed (k < 28) := ⟨by simp at h'; omega⟩
    go_enter Try.func58, Try.ntmps58
    go_wp2
    go_loopg [3, 4] k (fun f s3 s4 w' => ∃ i x : Nat, s3 = .int .i64 x ∧ s4 = .int .i64 i ∧ i ≤ k ∧ Sealed (f = k - i) ∧ Sealed (x = lenSum i) ∧ x ≤ 1000000 ∧ w' = w)
    case atStart => exact ⟨0, 3, rfl, rfl, by omega, ⟨rfl⟩, ⟨rfl⟩, by omega, rfl⟩
    case round =>
      obtain ⟨i, x, rfl, rfl, hi, HK, HX, hx, rfl⟩ := hrel
      by_cases hlt : i < k
      · have hlt' : decide (i < k) = true := decide_eq_true hlt
        have ho := lenSum_ok i (by have := hk2.out; omega)
        have HE := Sealed.mk (extra_any i 8 4 (by omega) (by omega) (by omega) (by omega) wr)
        have HP := Sealed.mk (power10_any (extraN i 8 4) (by omega) wr)
        have HN : Sealed (x + 2 ^ extraN i 8 4 = lenSum (i + 1)) := ⟨by rw [HX.out]; rfl⟩
        have hb : 2 ^ extraN i 8 4 ≤ 2 ^ 10 := Nat.pow_le_pow_right (by decide) ho.2.2.2
        have hx2 : Sealed (x ≤ 1000) := ⟨by rw [HX.out]; exact ho.2.2.1⟩
        clear ho
        generalize extraN i 8 4 = ex at *
        obtain ⟨pw, hpw⟩ : ∃ pw, pw = 2 ^ ex := ⟨_, rfl⟩
        rw [← hpw] at HP HN hb
        have hb2 : pw ≤ 1024 := hb
        clear hpw hb
        go_wp2_with fail
        refine HE.out.mono ?_
        rintro e w' ⟨rfl, rfl⟩
        go_wp2_with fail
        refine HP.out.mono ?_
        rintro e w' ⟨rfl, rfl⟩
        go_wp2
        go_roundg (k - (i + 1))
        case measure => have := HK.out; omega
        case rel => exact ⟨i + 1, x + pw, by go_num, by go_num, hlt, ⟨rfl⟩, HN, by have := hx2.out; omega, rfl⟩
      · obtain rfl : i = k := by omega
        have hlt' : decide (i < i) = false := decide_eq_false hlt
        go_wp2
        go_ret
        exact ⟨ret_int (by rw [HX.out]), rfl⟩
theorem distance10_any (k : Nat) (hk : k < 30) (w : World) : Calls Try.prog 60 #[.int .i64 k] w fun e w' => e = .returned (.int .i64 (leastOf distT k)) ∧ w = w' := by
  have HL := Sealed.mk (distSum_ok k (by omega)).1
  rw [← HL.out]
  have hk2 : Sealed (k < 30) := ⟨hk⟩
  go_enter Try.func60, Try.ntmps60
  go_wp2
  go_loopg [3, 4] k (fun f s3 s4 w' => ∃ i x : Nat, s3 = .int .i64 x ∧ s4 = .int .i64 i ∧ i ≤ k ∧ Sealed (f = k - i) ∧ Sealed (x = distSum i) ∧ x ≤ 100000000 ∧ w' = w)
  case atStart => exact ⟨0, 1, rfl, rfl, by omega, ⟨rfl⟩, ⟨rfl⟩, by omega, rfl⟩
  case round =>
    obtain ⟨i, x, rfl, rfl, hi, HK, HX, hx, rfl⟩ := hrel
    by_cases hlt : i < k
    · have hlt' : decide (i < k) = true := decide_eq_true hlt
      have ho := distSum_ok i (by have := hk2.out; omega)
      have HE := Sealed.mk (extra_any i 4 2 (by omega) (by omega) (by omega) (by omega) wr)
      have HP := Sealed.mk (power10_any (extraN i 4 2) (by omega) wr)
      have HN : Sealed (x + 2 ^ extraN i 4 2 = distSum (i + 1)) := ⟨by rw [HX.out]; rfl⟩
      have hb : 2 ^ extraN i 4 2 ≤ 2 ^ 20 := Nat.pow_le_pow_right (by decide) ho.2.2.2
      have hx2 : Sealed (x ≤ 100000) := ⟨by rw [HX.out]; exact ho.2.2.1⟩
      clear ho
      generalize extraN i 4 2 = ex at *
      obtain ⟨pw, hpw⟩ : ∃ pw, pw = 2 ^ ex := ⟨_, rfl⟩
      rw [← hpw] at HP HN hb
      have hb2 : pw ≤ 1048576 := hb
      clear hpw hb
      go_wp2_with fail
      refine HE.out.mono ?_
      rintro e w' ⟨rfl, rfl⟩
      go_wp2_with fail
      refine HP.out.mono ?_
      rintro e w' ⟨rfl, rfl⟩
      go_wp2
      go_roundg (k - (i + 1))
      case measure => have := HK.out; omega
      case rel => exact ⟨i + 1, x + pw, by go_num, by go_num, hlt, ⟨rfl⟩, HN, by have := hx2.out; omega, rfl⟩
    · obtain rfl : i = k := by omega
      have hlt' : decide (i < i) = false := decide_eq_false hlt
      go_wp2
      go_ret
      exact ⟨ret_int (by rw [HX.out]), rfl⟩
theorem length11_any (n : Nat) (h3 : 3 ≤ n) (hn : n ≤ 258) (w : World) : Calls Try.prog 56 #[.int .i64 n] w fun e w' => e = .returned (.int .i64 (codeOf lenT n)) ∧ w = w' := by
  obtain ⟨R, hR⟩ : ∃ R, R = codeOf lenT n := ⟨_, rfl⟩
  rw [← hR]
  have HR := Sealed.mk hR
  clear hR
  have HT : Sealed (lenT.length = 29) := ⟨rfl⟩
  go_enter Try.func56, Try.ntmps56
  go_wp2
  go_loopg [3] 29 (fun f s3 w' => ∃ k : Nat, s3 = .int .i64 k ∧ k < 29 ∧ Sealed (29 ≤ f + k) ∧ Sealed (codeFrom lenT n f k = R) ∧ w' = w)
  case atStart => exact ⟨0, rfl, by omega, ⟨by omega⟩, ⟨by rw [HR.out, codeOf, HT.out]⟩, rfl⟩
  case round =>
    obtain ⟨k, rfl, hk, HF, HE, rfl⟩ := hrel
    obtain ⟨f, rfl⟩ : ∃ f, gk = f + 1 := ⟨gk - 1, by have := HF.out; omega⟩
    have he := HE.out
    rw [codeFrom, HT.out] at he
    by_cases h1 : k + 1 < 29
    · have hd1 : decide ((k : Int) < 28) = true := decide_eq_true (by omega)
      have HL := Sealed.mk (length10_any (k + 1) h1 wr)
      obtain ⟨x, hx⟩ : ∃ x, x = leastOf lenT (k + 1) := ⟨_, rfl⟩
      rw [← hx] at HL he
      clear hx
      have hc : ((k + 1 : Nat) : Int) = (k : Int) + 1 := by omega
      rw [hc] at HL
      clear hc
      by_cases h2 : x ≤ n
      · have hd2 : decide (x ≤ n) = true := decide_eq_true h2
        rw [if_pos ⟨h1, h2⟩] at he
        have HE2 := Sealed.mk he
        clear he h2 HE
        go_wp2_with fail
        refine HL.out.mono ?_
        rintro e w' ⟨rfl, rfl⟩
        go_wp2
        go_roundg f
        case measure => omega
        case rel => exact ⟨k + 1, by go_num, h1, ⟨by have := HF.out; omega⟩, HE2, rfl⟩
      · have hd2 : decide (x ≤ n) = false := decide_eq_false h2
        rw [if_neg (fun h => h2 h.2)] at he
        have HE2 := Sealed.mk he
        clear he h2 HE
        go_wp2_with fail
        refine HL.out.mono ?_
        rintro e w' ⟨rfl, rfl⟩
        go_wp2
        go_ret
        exact ⟨ret_int (by rw [HE2.out]), rfl⟩
    · have hd1 : decide ((k : Int) < 28) = false := decide_eq_false (by omega)
      rw [if_neg (fun h => h1 h.1)] at he
      have HE2 := Sealed.mk he
      clear he h1 HE
      go_wp2
      go_ret
      exact ⟨ret_int (by rw [HE2.out]), rfl⟩
theorem distance11_any (n : Nat) (h3 : 1 ≤ n) (hn : n ≤ 32768) (w : World) : Calls Try.prog 57 #[.int .i64 n] w fun e w' => e = .returned (.int .i64 (codeOf distT n)) ∧ w = w' := by
  obtain ⟨R, hR⟩ : ∃ R, R = codeOf distT n := ⟨_, rfl⟩
  rw [← hR]
  have HR := Sealed.mk hR
  clear hR
  have HT : Sealed (distT.length = 30) := ⟨rfl⟩
  go_enter Try.func57, Try.ntmps57
  go_wp2
  go_loopg [3] 30 (fun f s3 w' => ∃ k : Nat, s3 = .int .i64 k ∧ k < 30 ∧ Sealed (30 ≤ f + k) ∧ Sealed (codeFrom distT n f k = R) ∧ w' = w)
  case atStart => exact ⟨0, rfl, by omega, ⟨by omega⟩, ⟨by rw [HR.out, codeOf, HT.out]⟩, rfl⟩
  case round =>
    obtain ⟨k, rfl, hk, HF, HE, rfl⟩ := hrel
    obtain ⟨f, rfl⟩ : ∃ f, gk = f + 1 := ⟨gk - 1, by have := HF.out; omega⟩
    have he := HE.out
    rw [codeFrom, HT.out] at he
    by_cases h1 : k + 1 < 30
    · have hd1 : decide ((k : Int) < 29) = true := decide_eq_true (by omega)
      have HL := Sealed.mk (distance10_any (k + 1) h1 wr)
      obtain ⟨x, hx⟩ : ∃ x, x = leastOf distT (k + 1) := ⟨_, rfl⟩
      rw [← hx] at HL he
      clear hx
      have hc : ((k + 1 : Nat) : Int) = (k : Int) + 1 := by omega
      rw [hc] at HL
      clear hc
      by_cases h2 : x ≤ n
      · have hd2 : decide (x ≤ n) = true := decide_eq_true h2
        rw [if_pos ⟨h1, h2⟩] at he
        have HE2 := Sealed.mk he
        clear he h2 HE
        go_wp2_with fail
        refine HL.out.mono ?_
        rintro e w' ⟨rfl, rfl⟩
        go_wp2
        go_roundg f
        case measure => omega
        case rel => exact ⟨k + 1, by go_num, h1, ⟨by have := HF.out; omega⟩, HE2, rfl⟩
      · have hd2 : decide (x ≤ n) = false := decide_eq_false h2
        rw [if_neg (fun h => h2 h.2)] at he
        have HE2 := Sealed.mk he
        clear he h2 HE
        go_wp2_with fail
        refine HL.out.mono ?_
        rintro e w' ⟨rfl, rfl⟩
        go_wp2
        go_ret
        exact ⟨ret_int (by rw [HE2.out]), rfl⟩
    · have hd1 : decide ((k : Int) < 29) = false := decide_eq_false (by omega)
      rw [if_neg (fun h => h1 h.1)] at he
      have HE2 := Sealed.mk he
      clear he h1 HE
      go_wp2
      go_ret
      exact ⟨ret_int (by rw [HE2.out]), rfl⟩
end Go.Proofs.Ytmdlhbhdlhjakaa

namespace Go.Proofs.Ytmdlhbhdlhjakaa
open Go.RowKit

def getS (s : ByteArray) (p d : Nat) : Except Nat (Nat × Nat) := if p + d ≤ 8 * s.size then .ok (val (bit s) p d, p + d) else .error 5
def symS (s : ByteArray) (ls : List Int) (p : Nat) : Except Nat (Nat × Nat) :=
  if (readOf ls (bit s) (8 * s.size) p).2.1 = 0 then .ok ((readOf ls (bit s) (8 * s.size) p).1.toNat, (readOf ls (bit s) (8 * s.size) p).2.2) else .error (readOf ls (bit s) (8 * s.size) p).2.1.toNat
def toldS (s : ByteArray) (x : Nat × Nat) (p : Nat) : Except Nat (Nat × Nat) :=
  match getS s p x.2 with
  | .error e => .error e
  | .ok (n, q) => .ok (x.1 + n, q)
def copyL (b : Nat) : Nat → List Nat → List Nat
  | 0, o => o
  | n + 1, o => copyL b n (o ++ [o.getD (o.length - b) 0])
def repeatS (s : ByteArray) (most : Nat) (fl : List Int) (k p : Nat) (o : List Nat) : Except Nat (List Nat × Nat) :=
  match toldS s (lenT.getD k (0, 0)) p with
  | .error e => .error e
  | .ok (n, p1) =>
    match symS s fl p1 with
    | .error e => .error e
    | .ok (d, p2) =>
      if 30 ≤ d then .error 4
      else match toldS s (distT.getD d (0, 0)) p2 with
        | .error e => .error e
        | .ok (b, p3) => if o.length < b then .error 3 else if most < o.length + n then .error 7 else .ok (copyL b n o, p3)
/-- What one symbol of a block comes to: an error, the block's end, more. -/
inductive Rd
  | err (e : Nat)
  | fin (o : List Nat) (p : Nat)
  | go (o : List Nat) (p : Nat)
def roundS (s : ByteArray) (most : Nat) (nl fl : List Int) (p : Nat) (o : List Nat) : Rd :=
  match symS s nl p with
  | .error e => .err e
  | .ok (n, p1) =>
    if n = 256 then .fin o p1
    else if 286 ≤ n then .err 4
    else if 256 < n then
      match repeatS s most fl (n - 257) p1 o with
      | .error e => .err e
      | .ok (o', p2) => .go o' p2
    else if most < o.length + 1 then .err 7
    else .go (o ++ [n]) p1
def codedS (s : ByteArray) (most : Nat) (nl fl : List Int) : Nat → Nat → List Nat → Except Nat (List Nat × Nat)
  | 0, _, _ => .error 4
  | k + 1, p, o =>
    match roundS s most nl fl p o with
    | .err e => .error e
    | .fin o' q => .ok (o', q)
    | .go o' q => codedS s most nl fl k q o'
def bytesAt (s : ByteArray) (q n : Nat) : List Nat := (List.range n).map fun i => byteAt s (q + i)
def storedS (s : ByteArray) (most p : Nat) (o : List Nat) : Except Nat (List Nat × Nat) :=
  match getS s (8 * ((p + 7) / 8)) 16 with
  | .error e => .error e
  | .ok (n, p1) =>
    match getS s p1 16 with
    | .error e => .error e
    | .ok (m, p2) =>
      if n + m ≠ 65535 then .error 4
      else if s.size < p2 / 8 + n then .error 5
      else if most < o.length + n then .error 7
      else .ok (o ++ bytesAt s (p2 / 8) n, p2 + 8 * n)
def orderL : List Nat := [16, 17, 18, 0, 8, 7, 9, 6, 10, 5, 11, 4, 12, 3, 13, 2, 14, 1, 15]
def headFrom (s : ByteArray) : Nat → Nat → Nat → List Int → Except Nat (List Int × Nat)
  | 0, _, p, l => .ok (l, p)
  | k + 1, i, p, l =>
    match getS s p 3 with
    | .error e => .error e
    | .ok (n, q) => headFrom s k (i + 1) q (l.set (orderL.getD i 0) (n : Int))
def headsS (s : ByteArray) (many p : Nat) : Except Nat (List Int × Nat) :=
  match headFrom s many 0 p (List.replicate 19 0) with
  | .error e => .error e
  | .ok (l, q) => if checkOf l ≠ 0 then .error 4 else .ok (l, q)
def spanOf (n : Nat) : Nat × Nat := if n = 16 then (3, 2) else if n = 17 then (3, 3) else if n = 18 then (11, 7) else (1, 0)
def whatOf (n : Nat) (row : List Nat) : Nat := if n = 16 then row.getD (row.length - 1) 0 else if n = 17 then 0 else if n = 18 then 0 else n
def rowS (s : ByteArray) (tl : List Int) (many : Nat) : Nat → Nat → List Nat → Except Nat (List Nat × Nat)
  | 0, _, _ => .error 4
  | k + 1, p, row =>
    if many ≤ row.length then .ok (row, p)
    else match symS s tl p with
      | .error e => .error e
      | .ok (n, p1) =>
        if n = 16 ∧ row.length = 0 then .error 4
        else match toldS s (spanOf n) p1 with
          | .error e => .error e
          | .ok (t, p2) => if many < row.length + t then .error 4 else rowS s tl many k p2 (row ++ List.replicate t (whatOf n row))
def sumL (l : List Nat) : Nat := l.foldl (fun a x => a + x) 0
def reachB (l : List Nat) : Bool := decide (sumL l < 2) || decide (checkOf (castL l) = 0)
def rowBad (row : List Nat) (near : Nat) : Bool := decide (checkOf (castL (row.take near)) ≠ 0) || decide (row.getD 256 0 = 0) || !reachB (row.drop near)
def ownS (s : ByteArray) (most p : Nat) (o : List Nat) : Except Nat (List Nat × Nat) :=
  match getS s p 5 with
  | .error e => .error e
  | .ok (a, p1) => match getS s p1 5 with
    | .error e => .error e
    | .ok (b, p2) => match getS s p2 4 with
      | .error e => .error e
      | .ok (c, p3) =>
        if 29 < a ∨ 29 < b then .error 4
        else match headsS s (c + 4) p3 with
          | .error e => .error e
          | .ok (tl, p4) => match rowS s tl (a + 257 + (b + 1)) (a + 257 + (b + 1) + 1) p4 [] with
            | .error e => .error e
            | .ok (row, p5) => if rowBad row (a + 257) then .error 4 else codedS s most (castL (row.take (a + 257))) (castL (row.drop (a + 257))) (8 * s.size + 1) p5 o
def kindS (s : ByteArray) (most kind p : Nat) (o : List Nat) : Except Nat (List Nat × Nat) :=
  if kind = 0 then storedS s most p o else if kind = 1 then codedS s most litL distL (8 * s.size + 1) p o else if kind = 2 then ownS s most p o else .error 4
def inflS (s : ByteArray) (most : Nat) : Nat → Nat → List Nat → Except Nat (List Nat × Nat)
  | 0, _, _ => .error 4
  | k + 1, p, o =>
    match getS s p 1 with
    | .error e => .error e
    | .ok (last, p1) => match getS s p1 2 with
      | .error e => .error e
      | .ok (kind, p2) => match kindS s most kind p2 o with
        | .error e => .error e
        | .ok (o', p3) => if last = 1 then .ok (o', (p3 + 7) / 8) else inflS s most k p3 o'
def inflateS (s : ByteArray) (most : Nat) : Except Nat (List Nat × Nat) := inflS s most (8 * s.size + 1) 0 []
end Go.Proofs.Ytmdlhbhdlhjakaa
