/- Plain: the bits of fixed codes. -/
import Derived.Test.YtmdlhbhdlhjakaaFindP
import Derived.Test.YtmdlhbhdlhjakaaSpans
set_option linter.unusedVariables false
set_option linter.unusedSimpArgs false
namespace Go.Proofs.Ytmdlhbhdlhjakaa
open Go.RowKit

def lenT : List (Nat × Nat) := [(3, 0), (4, 0), (5, 0), (6, 0), (7, 0), (8, 0), (9, 0), (10, 0), (11, 1), (13, 1), (15, 1), (17, 1), (19, 2), (23, 2), (27, 2),
  (31, 2), (35, 3), (43, 3), (51, 3), (59, 3), (67, 4), (83, 4), (99, 4), (115, 4), (131, 5), (163, 5), (195, 5), (227, 5), (258, 0)]
def distT : List (Nat × Nat) := [(1, 0), (2, 0), (3, 0), (4, 0), (5, 1), (7, 1), (9, 2), (13, 2), (17, 3), (25, 3), (33, 4), (49, 4), (65, 5), (97, 5), (129, 6),
  (193, 6), (257, 7), (385, 7), (513, 8), (769, 8), (1025, 9), (1537, 9), (2049, 10), (3073, 10), (4097, 11), (6145, 11), (8193, 12), (12289, 12), (16385, 13), (24577, 13)]
def cellsOf (T : List (Nat × Nat)) : List Int := T.flatMap fun x => [(x.1 : Int), (x.2 : Int)]
theorem lenCells_eq : lenCells = cellsOf lenT := by decide
theorem distCells_eq : distCells = cellsOf distT := by decide
def leastOf (T : List (Nat × Nat)) (k : Nat) : Nat := (T.getD k (0, 0)).1
def extraOf (T : List (Nat × Nat)) (k : Nat) : Nat := (T.getD k (0, 0)).2
theorem cellsOf_len : ∀ T : List (Nat × Nat), (cellsOf T).length = 2 * T.length
  | [] => rfl
  | x :: xs => by
    have := cellsOf_len xs
    show (_ :: _ :: cellsOf xs).length = _
    simp only [List.length_cons, this]; omega
theorem cellsOf_get : ∀ (T : List (Nat × Nat)) (k : Nat), k < T.length → (cellsOf T).getD (2 * k) 0 = (leastOf T k : Int) ∧ (cellsOf T).getD (2 * k + 1) 0 = (extraOf T k : Int)
  | [], k, h => by simp at h
  | x :: xs, 0, h => ⟨rfl, rfl⟩
  | x :: xs, k + 1, h => cellsOf_get xs k (by simpa using h)
def codeFrom (T : List (Nat × Nat)) (n : Nat) : Nat → Nat → Nat
  | 0, k => k
  | f + 1, k => if k + 1 < T.length ∧ leastOf T (k + 1) ≤ n then codeFrom T n f (k + 1) else k
def codeOf (T : List (Nat × Nat)) (n : Nat) : Nat := codeFrom T n T.length 0
theorem codeFrom_ok (T : List (Nat × Nat)) (n : Nat) : ∀ f k, T.length ≤ f + k → k < T.length → leastOf T k ≤ n →
    codeFrom T n f k < T.length ∧ leastOf T (codeFrom T n f k) ≤ n ∧ (codeFrom T n f k + 1 < T.length → n < leastOf T (codeFrom T n f k + 1))
  | 0, k, h1, h2, h3 => by omega
  | f + 1, k, h1, h2, h3 => by
    rw [codeFrom]
    split
    · rename_i h
      exact codeFrom_ok T n f (k + 1) (by omega) h.1 h.2
    · rename_i h
      exact ⟨h2, h3, fun hl => by
        rcases Nat.lt_or_ge n (leastOf T (k + 1)) with h' | h'
        · exact h'
        · exact absurd ⟨hl, h'⟩ h⟩
theorem codeOf_len {n : Nat} (h3 : 3 ≤ n) (h : n ≤ 258) : codeOf lenT n < 29 ∧ leastOf lenT (codeOf lenT n) ≤ n ∧ n - leastOf lenT (codeOf lenT n) < 2 ^ extraOf lenT (codeOf lenT n) ∧ extraOf lenT (codeOf lenT n) ≤ 5 := by
  obtain ⟨h1, h2, h4⟩ := codeFrom_ok lenT n lenT.length 0 (by omega) (by decide) (by show 3 ≤ n; exact h3)
  change codeOf lenT n < _ at h1
  change leastOf lenT (codeOf lenT n) ≤ n at h2
  change codeOf lenT n + 1 < _ → n < leastOf lenT (codeOf lenT n + 1) at h4
  generalize codeOf lenT n = r at *
  have hl : lenT.length = 29 := rfl
  rw [hl] at h1 h4
  have t : ∀ r, r < 29 → (leastOf lenT (r + 1) ≤ leastOf lenT r + 2 ^ extraOf lenT r ∨ r = 28) ∧ extraOf lenT r ≤ 5 := by decide
  have t2 : leastOf lenT 28 = 258 ∧ extraOf lenT 28 = 0 := by decide
  obtain ⟨ta, tb⟩ := t r h1
  refine ⟨h1, h2, ?_, tb⟩
  rcases ta with ta | ta
  · by_cases hr : r + 1 < 29
    · have := h4 hr; omega
    · obtain rfl : r = 28 := by omega
      rw [t2.1, t2.2]; omega
  · subst ta
    rw [t2.1, t2.2]; omega
theorem codeOf_dist {n : Nat} (h1' : 1 ≤ n) (h : n ≤ 32768) : codeOf distT n < 30 ∧ leastOf distT (codeOf distT n) ≤ n ∧ n - leastOf distT (codeOf distT n) < 2 ^ extraOf distT (codeOf distT n) ∧ extraOf distT (codeOf distT n) ≤ 13 := by
  obtain ⟨h1, h2, h4⟩ := codeFrom_ok distT n distT.length 0 (by omega) (by decide) (by show 1 ≤ n; exact h1')
  change codeOf distT n < _ at h1
  change leastOf distT (codeOf distT n) ≤ n at h2
  change codeOf distT n + 1 < _ → n < leastOf distT (codeOf distT n + 1) at h4
  generalize codeOf distT n = r at *
  have hl : distT.length = 30 := rfl
  rw [hl] at h1 h4
  have t : ∀ r, r < 30 → (leastOf distT (r + 1) ≤ leastOf distT r + 2 ^ extraOf distT r ∨ r = 29) ∧ extraOf distT r ≤ 13 := by decide
  have t2 : leastOf distT 29 = 24577 ∧ extraOf distT 29 = 13 := by decide
  obtain ⟨ta, tb⟩ := t r h1
  refine ⟨h1, h2, ?_, tb⟩
  rcases ta with ta | ta
  · by_cases hr : r + 1 < 30
    · have := h4 hr; omega
    · obtain rfl : r = 29 := by omega
      rw [t2.1, t2.2]; omega
  · subst ta
    rw [t2.1, t2.2]; omega

/-! ### The bits -/
inductive Tok
  | lit (c : Nat)
  | copy (n b : Nat)
def copyBits (n b : Nat) : List Nat :=
  symBits litL ((257 + codeOf lenT n : Nat) : Int) ++ numBits (n - leastOf lenT (codeOf lenT n)) (extraOf lenT (codeOf lenT n)) ++
    (symBits distL ((codeOf distT b : Nat) : Int) ++ numBits (b - leastOf distT (codeOf distT b)) (extraOf distT (codeOf distT b)))
def tokBits : Tok → List Nat
  | .lit c => symBits litL (c : Int)
  | .copy n b => copyBits n b
def bitsT (ts : List Tok) : List Nat := ts.flatMap tokBits
def toksFrom (s : ByteArray) : Nat → Nat → List Tok
  | 0, _ => []
  | k + 1, q => if q < s.size then (if (findOf s q).1 < 3 then .lit (byteAt s q) :: toksFrom s k (q + 1) else .copy (findOf s q).1 (findOf s q).2 :: toksFrom s k (q + (findOf s q).1)) else []
def toksOf (s : ByteArray) : List Tok := toksFrom s s.size 0
def fixBits (s : ByteArray) : List Nat := numBits 1 1 ++ numBits 1 2 ++ bitsT (toksOf s) ++ symBits litL 256
theorem litL_get {i : Nat} (h : i < 288) : litL.getD i 0 = litF i := by simp [litL, List.getD_eq_getElem?_getD, h]
theorem distL_get {i : Nat} (h : i < 32) : distL.getD i 0 = 5 := by simp [distL, List.getD_eq_getElem?_getD, h]
theorem litF_bd (i : Nat) : 7 ≤ litF i ∧ litF i ≤ 9 := by unfold litF; repeat' (first | omega | split)
theorem lit_valid {i : Nat} (h : i < 288) : validB litL (i : Int) = true := by
  have h1 := litF_bd i
  have h2 : litL.length = 288 := litL_ok.2.2
  unfold validB
  rw [Int.toNat_natCast, litL_get h, h2]
  simp; omega
theorem dist_valid {i : Nat} (h : i < 32) : validB distL (i : Int) = true := by
  have h2 : distL.length = 32 := distL_ok.2.2
  unfold validB
  rw [Int.toNat_natCast, distL_get h, h2]
  simp; omega
theorem lit_len {i : Nat} (h : i < 288) : (symBits litL (i : Int)).length ≤ 15 ∧ 1 ≤ (symBits litL (i : Int)).length := symBits_len litL_ok.1 (lit_valid h)
theorem dist_len {i : Nat} (h : i < 32) : (symBits distL (i : Int)).length ≤ 15 ∧ 1 ≤ (symBits distL (i : Int)).length := symBits_len distL_ok.1 (dist_valid h)
theorem copyBits_len {n b : Nat} (h3 : 3 ≤ n) (h : n ≤ 258) (h1 : 1 ≤ b) (hb : b ≤ 32768) : (copyBits n b).length ≤ 48 := by
  obtain ⟨a1, a2, a3, a4⟩ := codeOf_len h3 h
  obtain ⟨b1, b2, b3, b4⟩ := codeOf_dist h1 hb
  have c1 := lit_len (i := 257 + codeOf lenT n) (by omega)
  have c2 := dist_len (i := codeOf distT b) (by omega)
  unfold copyBits
  simp only [List.length_append, numBits_length]
  omega
end Go.Proofs.Ytmdlhbhdlhjakaa
