/- The contracts of package squeeze's finder: alike, key. The contract of package squeeze's finder: key. Plain: pieces that stood ahead. -/
import Derived.Test.YtmdlhbhdlhjakaaM10
set_option linter.unusedVariables false
set_option linter.unusedSimpArgs false
namespace Go.Proofs.Ytmdlhbhdlhjakaa
open Go.RowKit

def alikeFrom (s : ByteArray) (j q : Nat) : Nat → Nat → Nat
  | 0, n => n
  | k + 1, n => if q + n < s.size ∧ byteAt s (q + n) = byteAt s (j + n) then alikeFrom s j q k (n + 1) else n
def alikeOf (s : ByteArray) (j q : Nat) : Nat := alikeFrom s j q 258 0

theorem drewN_add (w : World) (a b : Nat) : (w.drewN a).drewN b = w.drewN (a + b) := by simp [World.drewN, Nat.add_assoc]

set_option maxRecDepth 100000 in
set_option maxHeartbeats 1000000 in
theorem alike_any {w : World} {g : Nat} {s : ByteArray} {rest : List Value} (j q : Nat) (hb : IsBlk w g (.string s :: rest) 84) (hj : j < q) (hs : s.size ≤ 1000000000) (hq : q ≤ s.size) :
    Calls Try.prog 82 #[.pointer (some ⟨g, 0, none⟩), .int .i64 j, .int .i64 q] w fun e w' => e = .returned (.int .i64 (alikeOf s j q)) ∧ ∃ m, w' = w.drewN m := by
  obtain ⟨R, hR⟩ : ∃ R, R = alikeOf s j q := ⟨_, rfl⟩
  rw [← hR]
  have HR := Sealed.mk hR
  have HB := Sealed.mk hb
  clear hR hb
  go_enter Try.func82, Try.ntmps82
  go_wp2
  go_loopg [7] 258 (fun k s7 w' => ∃ n m : Nat, s7 = .int .i64 n ∧ Sealed (n + k = 258) ∧ n ≤ 258 ∧ Sealed (alikeFrom s j q k n = R) ∧ w' = w.drewN m)
  case atStart => exact ⟨0, 0, rfl, ⟨rfl⟩, by omega, ⟨HR.out.symm⟩, rfl⟩
  case round =>
    obtain ⟨n, m, rfl, HK, hn, HE, rfl⟩ := hrel
    have h0 := (HB.out.drewN m).cell 0 rfl
    have h00 := HB.out.cell 0 rfl
    have ew : IntKind.i64.wrap ((q : Int) + (n : Int)) = (q : Int) + (n : Int) := by rw [IntKind.wrap_i64]; omega
    have ew2 : IntKind.i64.wrap ((j : Int) + (n : Int)) = (j : Int) + (n : Int) := by rw [IntKind.wrap_i64]; omega
    by_cases h1 : n < 258
    · obtain ⟨k, rfl⟩ : ∃ k, gk = k + 1 := ⟨gk - 1, by have := HK.out; omega⟩
      have hd1 : decide ((n : Int) < 258) = true := decide_eq_true (by omega)
      by_cases h2 : q + n < s.size
      · have hb0 := byteAt_get s (q + n) h2
        have hb1 := byteAt_get s (j + n) (by omega)
        have hi2 : (q : Int) + (n : Int) < (s.size : Int) := by omega
        have hd2 : decide ((q : Int) + (n : Int) < (s.size : Int)) = true := decide_eq_true hi2
        have hi3 : (j : Int) + (n : Int) < (s.size : Int) := by omega
        have hx0 : 0 ≤ (q : Int) + (n : Int) := by omega
        have hx1 : 0 ≤ (j : Int) + (n : Int) := by omega
        have et0 : ((q : Int) + (n : Int)).toNat = q + n := by omega
        have et1 : ((j : Int) + (n : Int)).toNat = j + n := by omega
        obtain ⟨b0, hb0e⟩ : ∃ b, b = byteAt s (q + n) := ⟨_, rfl⟩
        obtain ⟨b1, hb1e⟩ : ∃ b, b = byteAt s (j + n) := ⟨_, rfl⟩
        rw [← hb0e] at hb0
        rw [← hb1e] at hb1
        have H0 := Sealed.mk hb0e
        have H1 := Sealed.mk hb1e
        clear hb0e hb1e
        have he := HE.out
        rw [alikeFrom, ← H0.out, ← H1.out] at he
        by_cases h4 : b0 = b1
        · have hd4 : ((b0 : Int) == (b1 : Int)) = true := by subst h4; simp
          rw [if_pos ⟨h2, h4⟩] at he
          have HV := Sealed.mk he
          clear he h4 HE
          go_wp2
          go_quiet (fail)
          go_wp2
          go_roundg k
          case measure => omega
          case rel => exact ⟨n + 1, m + _, by go_num, ⟨by have := HK.out; omega⟩, by omega, HV, rfl⟩
        · have hd4 : ((b0 : Int) == (b1 : Int)) = false := by simp; omega
          rw [if_neg (fun h => h4 h.2)] at he
          have HV := Sealed.mk he
          clear he h4 HE
          go_wp2
          go_quiet (fail)
          go_wp2
          go_ret
          exact ⟨ret_int (by rw [HV.out]), m + _, drewN_add _ _ _⟩
      · have hd2 : decide ((q : Int) + (n : Int) < (s.size : Int)) = false := decide_eq_false (by omega)
        have he := HE.out
        rw [alikeFrom, if_neg (by omega)] at he
        have HV := Sealed.mk he
        clear he h2 hq HE
        go_wp2
        go_quiet (fail)
        go_wp2
        go_ret
        exact ⟨ret_int (by rw [HV.out]), m + _, drewN_add _ _ _⟩
    · have hd1 : decide ((n : Int) < 258) = false := decide_eq_false (by omega)
      have he := HE.out
      obtain rfl : gk = 0 := by have := HK.out; omega
      rw [alikeFrom] at he
      have HV := Sealed.mk he
      clear he h1 HE
      go_wp2
      go_quiet (fail)
      go_wp2
      go_ret
      exact ⟨ret_int (by rw [HV.out]), m + _, drewN_add _ _ _⟩
end Go.Proofs.Ytmdlhbhdlhjakaa

namespace Go.Proofs.Ytmdlhbhdlhjakaa
open Go.RowKit

theorem or_hi (x y i : Nat) (hy : y < 2 ^ i) (hxy : x * 2 ^ i + y < 2 ^ 62) : bits .or .i64 (((x * 2 ^ i : Nat) : Int)) (y : Int) = ((x * 2 ^ i + y : Nat) : Int) := by
  have h1 : bits .or .i64 (((x * 2 ^ i : Nat) : Int)) (y : Int) = (((x * 2 ^ i) ||| y : Nat) : Int) :=
    (bits_nat .i64 62 (by decide) (fun n a b => wraps_i62 n a b) (x * 2 ^ i) y (by omega) (by omega)).2
  rw [h1]
  congr 1
  rw [Nat.mul_comm, ← Nat.two_pow_add_eq_or_of_lt hy x]
def keyOf (s : ByteArray) (q : Nat) : Nat := byteAt s q * 65536 + byteAt s (q + 1) * 256 + byteAt s (q + 2)
set_option maxRecDepth 100000 in
theorem key_any {w : World} {g : Nat} {s : ByteArray} {rest : List Value} (q : Nat) (hb : IsBlk w g (.string s :: rest) 84) (hs : s.size ≤ 1000000000) (hq : q + 3 ≤ s.size) :
    Calls Try.prog 81 #[.pointer (some ⟨g, 0, none⟩), .int .i64 q] w fun e w' => e = .returned (.int .i64 (keyOf s q)) ∧ ∃ m, w' = w.drewN m := by
  have h0 := hb.cell 0 rfl
  have hb0 := byteAt_get s q (by omega)
  have hb1 := byteAt_get s (q + 1) (by omega)
  have hb2 := byteAt_get s (q + 2) (by omega)
  have l0 := byteAt_lt s q
  have l1 := byteAt_lt s (q + 1)
  have l2 := byteAt_lt s (q + 2)
  have hi0 : (q : Int) < (s.size : Int) := by omega
  have hi1 : (q : Int) + 1 < (s.size : Int) := by omega
  have hi2 : (q : Int) + 2 < (s.size : Int) := by omega
  have hx1 : 0 ≤ (q : Int) + 1 := by omega
  have hx2 : 0 ≤ (q : Int) + 2 := by omega
  have et1 : ((q : Int) + 1).toNat = q + 1 := by omega
  have et2 : ((q : Int) + 2).toNat = q + 2 := by omega
  have ew1 : IntKind.i64.wrap ((q : Int) + 1) = (q : Int) + 1 := by rw [IntKind.wrap_i64]; omega
  have ew2 : IntKind.i64.wrap ((q : Int) + 2) = (q : Int) + 2 := by rw [IntKind.wrap_i64]; omega
  obtain ⟨K, hK⟩ : ∃ K, K = keyOf s q := ⟨_, rfl⟩
  rw [← hK]
  unfold keyOf at hK
  generalize byteAt s q = b0 at *
  generalize byteAt s (q + 1) = b1 at *
  generalize byteAt s (q + 2) = b2 at *
  have HK := Sealed.mk hK
  clear hK
  go_enter Try.func81, Try.ntmps81
  go_wp2
  go_quiet (fail)
  go_wp2
  go_ret
  refine ⟨ret_int ?_, _, rfl⟩
  have e1 : bits .or .i64 ((b0 : Int) * 65536) ((b1 : Int) * 256) = (((b0 * 256 + b1) * 2 ^ 8 : Nat) : Int) := by
    have h := or_hi b0 (b1 * 256) 16 (by omega) (by omega)
    have a1 : ((b0 * 2 ^ 16 : Nat) : Int) = (b0 : Int) * 65536 := by omega
    have a2 : ((b1 * 256 : Nat) : Int) = (b1 : Int) * 256 := by omega
    rw [a1, a2] at h
    rw [h]; congr 1; omega
  rw [e1, or_hi (b0 * 256 + b1) b2 8 (by omega) (by omega), HK.out]
  congr 1; omega
end Go.Proofs.Ytmdlhbhdlhjakaa

namespace Go.Proofs.Ytmdlhbhdlhjakaa
open Go.RowKit

theorem alikeFrom_ge (s : ByteArray) (j q : Nat) : ∀ k n, n ≤ alikeFrom s j q k n
  | 0, n => Nat.le_refl _
  | k + 1, n => by
    rw [alikeFrom]
    split
    · exact Nat.le_trans (Nat.le_succ _) (alikeFrom_ge s j q k (n + 1))
    · exact Nat.le_refl _
theorem alikeFrom_le (s : ByteArray) (j q : Nat) : ∀ k n, alikeFrom s j q k n ≤ n + k
  | 0, n => Nat.le_refl _
  | k + 1, n => by
    rw [alikeFrom]
    split
    · have := alikeFrom_le s j q k (n + 1); omega
    · omega
theorem alikeFrom_eq (s : ByteArray) (j q : Nat) : ∀ k n i, n ≤ i → i < alikeFrom s j q k n → q + i < s.size ∧ byteAt s (q + i) = byteAt s (j + i)
  | 0, n, i, h0, h1 => by rw [alikeFrom] at h1; omega
  | k + 1, n, i, h0, h1 => by
    rw [alikeFrom] at h1
    split at h1
    · rename_i h
      by_cases e : i = n
      · subst e; exact h
      · exact alikeFrom_eq s j q k (n + 1) i (by omega) h1
    · omega
theorem alikeFrom_stop (s : ByteArray) (j q : Nat) : ∀ k n, alikeFrom s j q k n < n + k → ¬ (q + alikeFrom s j q k n < s.size ∧ byteAt s (q + alikeFrom s j q k n) = byteAt s (j + alikeFrom s j q k n))
  | 0, n, h => by rw [alikeFrom] at h; omega
  | k + 1, n, h => by
    rw [alikeFrom] at h ⊢
    split
    · rename_i hc
      rw [if_pos hc] at h
      exact alikeFrom_stop s j q k (n + 1) (by omega)
    · rename_i hc; exact hc
theorem alikeOf_le (s : ByteArray) (j q : Nat) : alikeOf s j q ≤ 258 := by have := alikeFrom_le s j q 258 0; unfold alikeOf; omega
theorem alikeOf_eq {s : ByteArray} {j q i : Nat} (h : i < alikeOf s j q) : q + i < s.size ∧ byteAt s (q + i) = byteAt s (j + i) := alikeFrom_eq s j q 258 0 i (Nat.zero_le _) h
theorem alikeOf_three {s : ByteArray} {j q : Nat} (h3 : q + 3 ≤ s.size) : 3 ≤ alikeOf s j q ↔ keyOf s j = keyOf s q := by
  have a0 := byteAt_lt s j
  have a1 := byteAt_lt s (j + 1)
  have a2 := byteAt_lt s (j + 2)
  have b0 := byteAt_lt s q
  have b1 := byteAt_lt s (q + 1)
  have b2 := byteAt_lt s (q + 2)
  constructor
  · intro h
    have e0 := (alikeOf_eq (s := s) (j := j) (q := q) (i := 0) (by omega)).2
    have e1 := (alikeOf_eq (s := s) (j := j) (q := q) (i := 1) (by omega)).2
    have e2 := (alikeOf_eq (s := s) (j := j) (q := q) (i := 2) (by omega)).2
    simp only [Nat.add_zero] at e0
    unfold keyOf
    rw [e0, e1, e2]
  · intro h
    unfold keyOf at h
    have e0 : byteAt s q = byteAt s j := by omega
    have e1 : byteAt s (q + 1) = byteAt s (j + 1) := by omega
    have e2 : byteAt s (q + 2) = byteAt s (j + 2) := by omega
    unfold alikeOf
    rw [alikeFrom, if_pos ⟨by omega, by simpa using e0⟩, alikeFrom, if_pos ⟨by omega, by simpa using e1⟩, alikeFrom, if_pos ⟨by omega, by simpa using e2⟩]
    exact alikeFrom_ge s j q 255 3

/-- The latest place ahead of d whose three bytes are the number x. -/
def lastOf (s : ByteArray) (x : Nat) : Nat → Option Nat
  | 0 => none
  | d + 1 => if d + 3 ≤ s.size ∧ keyOf s d = x then some d else lastOf s x d
theorem lastOf_some {s : ByteArray} {x j : Nat} : ∀ {d : Nat}, lastOf s x d = some j → j < d ∧ j + 3 ≤ s.size ∧ keyOf s j = x ∧ ∀ i, j < i → i < d → ¬ (i + 3 ≤ s.size ∧ keyOf s i = x)
  | 0, h => by simp [lastOf] at h
  | d + 1, h => by
    rw [lastOf] at h
    split at h
    · rename_i hc
      injection h with h
      subst h
      exact ⟨by omega, hc.1, hc.2, fun i h1 h2 => by omega⟩
    · rename_i hc
      obtain ⟨h1, h2, h3, h4⟩ := lastOf_some h
      refine ⟨by omega, h2, h3, fun i hi hd => ?_⟩
      by_cases e : i = d
      · subst e; exact hc
      · exact h4 i hi (by omega)
theorem lastOf_none {s : ByteArray} {x : Nat} : ∀ {d : Nat}, lastOf s x d = none → ∀ i, i < d → ¬ (i + 3 ≤ s.size ∧ keyOf s i = x)
  | 0, _, i, h => by omega
  | d + 1, h, i, hi => by
    rw [lastOf] at h
    split at h
    · cases h
    · rename_i hc
      by_cases e : i = d
      · subst e; exact hc
      · exact lastOf_none h i (by omega)
def optI : Option Nat → Int
  | some j => (j : Int)
  | none => -1
def prevOf (s : ByteArray) (i : Nat) : Int := if i + 3 ≤ s.size then optI (lastOf s (keyOf s i) i) else -1
def nextL (s : ByteArray) (d : Nat) : List Int := (List.range d).map (prevOf s)
theorem nextL_len (s : ByteArray) (d : Nat) : (nextL s d).length = d := by simp [nextL]
theorem nextL_succ (s : ByteArray) (d : Nat) : nextL s (d + 1) = nextL s d ++ [prevOf s d] := by simp [nextL, List.range_succ]
theorem nextL_set (s : ByteArray) (d : Nat) (x : Int) : (nextL s d ++ [-1]).set d x = nextL s d ++ [x] := by
  rw [List.set_append_right _ _ (by rw [nextL_len]; omega), nextL_len, Nat.sub_self]; rfl
theorem nextL_get {s : ByteArray} {d i : Nat} (h : i < d) : (nextL s d).getD i 0 = prevOf s i := by
  simp [nextL, List.getD_eq_getElem?_getD, h]
theorem prevOf_big {s : ByteArray} {d : Nat} (h : s.size < d + 3) : prevOf s d = -1 := by unfold prevOf; rw [if_neg (by omega)]
theorem prevOf_small {s : ByteArray} {d : Nat} (h : d + 3 ≤ s.size) : prevOf s d = optI (lastOf s (keyOf s d) d) := by unfold prevOf; rw [if_pos h]
theorem lastOf_big {s : ByteArray} {d : Nat} (h : s.size < d + 3) (x : Nat) : lastOf s x (d + 1) = lastOf s x d := by rw [lastOf, if_neg (by omega)]
theorem lastOf_same {s : ByteArray} {d : Nat} (h : d + 3 ≤ s.size) : lastOf s (keyOf s d) (d + 1) = some d := by rw [lastOf, if_pos ⟨h, rfl⟩]
theorem lastOf_other {s : ByteArray} {d x : Nat} (h : x ≠ keyOf s d) : lastOf s x (d + 1) = lastOf s x d := by rw [lastOf, if_neg (fun h' => h h'.2.symm)]
theorem keyOf_lt (s : ByteArray) (q : Nat) : keyOf s q < 16777216 := by
  have b0 := byteAt_lt s q
  have b1 := byteAt_lt s (q + 1)
  have b2 := byteAt_lt s (q + 2)
  unfold keyOf; omega
theorem prevOf_lo (s : ByteArray) (i : Nat) : -1 ≤ prevOf s i ∧ prevOf s i < (i : Int) ∨ i = 0 ∧ prevOf s i = -1 := by
  unfold prevOf
  split
  · cases h : lastOf s (keyOf s i) i with
    | none => simp only [optI]; omega
    | some j => have := (lastOf_some h).1; simp only [optI]; omega
  · omega

/-! ### The longest piece -/
def pieceK (s : ByteArray) (q : Nat) : Nat → Nat → Nat → Nat × Nat
  | 0, n, b => (n, b)
  | j + 1, n, b => if q - j ≤ 32768 then (if 3 ≤ alikeOf s j q ∧ n < alikeOf s j q then pieceK s q j (alikeOf s j q) (q - j) else pieceK s q j n b) else (n, b)
def findOf (s : ByteArray) (q : Nat) : Nat × Nat := if q + 3 ≤ s.size then pieceK s q q 0 0 else (0, 0)
theorem pieceK_far {s : ByteArray} {q : Nat} : ∀ {j : Nat}, 32768 < q - j → ∀ {p : Nat}, p ≤ j + 1 → ∀ n b, pieceK s q p n b = (n, b)
  | j, hj, 0, hp, n, b => rfl
  | j, hj, p + 1, hp, n, b => by rw [pieceK, if_neg (by omega)]
theorem pieceK_skip {s : ByteArray} {q p : Nat} : ∀ {j : Nat}, p ≤ j → (∀ i, p ≤ i → i < j → alikeOf s i q < 3) → ∀ n b, pieceK s q j n b = pieceK s q p n b
  | 0, hp, _, n, b => by obtain rfl : p = 0 := by omega
                         rfl
  | j + 1, hp, h, n, b => by
    by_cases e : p = j + 1
    · subst e; rfl
    · rw [pieceK]
      by_cases hf : q - j ≤ 32768
      · have := h j (by omega) (by omega)
        rw [if_pos hf, if_neg (by omega)]
        exact pieceK_skip (by omega) (fun i h1 h2 => h i h1 (by omega)) n b
      · rw [if_neg hf, pieceK_far (j := j) (by omega) (by omega)]
theorem pieceK_full {s : ByteArray} {q : Nat} (b : Nat) : ∀ j, pieceK s q j 258 b = (258, b)
  | 0 => rfl
  | j + 1 => by
    have := alikeOf_le s j q
    rw [pieceK, if_neg (by omega : ¬ (3 ≤ alikeOf s j q ∧ 258 < alikeOf s j q)), pieceK_full b j]
    split <;> rfl
theorem pieceK_last {s : ByteArray} {q d : Nat} (h3 : q + 3 ≤ s.size) (hd : d ≤ q) (n b : Nat) :
    pieceK s q d n b = match lastOf s (keyOf s q) d with | some j => pieceK s q (j + 1) n b | none => (n, b) := by
  cases h : lastOf s (keyOf s q) d with
  | none =>
    have := lastOf_none h
    exact (pieceK_skip (p := 0) (Nat.zero_le _) (fun i _ hi => by
      have h1 := this i hi
      have h2 : keyOf s i ≠ keyOf s q := fun e => h1 ⟨by omega, e⟩
      have := mt (alikeOf_three (j := i) h3).1 h2
      omega) n b)
  | some j =>
    obtain ⟨h0, h1, h2, h4⟩ := lastOf_some h
    exact (pieceK_skip (p := j + 1) (by omega) (fun i hi hd' => by
      have h1 := h4 i (by omega) hd'
      have h2 : keyOf s i ≠ keyOf s q := fun e => h1 ⟨by omega, e⟩
      have := mt (alikeOf_three (j := i) h3).1 h2
      omega) n b)
/-- From one place of a chain to the next. -/
theorem pieceK_chain {s : ByteArray} {q j : Nat} (h3 : q + 3 ≤ s.size) (hj : j < q) (hk : keyOf s j = keyOf s q) (n b : Nat) :
    pieceK s q j n b = if 0 ≤ prevOf s j then pieceK s q ((prevOf s j).toNat + 1) n b else (n, b) := by
  rw [prevOf_small (by omega), hk, pieceK_last h3 (by omega)]
  cases h : lastOf s (keyOf s q) j with
  | none => simp [optI]
  | some i => simp [optI]
theorem prevOf_key {s : ByteArray} {q j : Nat} (h3 : q + 3 ≤ s.size) (hj : j < q) (hk : keyOf s j = keyOf s q) (hp : 0 ≤ prevOf s j) : (prevOf s j).toNat < j ∧ keyOf s (prevOf s j).toNat = keyOf s q := by
  rw [prevOf_small (by omega)] at hp ⊢
  cases h : lastOf s (keyOf s j) j with
  | none => rw [h] at hp; simp [optI] at hp
  | some i =>
    obtain ⟨h0, h1, h2, h4⟩ := lastOf_some h
    exact ⟨h0, h2.trans hk⟩
def GoodPiece (s : ByteArray) (q n b : Nat) : Prop := n = 0 ∧ b = 0 ∨ 3 ≤ n ∧ 1 ≤ b ∧ b ≤ q ∧ b ≤ 32768 ∧ n = alikeOf s (q - b) q
theorem pieceK_good {s : ByteArray} {q : Nat} : ∀ j n b, j ≤ q → GoodPiece s q n b → GoodPiece s q (pieceK s q j n b).1 (pieceK s q j n b).2
  | 0, n, b, _, h => h
  | j + 1, n, b, hj, h => by
    rw [pieceK]
    split
    · split
      · rename_i h1 h2
        refine pieceK_good j _ _ (by omega) (.inr ⟨h2.1, by omega, by omega, by omega, ?_⟩)
        rw [show q - (q - j) = j by omega]
      · exact pieceK_good j n b (by omega) h
    · exact h
theorem findOf_good (s : ByteArray) (q : Nat) : GoodPiece s q (findOf s q).1 (findOf s q).2 := by
  unfold findOf
  split
  · exact pieceK_good q 0 0 (Nat.le_refl _) (.inl ⟨rfl, rfl⟩)
  · exact .inl ⟨rfl, rfl⟩
end Go.Proofs.Ytmdlhbhdlhjakaa
