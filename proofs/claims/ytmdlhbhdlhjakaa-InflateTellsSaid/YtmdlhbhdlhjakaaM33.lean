/- The document's answer's symbol, told wholly; plain laws of its copied. -/
import Derived.Test.YtmdlhbhdlhjakaaM32
set_option linter.unusedVariables false
set_option linter.unusedSimpArgs false
namespace Go.Proofs.Ytmdlhbhdlhjakaa
open Go.RowKit

/-- What 'symbol' gives: the place, the error, the symbol. -/
def symR (s : ByteArray) (ls : List Int) (p code : Nat) : Nat × Nat × Nat :=
  if code = 0 then ((readOf ls (bit s) (8 * s.size) p).2.2, (readOf ls (bit s) (8 * s.size) p).2.1.toNat, (readOf ls (bit s) (8 * s.size) p).1.toNat) else (p, code, 0)
theorem symR_err {s : ByteArray} {ls : List Int} {p code : Nat} (h : code ≠ 0) : symR s ls p code = (p, code, 0) := by unfold symR; rw [if_neg h]
theorem symR_ok {s : ByteArray} {ls : List Int} {p n q : Nat} (h : symS s ls p = .ok (n, q)) (h0 : 0 < ls.length) : symR s ls p 0 = (q, 0, n) := by
  unfold symR; rw [if_pos rfl, sym_ok_read h h0]; simp
theorem symR_bad {s : ByteArray} {ls : List Int} {p e : Nat} (h : symS s ls p = .error e) : ∃ P, symR s ls p 0 = (P, e, 0) := by
  unfold symR; rw [if_pos rfl, sym_err_read h]; exact ⟨(readOf ls (bit s) (8 * s.size) p).2.2, rfl⟩
theorem readFrom_le {ls : List Int} {f : Nat → Nat} {lim : Nat} : ∀ k n p c h a, p ≤ lim → (readFrom ls f lim k n p c h a).2.2 ≤ lim
  | 0, n, p, c, h, a, hp => by simpa [readFrom] using hp
  | k + 1, n, p, c, h, a, hp => by
    simp only [readFrom]
    split
    · exact hp
    · split
      · exact readFrom_le _ _ _ _ _ _ (by omega)
      · simp; omega
theorem symR_le {s : ByteArray} {ls : List Int} {p code : Nat} (hp : p ≤ 8 * s.size) : (symR s ls p code).1 ≤ 8 * s.size := by
  unfold symR
  split
  · exact readFrom_le _ _ _ _ _ _ hp
  · exact hp
theorem symR_val {s : ByteArray} {ls : List Int} {p code : Nat} (h0 : 0 < ls.length) : (symR s ls p code).2.2 < ls.length := by
  unfold symR
  split
  · have hx := readFrom_sym (f := bit s) (lim := 8 * s.size) h0 (longOf ls).toNat 1 p 0 0 0
    change 0 ≤ (readOf ls (bit s) (8 * s.size) p).1 ∧ (readOf ls (bit s) (8 * s.size) p).1 < _ at hx
    show (readOf ls (bit s) (8 * s.size) p).1.toNat < _
    omega
  · exact h0
theorem rsym_tot (x : RS) (p code : Nat) {A0 A1 : Option Addr} {c0 c1 : Nat} {ls : List Int} {w : World} (hs : x.s.size ≤ 100000000) (hp : p ≤ 8 * x.s.size) (hnB : x.nB = 8 * x.s.size) (hB : Reads w .i64 x.AB (sbits x.s (8 * x.s.size))) (h0 : Reads w .i64 A0 ls) (h1 : Reads w .i64 A1 (codesOf ls)) (hn : ls.length ≤ 320) (hl0 : 0 < ls.length) (ha : ls.all lenOk = true) {N : Nat} (hN : N = ls.length) {Z : Int} (hZ : Z = (code : Int)) :
    Calls Try.prog 94 #[x.v p Z, .slice A0 N c0, .slice A1 N c1] w fun e w' => e = .returned (.tuple #[x.v (symR x.s ls p code).1 (symR x.s ls p code).2.1, .int .i64 (symR x.s ls p code).2.2]) ∧ Below w.heap.size w w' := by
  subst hZ
  by_cases h : code = 0
  · subst h
    have hh := rsym_any x p (c0 := c0) (c1 := c1) hs hp hnB hB h0 h1 hn ha hN
    have hx := readFrom_sym (f := bit x.s) (lim := 8 * x.s.size) hl0 (longOf ls).toNat 1 p 0 0 0
    have he := readFrom_err (ls := ls) (f := bit x.s) (lim := 8 * x.s.size) (longOf ls).toNat 1 p 0 0 0
    change 0 ≤ (readOf ls (bit x.s) (8 * x.s.size) p).1 ∧ _ at hx
    change 0 ≤ (readOf ls (bit x.s) (8 * x.s.size) p).2.1 ∧ _ at he
    have e1 : (((symR x.s ls p 0).2.2 : Nat) : Int) = (readOf ls (bit x.s) (8 * x.s.size) p).1 := by
      unfold symR; rw [if_pos rfl]; show ((readOf ls (bit x.s) (8 * x.s.size) p).1.toNat : Int) = _; omega
    have e2 : (((symR x.s ls p 0).2.1 : Nat) : Int) = (readOf ls (bit x.s) (8 * x.s.size) p).2.1 := by
      unfold symR; rw [if_pos rfl]; show ((readOf ls (bit x.s) (8 * x.s.size) p).2.1.toNat : Int) = _; omega
    have e3 : (symR x.s ls p 0).1 = (readOf ls (bit x.s) (8 * x.s.size) p).2.2 := by unfold symR; rw [if_pos rfl]
    rw [e1, e2, e3]
    exact hh
  · rw [symR_err h]
    exact rsym_bad x p code _ _ (by simp; omega) w
/-! ### copied: what comes ahead of the copying -/
/-- Up to the test of the distance's symbol: the length, the symbol, the place, the error. -/
theorem copied_one {s : ByteArray} {most k p P1 Z1 m P2 Z2 d : Nat} {fl : List Int} {o : List Nat} (h0 : 0 < fl.length) (h1 : bitsR s p 0 (extraOf lenT k) = (P1, Z1, m)) (h2 : symR s fl P1 Z1 = (P2, Z2, d)) :
    (failN (decide (29 < d)) Z2 4 ≠ 0 → repeatS s most fl k p o = .error (failN (decide (29 < d)) Z2 4)) ∧
    (failN (decide (29 < d)) Z2 4 = 0 → toldS s (lenT.getD k (0, 0)) p = .ok (leastOf lenT k + m, P1) ∧ symS s fl P1 = .ok (d, P2) ∧ d < 30) := by
  have ht : toldS s (lenT.getD k (0, 0)) p = (match getS s p (extraOf lenT k) with | .error e => (Except.error e : Except Nat (Nat × Nat)) | .ok (n, q) => Except.ok (leastOf lenT k + n, q)) := rfl
  cases g1 : getS s p (extraOf lenT k) with
  | error e =>
    rw [bitsR_bad g1] at h1
    rw [g1] at ht
    obtain ⟨rfl, rfl, rfl⟩ : p = P1 ∧ e = Z1 ∧ 0 = m := by simpa using h1
    have h5 := getS_err g1
    subst h5
    rw [symR_err (by omega)] at h2
    obtain ⟨rfl, rfl, rfl⟩ : p = P2 ∧ 5 = Z2 ∧ 0 = d := by simpa using h2
    have hf : failN (decide (29 < 0)) 5 4 = 5 := rfl
    rw [hf]
    exact ⟨fun _ => by unfold repeatS; rw [ht], fun h => absurd h (by decide)⟩
  | ok r =>
    obtain ⟨n, q⟩ := r
    rw [bitsR_ok g1] at h1
    rw [g1] at ht
    simp only at ht
    obtain ⟨rfl, rfl, rfl⟩ : q = P1 ∧ 0 = Z1 ∧ n = m := by simpa using h1
    cases g2 : symS s fl q with
    | error e =>
      obtain ⟨P, hP⟩ := symR_bad g2
      rw [hP] at h2
      obtain ⟨rfl, rfl, rfl⟩ : P = P2 ∧ e = Z2 ∧ 0 = d := by simpa using h2
      have he := symS_err g2
      have hf : failN (decide (29 < 0)) e 4 = e := by unfold failN; rw [if_neg (fun h => by omega)]
      rw [hf]
      exact ⟨fun _ => by unfold repeatS; rw [ht]; simp only; rw [g2], fun h => by omega⟩
    | ok r =>
      obtain ⟨d', q2⟩ := r
      rw [symR_ok g2 h0] at h2
      obtain ⟨rfl, rfl, rfl⟩ : q2 = P2 ∧ 0 = Z2 ∧ d' = d := by simpa using h2
      by_cases h30 : 29 < d'
      · have hf : failN (decide (29 < d')) 0 4 = 4 := by rw [decide_eq_true h30]; rfl
        rw [hf]
        exact ⟨fun _ => by unfold repeatS; rw [ht]; simp only; rw [g2]; simp only; rw [if_pos (by omega)], fun h => absurd h (by decide)⟩
      · have hf : failN (decide (29 < d')) 0 4 = 0 := by rw [decide_eq_false h30]; rfl
        rw [hf]
        exact ⟨fun h => absurd rfl h, fun _ => ⟨ht, rfl, by omega⟩⟩
/-- The rest: the distance, the tests. -/
theorem copied_two {s : ByteArray} {most k p P1 P2 P3 Z4 m d b : Nat} {fl : List Int} {o : List Nat} (ht : toldS s (lenT.getD k (0, 0)) p = .ok (leastOf lenT k + m, P1)) (hs : symS s fl P1 = .ok (d, P2)) (hd : d < 30) (h3 : bitsR s P2 0 (extraOf distT d) = (P3, Z4, b)) :
    (failN (decide (most < o.length + (leastOf lenT k + m))) (failN (decide (o.length < leastOf distT d + b)) Z4 3) 7 ≠ 0 → repeatS s most fl k p o = .error (failN (decide (most < o.length + (leastOf lenT k + m))) (failN (decide (o.length < leastOf distT d + b)) Z4 3) 7)) ∧
    (failN (decide (most < o.length + (leastOf lenT k + m))) (failN (decide (o.length < leastOf distT d + b)) Z4 3) 7 = 0 → repeatS s most fl k p o = .ok (copyL (leastOf distT d + b) (leastOf lenT k + m) o, P3) ∧ leastOf distT d + b ≤ o.length ∧ o.length + (leastOf lenT k + m) ≤ most) := by
  have ht2 : toldS s (distT.getD d (0, 0)) P2 = (match getS s P2 (extraOf distT d) with | .error e => (Except.error e : Except Nat (Nat × Nat)) | .ok (n, q) => Except.ok (leastOf distT d + n, q)) := rfl
  have hr : repeatS s most fl k p o = (match toldS s (distT.getD d (0, 0)) P2 with | .error e => (Except.error e : Except Nat (List Nat × Nat)) | .ok (b, p3) => if o.length < b then .error 3 else if most < o.length + (leastOf lenT k + m) then .error 7 else .ok (copyL b (leastOf lenT k + m) o, p3)) := by
    unfold repeatS; rw [ht]; simp only; rw [hs]; simp only; rw [if_neg (by omega)]
    cases toldS s (distT.getD d (0, 0)) P2 <;> rfl
  cases g1 : getS s P2 (extraOf distT d) with
  | error e =>
    rw [bitsR_bad g1] at h3
    rw [g1] at ht2
    obtain ⟨rfl, rfl, rfl⟩ : P2 = P3 ∧ e = Z4 ∧ 0 = b := by simpa using h3
    have h5 := getS_err g1
    subst h5
    have hf : ∀ x y, failN x (failN y 5 3) 7 = 5 := by intro x y; cases x <;> cases y <;> rfl
    rw [hf, hr, ht2]
    exact ⟨fun _ => rfl, fun h => absurd h (by decide)⟩
  | ok r =>
    obtain ⟨n, q⟩ := r
    rw [bitsR_ok g1] at h3
    rw [g1] at ht2
    simp only at ht2
    obtain ⟨rfl, rfl, rfl⟩ : q = P3 ∧ 0 = Z4 ∧ n = b := by simpa using h3
    rw [hr, ht2]
    simp only
    by_cases c1 : o.length < leastOf distT d + n
    · have hf : ∀ x, failN x (failN true 0 3) 7 = 3 := by intro x; cases x <;> rfl
      rw [decide_eq_true c1, hf, if_pos c1]
      exact ⟨fun _ => rfl, fun h => absurd h (by decide)⟩
    · rw [decide_eq_false c1, if_neg c1]
      by_cases c2 : most < o.length + (leastOf lenT k + m)
      · rw [decide_eq_true c2, if_pos c2]
        exact ⟨fun _ => rfl, fun h => absurd h (by decide)⟩
      · rw [decide_eq_false c2, if_neg c2]
        exact ⟨fun h => absurd rfl h, fun _ => ⟨rfl, by omega, by omega⟩⟩
end Go.Proofs.Ytmdlhbhdlhjakaa
