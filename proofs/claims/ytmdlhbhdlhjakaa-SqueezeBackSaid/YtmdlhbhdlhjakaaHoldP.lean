/- Plain: what is deflated is told again. -/
import Derived.Test.YtmdlhbhdlhjakaaInfR
import Derived.Test.YtmdlhbhdlhjakaaInfE
import Derived.Test.YtmdlhbhdlhjakaaBytesP
set_option linter.unusedVariables false
set_option linter.unusedSimpArgs false
namespace Go.Proofs.Ytmdlhbhdlhjakaa
open Go.RowKit

/-- The text holds these bits from bit p on. -/
def Holds (t : ByteArray) (p : Nat) (m : List Nat) : Prop := p + m.length ≤ 8 * t.size ∧ ∀ i, i < m.length → bit t (p + i) = lf m i
section
variable {t : ByteArray} {p : Nat} {a b : List Nat}
theorem Holds.left (h : Holds t p (a ++ b)) : Holds t p a :=
  ⟨by have := h.1; rw [List.length_append] at this; omega, fun i hi => by rw [h.2 i (by rw [List.length_append]; omega), lf_left hi]⟩
theorem Holds.right (h : Holds t p (a ++ b)) : Holds t (p + a.length) b :=
  ⟨by have := h.1; rw [List.length_append] at this; omega, fun i hi => by rw [Nat.add_assoc, h.2 (a.length + i) (by rw [List.length_append]; omega), lf_right]⟩
end
def BitRow (l : List Nat) : Prop := ∀ x ∈ l, x ≤ 1
theorem BitRow.isBits {l : List Nat} (h : BitRow l) : IsBits (lf l) := fun i => by
  by_cases hi : i < l.length
  · have : lf l i = l[i] := by simp [lf, List.getD_eq_getElem?_getD, hi]
    rw [this]; exact h _ (List.getElem_mem hi)
  · rw [lf_past (by omega)]; omega
theorem BitRow.append {a b : List Nat} (h : BitRow a) (k : BitRow b) : BitRow (a ++ b) := fun x hx => (List.mem_append.1 hx).elim (h x) (k x)
theorem numBits_row (n w : Nat) : BitRow (numBits n w) := fun x hx => by
  simp only [numBits, List.mem_map] at hx
  obtain ⟨j, _, rfl⟩ := hx; omega
theorem codeBits_row (c : Nat) : ∀ n, BitRow (codeBits c n)
  | 0 => fun x hx => by simp [codeBits] at hx
  | n + 1 => fun x hx => by
    rw [codeBits, List.mem_cons] at hx
    rcases hx with rfl | hx
    · omega
    · exact codeBits_row c n x hx
theorem tokBits_row : ∀ t, BitRow (tokBits t)
  | .lit c => codeBits_row _ _
  | .copy n b => (((codeBits_row _ _).append (numBits_row _ _)).append ((codeBits_row _ _).append (numBits_row _ _)))
theorem bitsT_row (ts : List Tok) : BitRow (bitsT ts) := fun x hx => by
  simp only [bitsT, List.mem_flatMap] at hx
  obtain ⟨t, _, hx⟩ := hx
  exact tokBits_row t x hx
theorem fixBits_row (s : ByteArray) : BitRow (fixBits s) := (((numBits_row _ _).append (numBits_row _ _)).append (bitsT_row _)).append (codeBits_row _ _)
theorem byteBits_row (bs : List Nat) : BitRow (byteBits bs) := fun x hx => by
  simp only [byteBits, List.mem_flatMap] at hx
  obtain ⟨t, _, hx⟩ := hx
  exact numBits_row _ _ x hx
theorem holds_text {l : List Nat} (h : BitRow l) : Holds (textOf l) 0 l :=
  ⟨by rw [textOf_size]; omega, fun i hi => by rw [textOf_bit h.isBits (by omega), Nat.zero_add]⟩
section
variable {t : ByteArray} {p : Nat}
theorem getS_holds {n d : Nat} (h : Holds t p (numBits n d)) (hn : n < 2 ^ d) : getS t p d = .ok (n, p + d) := by
  have h1 := h.1
  rw [numBits_length] at h1
  unfold getS
  rw [if_pos h1]
  have hv := val_numBits [] hn
  simp only [List.nil_append, List.length_nil] at hv
  have : val (bit t) p d = n := by
    rw [← hv]
    exact val_congr d (fun i hi => by rw [h.2 i (by rw [numBits_length]; exact hi), Nat.zero_add])
  rw [this]
theorem symS_holds {ls : List Int} (hn : ls.length ≤ 320) (ha : ls.all lenOk = true) (hm : mayOf (checkOf ls) = 0) {k : Nat} (hv : validB ls (k : Int) = true) (h : Holds t p (symBits ls (k : Int))) : symS t ls p = .ok (k, p + (symBits ls (k : Int)).length) := by
  have hk2 := hv
  simp only [validB, Bool.and_eq_true, decide_eq_true_eq, bne_iff_ne, Int.toNat_natCast] at hk2
  have hx := lenOk_at ha (k := k) (by omega)
  have hsl : (symBits ls (k : Int)).length = (ls.getD k 0).toNat := by rw [symBits, codeBits_len, Int.toNat_natCast]
  have h1 := h.1
  rw [hsl] at h1
  have hr := readOf_code hn ha hm (k := k) (L := (ls.getD k 0).toNat) (by omega) (by omega) (by omega) (bit t) (8 * t.size) p (by omega) (fun i hi => by
    rw [h.2 i (by rw [hsl]; exact hi)]
    unfold symBits; rw [Int.toNat_natCast])
  unfold symS
  rw [hr, if_pos rfl, hsl]; simp
theorem lit_sym {k : Nat} (hk : k < 288) (h : Holds t p (symBits litL (k : Int))) : symS t litL p = .ok (k, p + (symBits litL (k : Int)).length) :=
  symS_holds (by rw [litL_ok.2.2]; decide) litL_ok.1 litL_ok.2.1 (lit_valid hk) h
theorem dist_sym {k : Nat} (hk : k < 32) (h : Holds t p (symBits distL (k : Int))) : symS t distL p = .ok (k, p + (symBits distL (k : Int)).length) :=
  symS_holds (by rw [distL_ok.2.2]; decide) distL_ok.1 distL_ok.2.1 (dist_valid hk) h
theorem toldS_holds {T : List (Nat × Nat)} {k n : Nat} (h1 : leastOf T k ≤ n) (h2 : n - leastOf T k < 2 ^ extraOf T k) (h : Holds t p (numBits (n - leastOf T k) (extraOf T k))) : toldS t (T.getD k (0, 0)) p = .ok (n, p + extraOf T k) := by
  unfold toldS
  change (match getS t p (extraOf T k) with | .error e => (Except.error e : Except Nat (Nat × Nat)) | .ok (m, q) => Except.ok (leastOf T k + m, q)) = _
  rw [getS_holds h h2]
  simp only
  rw [show leastOf T k + (n - leastOf T k) = n by omega]
end
theorem copyL_piece {s : ByteArray} {b : Nat} (h1 : 1 ≤ b) : ∀ (n q : Nat), b ≤ q → (∀ i, i < n → byteAt s (q + i) = byteAt s (q + i - b)) → copyL b n (bytesOf s q) = bytesOf s (q + n)
  | 0, q, hb, h => rfl
  | n + 1, q, hb, h => by
    rw [copyL, bytesOf_len, bytesOf_get s (by omega)]
    have h0 := h 0 (by omega)
    rw [Nat.add_zero] at h0
    rw [← h0, ← bytesOf_succ, copyL_piece h1 n (q + 1) (by omega) (fun i hi => by have := h (i + 1) (by omega); rw [show q + 1 + i = q + (i + 1) by omega]; exact this)]
    rw [show q + 1 + n = q + (n + 1) by omega]
section
variable {t s : ByteArray}
theorem repeatS_holds {p q n b most : Nat} (h3 : 3 ≤ n) (h258 : n ≤ 258) (hb1 : 1 ≤ b) (hb : b ≤ 32768) (hbq : b ≤ q) (hm : q + n ≤ most) (hp : ∀ i, i < n → byteAt s (q + i) = byteAt s (q + i - b))
    (h : Holds t p (numBits (n - leastOf lenT (codeOf lenT n)) (extraOf lenT (codeOf lenT n)) ++ (symBits distL ((codeOf distT b : Nat) : Int) ++ numBits (b - leastOf distT (codeOf distT b)) (extraOf distT (codeOf distT b))))) :
    repeatS t most distL (codeOf lenT n) p (bytesOf s q) = .ok (bytesOf s (q + n), p + (numBits (n - leastOf lenT (codeOf lenT n)) (extraOf lenT (codeOf lenT n)) ++ (symBits distL ((codeOf distT b : Nat) : Int) ++ numBits (b - leastOf distT (codeOf distT b)) (extraOf distT (codeOf distT b)))).length) := by
  obtain ⟨a1, a2, a3, a4⟩ := codeOf_len h3 h258
  obtain ⟨b1, b2, b3, b4⟩ := codeOf_dist hb1 hb
  have hh := h.right
  rw [numBits_length] at hh
  have hh2 := hh.right
  unfold repeatS
  rw [toldS_holds a2 a3 h.left]
  simp only
  rw [dist_sym (by omega) hh.left]
  simp only
  rw [if_neg (by omega), toldS_holds b2 b3 hh2]
  simp only
  rw [bytesOf_len, if_neg (by omega), if_neg (by omega), copyL_piece hb1 n q hbq hp]
  simp only [List.length_append, numBits_length, Nat.add_assoc]
theorem coded_holds {most : Nat} (hm : s.size ≤ most) : ∀ (F k p q : Nat), s.size ≤ q + k → q ≤ s.size → Holds t p (bitsT (toksFrom s k q) ++ symBits litL ((256 : Nat) : Int)) → 8 * t.size < p + F →
    codedS t most litL distL F p (bytesOf s q) = .ok (bytesOf s s.size, p + (bitsT (toksFrom s k q) ++ symBits litL ((256 : Nat) : Int)).length)
  | 0, k, p, q, hk, hq, h, hF => by have := h.1; omega
  | F + 1, k, p, q, hk, hq, h, hF => by
    by_cases hlt : q < s.size
    · obtain ⟨k, rfl⟩ : ∃ j, k = j + 1 := ⟨k - 1, by omega⟩
      rw [toksFrom, if_pos hlt] at h ⊢
      by_cases h3 : (findOf s q).1 < 3
      · rw [if_pos h3] at h ⊢
        have e : bitsT (Tok.lit (byteAt s q) :: toksFrom s k (q + 1)) = symBits litL ((byteAt s q : Nat) : Int) ++ bitsT (toksFrom s k (q + 1)) := rfl
        rw [e, List.append_assoc] at h ⊢
        have hlt8 := byteAt_lt s q
        have hl1 := lit_len (i := byteAt s q) (by omega)
        rw [codedS_lit (lit_sym (by omega) h.left) hlt8 (by rw [bytesOf_len]; omega), ← bytesOf_succ, coded_holds hm F k _ (q + 1) (by omega) (by omega) h.right (by omega)]
        simp only [List.length_append, Nat.add_assoc]
      · rw [if_neg h3] at h ⊢
        have hg := findOf_good s q
        generalize (findOf s q).1 = n at *
        generalize (findOf s q).2 = b at *
        rcases hg with ⟨rfl, _⟩ | ⟨g3, g1, gq, gb, gn⟩
        · omega
        have g258 : n ≤ 258 := by rw [gn]; exact alikeOf_le _ _ _
        have gp : ∀ i, i < n → q + i < s.size ∧ byteAt s (q + i) = byteAt s (q + i - b) := fun i hi => by
          have := alikeOf_eq (s := s) (j := q - b) (q := q) (i := i) (by omega)
          rw [show q + i - b = q - b + i by omega]; exact this
        have gsz : q + n ≤ s.size := by have := (gp (n - 1) (by omega)).1; omega
        have e : bitsT (Tok.copy n b :: toksFrom s k (q + n)) = symBits litL ((257 + codeOf lenT n : Nat) : Int) ++ ((numBits (n - leastOf lenT (codeOf lenT n)) (extraOf lenT (codeOf lenT n)) ++
            (symBits distL ((codeOf distT b : Nat) : Int) ++ numBits (b - leastOf distT (codeOf distT b)) (extraOf distT (codeOf distT b)))) ++ bitsT (toksFrom s k (q + n))) := by
          show copyBits n b ++ bitsT (toksFrom s k (q + n)) = _
          unfold copyBits
          simp only [List.append_assoc]
        rw [e, List.append_assoc, List.append_assoc] at h ⊢
        have hlc := (codeOf_len g3 g258).1
        have hl1 := lit_len (i := 257 + codeOf lenT n) (by omega)
        have hr := repeatS_holds (t := t) (s := s) (most := most) g3 g258 g1 gb gq (by omega) (fun i hi => (gp i hi).2) h.right.left
        rw [codedS_rep (lit_sym (by omega) h.left) (by omega) (by omega) (by rw [show 257 + codeOf lenT n - 257 = codeOf lenT n by omega]; exact hr), coded_holds hm F k _ (q + n) (by omega) gsz h.right.right (by omega)]
        simp only [List.length_append, Nat.add_assoc]
    · obtain rfl : q = s.size := by omega
      have e : bitsT (toksFrom s k s.size) = [] := by
        cases k with
        | zero => rfl
        | succ k => rw [toksFrom, if_neg (by omega)]; rfl
      rw [e, List.nil_append] at h ⊢
      rw [codedS_fin (lit_sym (by omega) h)]
theorem inflate_fixed {most : Nat} (hm : s.size ≤ most) : inflateS (textOf (fixBits s)) most = .ok (bytesOf s s.size, (textOf (fixBits s)).size) := by
  have h := holds_text (fixBits_row s)
  have hsz := textOf_size (fixBits s)
  generalize textOf (fixBits s) = t at *
  have e : fixBits s = numBits 1 1 ++ (numBits 1 2 ++ (bitsT (toksFrom s s.size 0) ++ symBits litL ((256 : Nat) : Int))) := by unfold fixBits toksOf; simp only [List.append_assoc]; rfl
  have hl : (fixBits s).length = 1 + 2 + (bitsT (toksFrom s s.size 0) ++ symBits litL ((256 : Nat) : Int)).length := by rw [e]; simp only [List.length_append, numBits_length]; omega
  rw [e] at h
  have h2 := h.right
  rw [numBits_length] at h2
  have h3 := h2.right
  rw [numBits_length] at h3
  have hc := coded_holds hm (8 * t.size + 1) s.size (0 + 1 + 2) 0 (by omega) (by omega) h3 (by omega)
  unfold inflateS
  rw [inflS, getS_holds h.left (by decide)]; simp only
  rw [getS_holds h2.left (by decide)]; simp only
  unfold kindS
  rw [if_neg (by decide), if_pos rfl]
  change codedS t most litL distL (8 * t.size + 1) (0 + 1 + 2) [] = _ at hc
  rw [hc]; simp only [if_true]
  rw [hsz, hl]
end
end Go.Proofs.Ytmdlhbhdlhjakaa
