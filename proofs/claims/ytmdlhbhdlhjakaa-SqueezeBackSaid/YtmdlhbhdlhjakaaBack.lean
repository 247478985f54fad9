/- The law CodesBack: what is written is read again. -/
import Derived.Test.YtmdlhbhdlhjakaaCanon
import Derived.Test.YtmdlhbhdlhjakaaTrees
set_option linter.unusedVariables false
set_option linter.unusedSimpArgs false
namespace Go.Proofs.Ytmdlhbhdlhjakaa
open Go.RowKit

theorem TrSt.later {B : Nat} {T : List TypeId} {w w' : World} {g : Nat} {ls : List Int} (h : TrSt B w g ls) (hc : Chg w.heap.size T w w') : TrSt B w' g ls := by
  obtain ⟨hB, v0, v1, v2, hb, o0, o1, o2⟩ := h
  exact ⟨hB, v0, v1, v2, hb.chg hc (.inl hb.lt), owns_lt o0 hc (own_lt o0), owns_lt o1 hc (own_lt o1), owns_lt o2 hc (own_lt o2)⟩
theorem may_zero {ls : List Int} (hn : ls.length ≤ 320) (hm : mayOf (checkOf ls) = 0) : ls.all lenOk = true := by
  by_cases ha : ls.all lenOk = true
  · exact ha
  · have ha' : ls.all lenOk = false := by simpa using ha
    have : checkOf ls = 3 := by simp only [checkOf, if_neg (show ¬ ls.length > 320 by omega), ha']; rfl
    rw [this] at hm
    exact absurd hm (by decide)
theorem new_bad {A : Option Addr} {cap : Nat} {ls : List Int} {w : World} (hr : Reads w .i64 A ls) (he : (mayOf (checkOf ls) != 0) = true) :
    Calls Try.prog 15 #[.slice A ls.length cap] w fun e w' => e = .returned (.tuple #[.pointer none, .int .i64 (mayOf (checkOf ls))]) ∧ Below w.heap.size w w' :=
  new_err he (codes_err he (may_any A cap ls w hr))

/-! ### plain -/
def validB (ls : List Int) (k : Int) : Bool := decide (0 ≤ k) && decide (k < ls.length) && (ls.getD k.toNat 0 != 0)
def symBits (ls : List Int) (k : Int) : List Nat := codeBits ((codesOf ls).getD k.toNat 0).toNat (ls.getD k.toNat 0).toNat
def bitsOf (ls : List Int) (ks : List Int) : List Nat := ks.flatMap (symBits ls)
theorem bitsOf_snoc (ls ks : List Int) (k : Int) : bitsOf ls (ks ++ [k]) = bitsOf ls ks ++ symBits ls k := by simp [bitsOf]
theorem filter_snoc (p : Int → Bool) (l : List Int) (x : Int) : (l ++ [x]).filter p = if p x then l.filter p ++ [x] else l.filter p := by
  rw [List.filter_append]
  by_cases h : p x
  · simp [h]
  · simp [h]
theorem symBits_len {ls : List Int} (ha : ls.all lenOk = true) {k : Int} (hv : validB ls k = true) : (symBits ls k).length ≤ 15 ∧ 1 ≤ (symBits ls k).length := by
  simp only [validB, Bool.and_eq_true, decide_eq_true_eq, bne_iff_ne] at hv
  have := lenOk_at ha (k := k.toNat) (by omega)
  rw [symBits, codeBits_len]
  omega
theorem bitsOf_len {ls : List Int} (ha : ls.all lenOk = true) : ∀ ks : List Int, (∀ k ∈ ks, validB ls k = true) → (bitsOf ls ks).length ≤ 15 * ks.length
  | [], _ => by simp [bitsOf]
  | k :: ks, h => by
    have h1 := bitsOf_len ha ks (fun x hx => h x (List.mem_cons_of_mem _ hx))
    have h2 := symBits_len ha (h k (List.mem_cons_self ..))
    have e : bitsOf ls (k :: ks) = symBits ls k ++ bitsOf ls ks := rfl
    rw [e, List.length_append, List.length_cons]
    omega
theorem textOf_size (l : List Nat) : (textOf l).size = (l.length + 7) / 8 := by rw [textOf, strOfNums_size, rowOf_length]
theorem textOf_byte {l : List Nat} (hl : IsBits (lf l)) {i : Nat} (h : i < (l.length + 7) / 8) : byteAt (textOf l) i = val (lf l) (8 * i) 8 := by
  have hs : i < (textOf l).size := by rw [textOf_size]; exact h
  rw [← byteAt_get _ _ hs]
  have hv := val_lt hl (8 * i) 8
  have e : (textOf l)[i]'hs = ((rowOf l ((l.length + 7) / 8)).map fun n => UInt8.ofNat n.toNat)[i]'(by simpa [rowOf] using h) := rfl
  rw [e]
  simp [rowOf]
  omega
theorem textOf_bit {l : List Nat} (hl : IsBits (lf l)) {p : Nat} (h : p < 8 * ((l.length + 7) / 8)) : bit (textOf l) p = lf l p := by
  have h1 := textOf_byte hl (i := p / 8) (by omega)
  rw [bit, h1, val_div hl (8 * (p / 8)) (a := p % 8) (by omega)]
  have h2 : 8 * (p / 8) + p % 8 = p := by omega
  rw [h2]
  have h3 : 8 - p % 8 = 1 + (7 - p % 8) := by omega
  rw [h3, val_add, val_one]
  have := hl p
  omega
theorem lf_isBits_append {l k : List Nat} (hl : IsBits (lf l)) (hk : IsBits (lf k)) : IsBits (lf (l ++ k)) := by
  intro i
  by_cases hi : i < l.length
  · rw [lf_left hi]; exact hl i
  · obtain ⟨j, rfl⟩ : ∃ j, i = l.length + j := ⟨i - l.length, by omega⟩
    rw [lf_right]; exact hk j
/-- The i-th symbol that was written is read where it stands. -/
theorem back_read {ls : List Int} (hn : ls.length ≤ 320) (ha : ls.all lenOk = true) (hm : mayOf (checkOf ls) = 0) {P : List Int} (hP : ∀ k ∈ P, validB ls k = true) (hl : IsBits (lf (bitsOf ls P))) {i : Nat} (hi : i < P.length) :
    readOf ls (bit (textOf (bitsOf ls P))) (8 * (textOf (bitsOf ls P)).size) (bitsOf ls (P.take i)).length = (P.getD i 0, 0, (bitsOf ls (P.take (i + 1))).length) := by
  have hk := hP (P.getD i 0) (by rw [List.getD_eq_getElem?_getD, List.getElem?_eq_getElem hi]; simp)
  have hsplit : bitsOf ls P = bitsOf ls (P.take i) ++ (symBits ls (P.getD i 0) ++ bitsOf ls (P.drop (i + 1))) := by
    have e : P = P.take i ++ (P.getD i 0 :: P.drop (i + 1)) := by
      have e1 : P.drop i = P.getD i 0 :: P.drop (i + 1) := by rw [List.drop_eq_getElem_cons hi, List.getD_eq_getElem?_getD, List.getElem?_eq_getElem hi]; rfl
      rw [← e1, List.take_append_drop]
    conv => lhs; rw [e]
    simp [bitsOf]
  have hk2 := hk
  simp only [validB, Bool.and_eq_true, decide_eq_true_eq, bne_iff_ne] at hk2
  have hx := lenOk_at ha (k := (P.getD i 0).toNat) (by omega)
  have hsn : bitsOf ls (P.take (i + 1)) = bitsOf ls (P.take i) ++ symBits ls (P.getD i 0) := by rw [take_snoc hi, bitsOf_snoc]
  have hsl : (symBits ls (P.getD i 0)).length = (ls.getD (P.getD i 0).toNat 0).toNat := codeBits_len _ _
  have hle : (bitsOf ls (P.take i)).length + (ls.getD (P.getD i 0).toNat 0).toNat ≤ (bitsOf ls P).length := by
    rw [hsplit, List.length_append, List.length_append, hsl]; omega
  rw [textOf_size]
  have h := readOf_code hn ha hm (k := (P.getD i 0).toNat) (L := (ls.getD (P.getD i 0).toNat 0).toNat) (by omega) (by omega) (by omega) (bit (textOf (bitsOf ls P))) (8 * (((bitsOf ls P).length + 7) / 8)) (bitsOf ls (P.take i)).length (by omega)
    (fun j hj => by
      rw [textOf_bit hl (by omega)]
      conv => lhs; rw [hsplit]
      rw [lf_right, lf_left (by rw [hsl]; exact hj)]
      rfl)
  rw [h, hsn, List.length_append, hsl]
  congr 1
  omega
end Go.Proofs.Ytmdlhbhdlhjakaa
