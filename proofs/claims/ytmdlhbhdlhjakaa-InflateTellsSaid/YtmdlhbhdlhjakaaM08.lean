/- The contract of package codes' Tree.Write; what a nil tree, a nil reader or a nil writer answers. Plain: what a tree reads of the bits of a code is that code's symbol. -/
import Derived.Test.YtmdlhbhdlhjakaaM07
set_option linter.unusedVariables false
set_option linter.unusedSimpArgs false
namespace Go.Proofs.Ytmdlhbhdlhjakaa
open Go.RowKit

/-- The n bits of a code, the highest ahead. -/
def codeBits (c : Nat) : Nat → List Nat
  | 0 => []
  | n + 1 => (c / 2 ^ n % 2) :: codeBits c n
theorem codeBits_len (c : Nat) : ∀ n, (codeBits c n).length = n
  | 0 => rfl
  | n + 1 => by rw [codeBits, List.length_cons, codeBits_len c n]
theorem numBits_one (x : Nat) (h : x < 2) : numBits x 1 = [x] := by
  simp [numBits]; omega
theorem put1 {B : Nat} {w : World} {g : Nat} {t : TypeId} {rest : List Value} {l : List Nat} (h : WrSt B w g t rest l) (b : Int) (x : Nat) (hb : b = (x : Int)) (hx : x < 2) (hl : l.length ≤ 1000000000000) :
    Calls Try.prog 47 #[.pointer (some ⟨g, 0, none⟩), .int .i64 b, .int .i64 1] w fun e w' => e = .returned (.int .i64 0) ∧ Chg B [t, 5] w w' ∧ WrSt B w' g t rest (l ++ [x]) := by
  subst hb
  have h1 := put_ok h x 1 (by omega) (by omega) hl
  rw [numBits_one x hx] at h1
  exact h1
theorem and_one (y : Nat) (hy : y < 2 ^ 62) : bits .and .i64 (y : Int) 1 = ((y % 2 : Nat) : Int) := bits_and_mask y 1 hy (by decide)
theorem codeSt_nn (f ls : List Int) (hf : ∀ i, 0 ≤ f.getD i 0) : ∀ i, 0 ≤ (codeSt f ls).2.getD i 0 := by
  have : ∀ (ls : List Int) (st : List Int × List Int), (∀ i, 0 ≤ st.1.getD i 0) → (∀ i, 0 ≤ st.2.getD i 0) → ∀ i, 0 ≤ (ls.foldl codeStep st).2.getD i 0 := by
    intro ls
    induction ls with
    | nil => intro st _ h2 i; exact h2 i
    | cons x xs ih =>
      intro st h1 h2 i
      rw [List.foldl_cons]
      have app : ∀ (l : List Int) (y : Int), (∀ i, 0 ≤ l.getD i 0) → 0 ≤ y → ∀ i, 0 ≤ (l ++ [y]).getD i 0 := by
        intro l y hl hy i
        have := hl i
        simp only [List.getD_eq_getElem?_getD, List.getElem?_append, List.getElem?_cons, List.getElem?_nil] at *
        split
        · exact this
        · split <;> simp [hy]
      refine ih (codeStep st x) ?_ ?_ i
      · intro j
        have a := h1 j
        have b := h1 x.toNat
        unfold codeStep
        split
        · simp only [List.getD_eq_getElem?_getD, List.getElem?_set] at *
          split
          · split
            · simp; omega
            · simp
          · exact a
        · exact a
      · intro j
        unfold codeStep
        split
        · exact app _ _ h2 (h1 _) j
        · exact app _ _ h2 (by omega) j
  exact this ls (f, []) hf (fun i => by simp)
theorem codesOf_nn {ls : List Int} (hn : ls.length ≤ 320) (i : Nat) : 0 ≤ (codesOf ls).getD i 0 := by
  refine codeSt_nn _ _ (fun i => ?_) i
  by_cases hi : i < 16
  · rw [firstsOf, firstsUpto_get _ _ _ hi, if_pos hi]
    exact (firstAt_le (cnt0_ok hn) (by omega)).1
  · rw [List.getD_eq_getElem?_getD, List.getElem?_eq_none (by rw [firstsOf, firstsUpto_len]; omega)]
    simp
theorem codeSt_bd2 (f ls : List Int) (b : Int) (hf : ∀ i, f.getD i 0 ≤ b) (hb0 : 0 ≤ b) : ∀ i, (codeSt f ls).2.getD i 0 ≤ b + ls.length := by
  have : ∀ (ls : List Int) (st : List Int × List Int) (b : Int), 0 ≤ b → (∀ i, st.1.getD i 0 ≤ b) → (∀ i, st.2.getD i 0 ≤ b) → ∀ i, (ls.foldl codeStep st).2.getD i 0 ≤ b + ls.length := by
    intro ls
    induction ls with
    | nil => intro st b _ _ h2 i; simpa using h2 i
    | cons x xs ih =>
      intro st b hb h1 h2 i
      rw [List.foldl_cons]
      have app : ∀ (l : List Int) (y : Int), (∀ i, l.getD i 0 ≤ b) → y ≤ b → ∀ i, (l ++ [y]).getD i 0 ≤ b + 1 := by
        intro l y hl hy i
        have := hl i
        simp only [List.getD_eq_getElem?_getD, List.getElem?_append, List.getElem?_cons, List.getElem?_nil] at *
        split
        · omega
        · split
          · simp; omega
          · simp; omega
      have := ih (codeStep st x) (b + 1) (by omega) (by
        intro j
        have a := h1 j
        have b := h1 x.toNat
        unfold codeStep
        split
        · simp only [List.getD_eq_getElem?_getD, List.getElem?_set] at *
          split
          · split
            · simp; omega
            · simp; omega
          · omega
        · simp only; omega) (by
        intro j
        unfold codeStep
        split
        · exact app _ _ h2 (h1 _) j
        · exact app _ _ h2 hb j) i
      rw [List.length_cons]
      omega
  exact this ls (f, []) b hb0 hf (fun i => by simpa using hb0)
theorem codesOf_le {ls : List Int} (hn : ls.length ≤ 320) (i : Nat) : (codesOf ls).getD i 0 ≤ 200000320 := by
  have := codeSt_bd2 (firstsOf (cnt0 ls)) ls 200000000 (fun i => by
    by_cases hi : i < 16
    · rw [firstsOf, firstsUpto_get _ _ _ hi, if_pos hi]
      exact (firstAt_le (cnt0_ok hn) (by omega)).2
    · rw [List.getD_eq_getElem?_getD, List.getElem?_eq_none (by rw [firstsOf, firstsUpto_len]; omega)]
      simp) (by omega) i
  unfold codesOf
  omega

set_option maxRecDepth 100000 in
set_option maxHeartbeats 1000000 in
theorem write_ok {B B2 : Nat} {w : World} {gt g : Nat} {ls : List Int} {t : TypeId} {rest : List Value} {l : List Nat} (ht : TrSt B2 w gt ls) (hw : WrSt B w g t rest l) (hn : ls.length ≤ 320) (ha : ls.all lenOk = true) (ht1 : t ≠ 70) (ht2 : t ≠ 3)
    (k : Nat) (hk : k < ls.length) (L : Nat) (hL : ls.getD k 0 = (L : Int)) (hL1 : 1 ≤ L) (hlen : l.length ≤ 999999999000) :
    Calls Try.prog 22 #[.pointer (some ⟨gt, 0, none⟩), .pointer (some ⟨g, 0, none⟩), .int .i64 k] w fun e w' => e = .returned (.int .i64 0) ∧ Chg B [t, 5] w w' ∧ WrSt B w' g t rest (l ++ codeBits ((codesOf ls).getD k 0).toNat L) := by
  have hok : lenOk (ls.getD k 0) = true := (List.all_eq_true.1 ha) _ (by rw [List.getD_eq_getElem?_getD, List.getElem?_eq_getElem hk]; simp)
  have hL15 : L ≤ 15 := by rw [hL] at hok; simp [lenOk] at hok; omega
  obtain ⟨C, hC⟩ : ∃ C : Nat, (codesOf ls).getD k 0 = (C : Int) := ⟨((codesOf ls).getD k 0).toNat, by have := codesOf_nn hn k; omega⟩
  have hCb : C ≤ 200000320 := by have := codesOf_le hn k; omega
  rw [hC]
  simp only [Int.toNat_natCast]
  have HT := Sealed.mk ht
  have HW := Sealed.mk hw
  obtain ⟨hB2, v0, v1, v2, hb, o0, o1, o2⟩ := ht
  have hkn : 0 < ls.length := by omega
  obtain ⟨ad0, c0, rfl⟩ := own_some o0 hkn
  obtain ⟨ad1, c1, rfl⟩ := own_some o1 hkn
  have h0 := hb.cell 0 rfl
  have x0 := own_cell o0 hk
  rw [hL] at x0
  have hd0 : decide ((k : Int) < 0) = false := decide_eq_false (by omega)
  have hd1 : decide (ls.length ≤ k) = false := decide_eq_false (by omega)
  have hd2 : ((L : Int) == 0) = false := by simpa using (show (L : Int) ≠ 0 by omega)
  have HB := Sealed.mk hb
  have HO1 := Sealed.mk o1
  have HCC := Sealed.mk hC
  have HLL := Sealed.mk hL
  clear hw ha hb o0 o1 o2 hC hL hok
  go_enter Try.func22, Try.ntmps22
  go_wp2
  go_loopg [7] L (fun j s7 w' => ∃ (m : Nat) (N : Int) (l' : List Nat), s7 = .int .i64 N ∧ Sealed (N = (m : Int) - 1) ∧ -1 ≤ N ∧ N ≤ 14 ∧ Sealed (j = m) ∧ Sealed (WrSt B w' g t rest l') ∧ Sealed (l' ++ codeBits C m = l ++ codeBits C L) ∧ Sealed (Chg B [t, 5] w w'))
  case atStart => exact ⟨L, (L : Int) - 1, l, rfl, ⟨rfl⟩, by omega, by omega, ⟨rfl⟩, HW, ⟨rfl⟩, ⟨Chg.refl _ _ _⟩⟩
  case round =>
    clear h0 x0
    obtain ⟨m, N, l', rfl, HN, hN0, hN1, HJ, HW', HE, HC⟩ := hrel
    by_cases hp : 0 ≤ N
    · obtain ⟨m', rfl⟩ : ∃ m', m = m' + 1 := ⟨m - 1, by have := HN.out; omega⟩
      have hNm : N.toNat = m' := by have := HN.out; omega
      have hkT : 70 ∉ [t, 5] := by simp; exact Ne.symm ht1
      have hkI : 3 ∉ [t, 5] := by simp; exact Ne.symm ht2
      have k1 := (HB.out.chg HC.out (.inr hkT)).cell 1 rfl
      have y1 := own_cell (owns_chg HO1.out HC.out hkI) hk
      rw [HCC.out] at y1
      have hbv : bits .and .i64 ((C : Int) / 2 ^ N.toNat) 1 = ((C / 2 ^ m' % 2 : Nat) : Int) := by
        have e0 : (C : Int) / 2 ^ N.toNat = ((C / 2 ^ m' : Nat) : Int) := by rw [hNm]; simp
        rw [e0]
        exact and_one _ (by have := Nat.div_le_self C (2 ^ m'); omega)
      have HBV := Sealed.mk hbv
      have hll : l'.length ≤ 1000000000000 := by
        have h1 := congrArg List.length HE.out
        rw [List.length_append, List.length_append, codeBits_len, codeBits_len] at h1
        omega
      have HLN := Sealed.mk hll
      clear hbv hNm hll hkT hkI
      go_wp2_with (go_at_call 47; refine (put1 HW'.out _ (C / 2 ^ m' % 2) HBV.out (Nat.mod_lt _ (by decide)) HLN.out).mono ?_; rintro e w1 ⟨rfl, hc1, hw1⟩; have HC1 := Sealed.mk hc1; have HW1 := Sealed.mk hw1; clear hc1 hw1)
      go_roundg m'
      case measure => have := HJ.out; omega
      case rel =>
        refine ⟨m', N - 1, l' ++ [C / 2 ^ m' % 2], rfl, ⟨by have := HN.out; omega⟩, by omega, by omega, ⟨rfl⟩, HW1, ⟨?_⟩, ⟨HC.out.trans HC1.out⟩⟩
        have h := HE.out
        rw [codeBits] at h
        rw [List.append_assoc]
        exact h
    · have hm0 : m = 0 := by have := HN.out; omega
      have HE2 : Sealed (l' = l ++ codeBits C L) := ⟨by have h := HE.out; rw [hm0] at h; simpa [codeBits] using h⟩
      have hd : decide (0 ≤ N) = false := decide_eq_false hp
      clear hm0 hp hN0 hN1
      go_wp2
      go_ret
      rw [← HE2.out]
      exact ⟨rfl, HC.out, HW'.out⟩

theorem write_bad {B2 : Nat} {w : World} {gt g : Nat} {ls : List Int} (ht : TrSt B2 w gt ls) (k : Int) (hk : ¬ (0 ≤ k ∧ k < ls.length ∧ ls.getD k.toNat 0 ≠ 0)) (hn : ls.length ≤ 320) :
    Calls Try.prog 22 #[.pointer (some ⟨gt, 0, none⟩), .pointer (some ⟨g, 0, none⟩), .int .i64 k] w fun e w' => e = .returned (.int .i64 12) ∧ w = w' := by
  obtain ⟨hB2, v0, v1, v2, hb, o0, o1, o2⟩ := ht
  by_cases h0 : 0 ≤ k
  · have hd0 : decide (k < 0) = false := decide_eq_false (by omega)
    by_cases h1 : k < ls.length
    · have hd1 : decide ((ls.length : Int) ≤ k) = false := decide_eq_false (by omega)
      have hz : ls.getD k.toNat 0 = 0 := by
        rcases Classical.em (ls.getD k.toNat 0 = 0) with h | h
        · exact h
        · exact absurd ⟨h0, h1, h⟩ hk
      obtain ⟨ad0, c0, rfl⟩ := own_some o0 (by omega)
      have c0 := hb.cell 0 rfl
      have x0 := own_cell o0 (i := k.toNat) (by omega)
      rw [hz] at x0
      clear hb o0 o1 o2 hz hk
      go_enter Try.func22, Try.ntmps22
      go_wp2
      go_ret
      exact ⟨rfl, rfl⟩
    · have hd1 : decide ((ls.length : Int) ≤ k) = true := decide_eq_true (by omega)
      obtain ⟨A0, c0, rfl⟩ := own_slice o0
      have c0 := hb.cell 0 rfl
      clear hb o0 o1 o2 hk h1
      go_enter Try.func22, Try.ntmps22
      go_wp2
      go_ret
      exact ⟨rfl, rfl⟩
  · have hd0 : decide (k < 0) = true := decide_eq_true (by omega)
    clear hb o0 o1 o2 hk h0
    go_enter Try.func22, Try.ntmps22
    go_wp2
    go_ret
    exact ⟨rfl, rfl⟩

theorem read_nil (v : Value) (w : World) : Calls Try.prog 19 #[.pointer none, v] w fun e w' => e = .returned (.tuple #[.int .i64 0, .int .i64 1]) ∧ w = w' := by
  go_enter Try.func19, Try.ntmps19
  go_wp2
  go_step3
  go_wp2
  rw [Exit.noGoto_ret]
  go_ret2
  exact ⟨rfl, rfl⟩
theorem read_nil2 (a : Addr) (w : World) : Calls Try.prog 19 #[.pointer (some a), .pointer none] w fun e w' => e = .returned (.tuple #[.int .i64 0, .int .i64 1]) ∧ w = w' := by
  go_enter Try.func19, Try.ntmps19
  go_wp2
  go_step3
  go_wp2
  rw [Exit.noGoto_ret]
  go_ret2
  exact ⟨rfl, rfl⟩
theorem write_nil (v : Value) (k : Int) (w : World) : Calls Try.prog 22 #[.pointer none, v, .int .i64 k] w fun e w' => e = .returned (.int .i64 1) ∧ w = w' := by
  go_enter Try.func22, Try.ntmps22
  go_wp2
  go_ret
  exact ⟨rfl, rfl⟩
theorem write_nil2 (a : Addr) (k : Int) (w : World) : Calls Try.prog 22 #[.pointer (some a), .pointer none, .int .i64 k] w fun e w' => e = .returned (.int .i64 1) ∧ w = w' := by
  go_enter Try.func22, Try.ntmps22
  go_wp2
  go_ret
  exact ⟨rfl, rfl⟩
end Go.Proofs.Ytmdlhbhdlhjakaa

namespace Go.Proofs.Ytmdlhbhdlhjakaa
open Go.RowKit

/-! ### The codes: the first of the length, and one more for each of the length ahead -/
theorem getD_set_eq {l : List Int} {n : Nat} {x : Int} (h : n < l.length) : (l.set n x).getD n 0 = x := by
  simp [List.getD_eq_getElem?_getD, List.getElem?_set, h]
theorem getD_set_ne {l : List Int} {n m : Nat} {x : Int} (h : n ≠ m) : (l.set n x).getD m 0 = l.getD m 0 := by
  simp [List.getD_eq_getElem?_getD, List.getElem?_set, h]
theorem lenOk_at {ls : List Int} (ha : ls.all lenOk = true) {k : Nat} (hk : k < ls.length) : 0 ≤ ls.getD k 0 ∧ ls.getD k 0 ≤ 15 := by
  have hok : lenOk (ls.getD k 0) = true := (List.all_eq_true.1 ha) _ (by rw [List.getD_eq_getElem?_getD, List.getElem?_eq_getElem hk]; simp)
  simpa [lenOk] using hok
theorem codeSt_next {f ls : List Int} (hf : f.length = 16) (ha : ls.all lenOk = true) {n : Nat} (h1 : 1 ≤ n) (h15 : n ≤ 15) : ∀ k, k ≤ ls.length →
    (codeSt f (ls.take k)).1.getD n 0 = f.getD n 0 + ((idxPart ls (n : Int) k).length : Int)
  | 0, _ => by simp [codeSt, idxPart]
  | k + 1, h => by
    have ih := codeSt_next hf ha h1 h15 k (by omega)
    have hx := lenOk_at ha (k := k) (by omega)
    have hl := (codeSt_len f (ls.take k)).1
    rw [take_snoc (by omega), codeSt_snoc]
    generalize codeSt f (ls.take k) = st at *
    by_cases he : ls.getD k 0 = (n : Int)
    · rw [idxPart_yes he, List.length_append]
      have hp : 0 < ls.getD k 0 := by omega
      have e : (ls.getD k 0).toNat = n := by omega
      unfold codeStep
      rw [if_pos hp, e]
      simp only
      rw [getD_set_eq (by omega), ih]
      simp; omega
    · rw [idxPart_no he]
      unfold codeStep
      split
      · have e : (ls.getD k 0).toNat ≠ n := by omega
        simp only
        rw [getD_set_ne e, ih]
      · exact ih
theorem codeStep_old (st : List Int × List Int) (x : Int) {i : Nat} (h : i < st.2.length) : (codeStep st x).2.getD i 0 = st.2.getD i 0 := by
  unfold codeStep
  split <;> simp [List.getD_eq_getElem?_getD, List.getElem?_append_left h]
theorem codeStep_new (st : List Int × List Int) (x : Int) (h : 0 < x) : (codeStep st x).2.getD st.2.length 0 = st.1.getD x.toNat 0 := by
  unfold codeStep
  rw [if_pos h]
  simp [List.getD_eq_getElem?_getD, List.getElem?_append_right]
theorem codeSt_old (f ls : List Int) (i : Nat) : ∀ k, i < k → k ≤ ls.length → (codeSt f (ls.take k)).2.getD i 0 = (codeSt f (ls.take (i + 1))).2.getD i 0
  | 0, h, _ => by omega
  | k + 1, h, hk => by
    rcases Nat.lt_or_eq_of_le (Nat.lt_succ_iff.1 h) with h1 | h1
    · rw [take_snoc (by omega), codeSt_snoc, codeStep_old _ _ (by rw [(codeSt_len _ _).2, List.length_take]; omega)]
      exact codeSt_old f ls i k h1 (by omega)
    · subst h1; rfl
theorem codesOf_at {ls : List Int} (ha : ls.all lenOk = true) {k L : Nat} (hk : k < ls.length) (hL : ls.getD k 0 = (L : Int)) (hL1 : 1 ≤ L) :
    (codesOf ls).getD k 0 = firstAt (cnt0 ls) L + ((idxPart ls (L : Int) k).length : Int) := by
  have hx := lenOk_at ha hk
  have hf : (firstsOf (cnt0 ls)).length = 16 := firstsUpto_len _ _
  have h1 := codeSt_old (firstsOf (cnt0 ls)) ls k ls.length hk (Nat.le_refl _)
  rw [List.take_length] at h1
  unfold codesOf
  rw [h1, take_snoc hk, codeSt_snoc]
  have h2 := (codeSt_len (firstsOf (cnt0 ls)) (ls.take k)).2
  rw [List.length_take] at h2
  have h3 := codeStep_new (codeSt (firstsOf (cnt0 ls)) (ls.take k)) (ls.getD k 0) (by omega)
  have h4 : (codeSt (firstsOf (cnt0 ls)) (ls.take k)).2.length = k := by omega
  rw [h4] at h3
  rw [h3, hL, Int.toNat_natCast, codeSt_next hf ha hL1 (by omega) k (by omega), firstsOf, firstsUpto_get _ _ _ (by omega), if_pos (by omega)]

/-! ### The symbols by length -/
theorem idxPart_prefix (ls : List Int) (n : Int) {k m : Nat} (h : k ≤ m) : ∃ r, idxPart ls n m = idxPart ls n k ++ r := by
  induction h with
  | refl => exact ⟨[], by simp⟩
  | @step m _ ih =>
    obtain ⟨r, hr⟩ := ih
    by_cases he : ls.getD m 0 = n
    · exact ⟨r ++ [(m : Int)], by rw [idxPart_yes he, hr, List.append_assoc]⟩
    · exact ⟨r, by rw [idxPart_no he, hr]⟩
theorem idxOf_at {ls : List Int} {k L : Nat} (hk : k < ls.length) (hL : ls.getD k 0 = (L : Int)) : (idxOf ls (L : Int)).getD (idxPart ls (L : Int) k).length 0 = (k : Int) := by
  obtain ⟨r, hr⟩ := idxPart_prefix ls (L : Int) (show k + 1 ≤ ls.length by omega)
  rw [idxOf, hr, idxPart_yes hL]
  simp [List.getD_eq_getElem?_getD]
theorem idxPart_lt {ls : List Int} {k L : Nat} (hk : k < ls.length) (hL : ls.getD k 0 = (L : Int)) : (idxPart ls (L : Int) k).length < (idxOf ls (L : Int)).length := by
  obtain ⟨r, hr⟩ := idxPart_prefix ls (L : Int) (show k + 1 ≤ ls.length by omega)
  rw [idxOf, hr, idxPart_yes hL]
  simp
theorem symsUpto_prefix (ls : List Int) {n m : Nat} (h : n ≤ m) : ∃ r, symsUpto ls m = symsUpto ls n ++ r := by
  induction h with
  | refl => exact ⟨[], by simp⟩
  | @step m _ ih =>
    obtain ⟨r, hr⟩ := ih
    exact ⟨r ++ idxOf ls ((m + 1 : Nat) : Int), by rw [symsUpto, hr, List.append_assoc]⟩
theorem symsOf_at (ls : List Int) {L j : Nat} (h1 : 1 ≤ L) (h15 : L ≤ 15) (hj : j < (idxOf ls (L : Int)).length) :
    (symsOf ls).getD ((symsUpto ls (L - 1)).length + j) 0 = (idxOf ls (L : Int)).getD j 0 := by
  obtain ⟨r, hr⟩ := symsUpto_prefix ls h15
  obtain ⟨L', rfl⟩ : ∃ L', L = L' + 1 := ⟨L - 1, by omega⟩
  rw [symsOf, hr, symsUpto, Nat.add_sub_cancel, List.append_assoc]
  rw [List.getD_eq_getElem?_getD, List.getElem?_append_right (by omega), Nat.add_sub_cancel_left, List.getElem?_append_left hj, List.getD_eq_getElem?_getD]
theorem longUpto_ge (ls : List Int) {L : Nat} (h1 : 1 ≤ L) (hne : idxOf ls (L : Int) ≠ []) : ∀ n, L ≤ n → (L : Int) ≤ longUpto ls n
  | 0, h => by omega
  | n + 1, h => by
    rw [longUpto]
    split
    · rename_i he
      have : L ≠ n + 1 := by intro e; subst e; exact hne he
      exact longUpto_ge ls h1 hne n (by omega)
    · omega

/-! ### That they fit -/
/-- How many numbers of n bits codes have taken. -/
def taken (c : List Int) (n : Nat) : Int := firstAt c n + c.getD n 0
theorem taken_succ (c : List Int) (n : Nat) : taken c (n + 1) = 2 * taken c n + c.getD (n + 1) 0 := by simp [taken, firstAt]
theorem leftFrom_neg (c : List Int) : ∀ k n l, l < 0 → 0 ≤ leftFrom c k n l → k = 0 → False
  | _, _, _, h, h2, rfl => by simp [leftFrom] at h2; omega
theorem leftFrom_le {c : List Int} : ∀ k n (l : Int), 0 ≤ leftFrom c k n l → l = 2 ^ (n - 1) - taken c (n - 1) → 1 ≤ n → ∀ m, n ≤ m → m < n + k → taken c m ≤ 2 ^ m
  | 0, n, l, _, _, _, m, h1, h2 => by omega
  | k + 1, n, l, h, hl, hn, m, h1, h2 => by
    rw [leftFrom] at h
    obtain ⟨n', rfl⟩ : ∃ n', n = n' + 1 := ⟨n - 1, by omega⟩
    rw [Nat.add_sub_cancel] at hl
    have e : 2 * l - c.getD (n' + 1) 0 = 2 ^ (n' + 1) - taken c (n' + 1) := by
      rw [taken_succ, Int.pow_succ, hl]; omega
    split at h
    · omega
    · rename_i hneg
      rcases Nat.lt_or_eq_of_le h1 with h3 | h3
      · exact leftFrom_le k (n' + 1 + 1) _ h (by rw [Nat.add_sub_cancel]; exact e) (by omega) m (by omega) (by omega)
      · rw [← h3]; omega
theorem left_ok {ls : List Int} (hn : ls.length ≤ 320) (ha : ls.all lenOk = true) (hm : mayOf (checkOf ls) = 0) : 0 ≤ leftOf (cnt0 ls) := by
  have hc : checkOf ls = checkC (cnt0 ls) := by simp only [checkOf, if_neg (show ¬ ls.length > 320 by omega), ha, if_true]
  rw [hc] at hm
  by_cases hz : cnt0 ls = zeros16
  · rw [hz]; decide +kernel
  · by_cases hl : leftOf (cnt0 ls) < 0
    · simp [checkC, hz, hl, mayOf] at hm
    · omega
theorem taken_le {ls : List Int} (hn : ls.length ≤ 320) (ha : ls.all lenOk = true) (hm : mayOf (checkOf ls) = 0) {m : Nat} (h1 : 1 ≤ m) (h15 : m ≤ 15) : taken (cnt0 ls) m ≤ 2 ^ m := by
  have hc0 : (cnt0 ls).getD 0 0 = 0 := by
    rw [cnt0, getD_set_eq (by rw [cntsOf_len]; omega)]
  exact leftFrom_le 15 1 1 (left_ok hn ha hm) (by rw [Nat.sub_self, taken, hc0]; rfl) (by omega) m h1 (by omega)

theorem firstAt_pow {c : List Int} (hc : CntOk c) (n : Nat) : ∀ d, 2 ^ (d + 1) * taken c n ≤ firstAt c (n + d + 1)
  | 0 => by simp [taken, firstAt]
  | d + 1 => by
    have ih := firstAt_pow hc n d
    have h := hc.2 (n + d + 1)
    have e : (2 : Int) ^ (d + 1 + 1) * taken c n = 2 * (2 ^ (d + 1) * taken c n) := by
      rw [Int.pow_succ, Int.mul_comm _ (2 : Int), Int.mul_assoc]
    rw [e, show n + (d + 1) + 1 = (n + d + 1) + 1 by omega, firstAt]
    omega
theorem readFrom_code {ls : List Int} (hn : ls.length ≤ 320) (ha : ls.all lenOk = true) {k L C : Nat} (hk : k < ls.length) (hL : ls.getD k 0 = (L : Int)) (hL1 : 1 ≤ L) (hL15 : L ≤ 15)
    (hC : (C : Int) = firstAt (cnt0 ls) L + ((idxPart ls (L : Int) k).length : Int)) (f : Nat → Nat) (lim : Nat) :
    ∀ d n q r (code first : Int) at_, n + d = L → 1 ≤ n → d < r → q + d + 1 ≤ lim → (∀ i, i ≤ d → f (q + i) = C / 2 ^ (d - i) % 2) → code = ((C / 2 ^ (d + 1) : Nat) : Int) → first = taken (cnt0 ls) (n - 1) → at_ = (symsUpto ls (n - 1)).length →
      readFrom ls f lim r n q code first at_ = ((k : Int), 0, q + d + 1) := by
  have hco := cnt0_ok hn
  have hc0 : (cnt0 ls).getD 0 0 = 0 := by rw [cnt0, getD_set_eq (by rw [cntsOf_len]; omega)]
  intro d
  induction d with
  | zero =>
    intro n q r code first at_ hnd hn1 hr hlim hf hcode hfirst hat
    obtain ⟨r, rfl⟩ : ∃ r', r = r' + 1 := ⟨r - 1, by omega⟩
    obtain rfl : n = L := by omega
    have hfq := hf 0 (by omega)
    simp only [Nat.add_zero, Nat.sub_self, Nat.pow_zero, Nat.div_one, Nat.zero_add, Nat.pow_one] at hfq hcode
    have e1 : 2 * code + ((f q : Nat) : Int) = (C : Int) := by rw [hcode, hfq]; omega
    have e2 : first * 2 = firstAt (cnt0 ls) n := by
      obtain ⟨n', rfl⟩ : ∃ n', n = n' + 1 := ⟨n - 1, by omega⟩
      rw [hfirst, Nat.add_sub_cancel, firstAt, taken]; omega
    have hj := idxPart_lt hk hL
    have hlen := idxOf_len ha hL1 hL15
    rw [readFrom, if_neg (by omega)]
    simp only [e1, e2]
    have e3 : (C : Int) - firstAt (cnt0 ls) n = ((idxPart ls (n : Int) k).length : Int) := by omega
    rw [e3, if_neg (by omega), hat, Int.toNat_natCast, symsOf_at ls hL1 hL15 hj, idxOf_at hk hL]
  | succ d ih =>
    intro n q r code first at_ hnd hn1 hr hlim hf hcode hfirst hat
    obtain ⟨r, rfl⟩ : ∃ r', r = r' + 1 := ⟨r - 1, by omega⟩
    have hfq := hf 0 (by omega)
    simp only [Nat.add_zero, Nat.sub_zero] at hfq
    have e1 : 2 * code + ((f q : Nat) : Int) = ((C / 2 ^ (d + 1) : Nat) : Int) := by
      have h := Nat.div_div_eq_div_mul C (2 ^ (d + 1)) 2
      rw [← Nat.pow_succ] at h
      rw [hcode, hfq, ← h]; omega
    have e2 : first * 2 = firstAt (cnt0 ls) n := by
      obtain ⟨n', rfl⟩ : ∃ n', n = n' + 1 := ⟨n - 1, by omega⟩
      rw [hfirst, Nat.add_sub_cancel, firstAt, taken]; omega
    have hpow := firstAt_pow hco n d
    rw [show n + d + 1 = L by omega] at hpow
    have hbig : taken (cnt0 ls) n ≤ ((C / 2 ^ (d + 1) : Nat) : Int) := by
      have h0 : 2 ^ (d + 1) * taken (cnt0 ls) n ≤ (C : Int) := by omega
      have ht0 : 0 ≤ taken (cnt0 ls) n := by
        have h1 := firstAt_le hco (n := n) (by omega)
        have h2 := hco.2 n
        unfold taken; omega
      obtain ⟨T, hT⟩ : ∃ T : Nat, taken (cnt0 ls) n = (T : Int) := ⟨(taken (cnt0 ls) n).toNat, by omega⟩
      rw [hT] at h0 ⊢
      have h3 : 2 ^ (d + 1) * T ≤ C := by exact_mod_cast h0
      have h4 : T ≤ C / 2 ^ (d + 1) := by rw [Nat.le_div_iff_mul_le (Nat.two_pow_pos _), Nat.mul_comm]; exact h3
      exact_mod_cast h4
    have hlen := idxOf_len ha hn1 (show n ≤ 15 by omega)
    have hm0 := (hco.2 n).1
    rw [readFrom, if_neg (by omega)]
    simp only [e1, e2]
    rw [if_pos (by unfold taken at hbig; omega)]
    rw [ih (n + 1) (q + 1) r _ _ _ (by omega) (by omega) (by omega) (by omega) (fun i hi => ?_) rfl (by rw [Nat.add_sub_cancel]; rfl) ?_]
    · rw [show q + 1 + d + 1 = q + (d + 1) + 1 by omega]
    · obtain ⟨n', rfl⟩ : ∃ n', n = n' + 1 := ⟨n - 1, by omega⟩
      rw [hat, Nat.add_sub_cancel, Nat.add_sub_cancel, symsUpto, List.length_append]
      omega
    · rw [show q + 1 + i = q + (i + 1) by omega, hf (i + 1) (by omega), show d + 1 - (i + 1) = d - i by omega]
theorem codeBits_at (C : Nat) : ∀ L i, i < L → lf (codeBits C L) i = C / 2 ^ (L - 1 - i) % 2
  | 0, i, h => by omega
  | L + 1, 0, _ => by simp [codeBits, lf]
  | L + 1, i + 1, h => by
    have ih := codeBits_at C L i (by omega)
    rw [show L + 1 - 1 - (i + 1) = L - 1 - i by omega, ← ih]
    simp [codeBits, lf]
/-- What is written of a symbol is read again. -/
theorem readOf_code {ls : List Int} (hn : ls.length ≤ 320) (ha : ls.all lenOk = true) (hm : mayOf (checkOf ls) = 0) {k L : Nat} (hk : k < ls.length) (hL : ls.getD k 0 = (L : Int)) (hL1 : 1 ≤ L) (f : Nat → Nat) (lim p : Nat) (hlim : p + L ≤ lim)
    (hf : ∀ i, i < L → f (p + i) = lf (codeBits ((codesOf ls).getD k 0).toNat L) i) : readOf ls f lim p = ((k : Int), 0, p + L) := by
  have hx := lenOk_at ha hk
  have hL15 : L ≤ 15 := by omega
  have hco := cnt0_ok hn
  have hc0 : (cnt0 ls).getD 0 0 = 0 := by rw [cnt0, getD_set_eq (by rw [cntsOf_len]; omega)]
  have hCe := codesOf_at ha hk hL hL1
  have hC0 := codesOf_nn hn k
  obtain ⟨C, hC⟩ : ∃ C : Nat, (codesOf ls).getD k 0 = (C : Int) := ⟨((codesOf ls).getD k 0).toNat, by omega⟩
  rw [hC] at hCe
  have hj := idxPart_lt hk hL
  have hlen := idxOf_len ha hL1 hL15
  have htk := taken_le hn ha hm hL1 hL15
  have hCL : C < 2 ^ L := by
    have : (C : Int) < 2 ^ L := by unfold taken at htk; omega
    exact_mod_cast this
  have hlong := longUpto_ge ls hL1 (by intro h; rw [h] at hj; simp at hj) 15 hL15
  obtain ⟨d, rfl⟩ : ∃ d, L = d + 1 := ⟨L - 1, by omega⟩
  have h := readFrom_code hn ha hk hL hL1 hL15 hCe f lim d 1 p (longOf ls).toNat 0 0 0 (by omega) (by omega) (by unfold longOf; omega) (by omega)
    (fun i hi => by rw [hf i (by omega), hC, Int.toNat_natCast, codeBits_at _ _ _ (by omega)]; rw [show d + 1 - 1 - i = d - i by omega])
    (by rw [Nat.div_eq_of_lt hCL]; rfl) (by rw [Nat.sub_self, taken, hc0]; rfl) rfl
  rw [readOf, h]
  rfl
end Go.Proofs.Ytmdlhbhdlhjakaa
