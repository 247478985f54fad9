/- The contract of package codes' Tree.Write; what a nil tree, a nil reader or a nil writer answers. -/
import Derived.Test.YtmdlhbhdlhjakaaTreeB
set_option linter.unusedVariables false
set_option linter.unusedSimpArgs false
namespace Go.Proofs.Ytmdlhbhdlhjakaa
open Go.RowKit

/-- The n bits of a code, the highest ahead. -/
def codeBits (c : Nat) : Nat → List Nat
  | 0 => []
  | n + 1 => (c / 2 ^ n % 2) :: codeBits c n
theorem codeBits_len (c : Nat) : ∀ n, (codeBits c n).length = n
  | 0 => rfl
  | n + 1 => by rw [codeBits, List.length_cons, codeBits_len c n]
theorem numBits_one (x : Nat) (h : x < 2) : numBits x 1 = [x] := by
  simp [numBits]; omega
theorem put1 {B : Nat} {w : World} {g : Nat} {t : TypeId} {rest : List Value} {l : List Nat} (h : WrSt B w g t rest l) (b : Int) (x : Nat) (hb : b = (x : Int)) (hx : x < 2) (hl : l.length ≤ 1000000000000) :
    Calls Try.prog 47 #[.pointer (some ⟨g, 0, none⟩), .int .i64 b, .int .i64 1] w fun e w' => e = .returned (.int .i64 0) ∧ Chg B [t, 5] w w' ∧ WrSt B w' g t rest (l ++ [x]) := by
  subst hb
  have h1 := put_ok h x 1 (by omega) (by omega) hl
  rw [numBits_one x hx] at h1
  exact h1
theorem and_one (y : Nat) (hy : y < 2 ^ 62) : bits .and .i64 (y : Int) 1 = ((y % 2 : Nat) : Int) := bits_and_mask y 1 hy (by decide)
theorem codeSt_nn (f ls : List Int) (hf : ∀ i, 0 ≤ f.getD i 0) : ∀ i, 0 ≤ (codeSt f ls).2.getD i 0 := by
  have : ∀ (ls : List Int) (st : List Int × List Int), (∀ i, 0 ≤ st.1.getD i 0) → (∀ i, 0 ≤ st.2.getD i 0) → ∀ i, 0 ≤ (ls.foldl codeStep st).2.getD i 0 := by
    intro ls
    induction ls with
    | nil => intro st _ h2 i; exact h2 i
    | cons x xs ih =>
      intro st h1 h2 i
      rw [List.foldl_cons]
      have app : ∀ (l : List Int) (y : Int), (∀ i, 0 ≤ l.getD i 0) → 0 ≤ y → ∀ i, 0 ≤ (l ++ [y]).getD i 0 := by
        intro l y hl hy i
        have := hl i
        simp only [List.getD_eq_getElem?_getD, List.getElem?_append, List.getElem?_cons, List.getElem?_nil] at *
        split
        · exact this
        · split <;> simp [hy]
      refine ih (codeStep st x) ?_ ?_ i
      · intro j
        have a := h1 j
        have b := h1 x.toNat
        unfold codeStep
        split
        · simp only [List.getD_eq_getElem?_getD, List.getElem?_set] at *
          split
          · split
            · simp; omega
            · simp
          · exact a
        · exact a
      · intro j
        unfold codeStep
        split
        · exact app _ _ h2 (h1 _) j
        · exact app _ _ h2 (by omega) j
  exact this ls (f, []) hf (fun i => by simp)
theorem codesOf_nn {ls : List Int} (hn : ls.length ≤ 320) (i : Nat) : 0 ≤ (codesOf ls).getD i 0 := by
  refine codeSt_nn _ _ (fun i => ?_) i
  by_cases hi : i < 16
  · rw [firstsOf, firstsUpto_get _ _ _ hi, if_pos hi]
    exact (firstAt_le (cnt0_ok hn) (by omega)).1
  · rw [List.getD_eq_getElem?_getD, List.getElem?_eq_none (by rw [firstsOf, firstsUpto_len]; omega)]
    simp
theorem codeSt_bd2 (f ls : List Int) (b : Int) (hf : ∀ i, f.getD i 0 ≤ b) (hb0 : 0 ≤ b) : ∀ i, (codeSt f ls).2.getD i 0 ≤ b + ls.length := by
  have : ∀ (ls : List Int) (st : List Int × List Int) (b : Int), 0 ≤ b → (∀ i, st.1.getD i 0 ≤ b) → (∀ i, st.2.getD i 0 ≤ b) → ∀ i, (ls.foldl codeStep st).2.getD i 0 ≤ b + ls.length := by
    intro ls
    induction ls with
    | nil => intro st b _ _ h2 i; simpa using h2 i
    | cons x xs ih =>
      intro st b hb h1 h2 i
      rw [List.foldl_cons]
      have app : ∀ (l : List Int) (y : Int), (∀ i, l.getD i 0 ≤ b) → y ≤ b → ∀ i, (l ++ [y]).getD i 0 ≤ b + 1 := by
        intro l y hl hy i
        have := hl i
        simp only [List.getD_eq_getElem?_getD, List.getElem?_append, List.getElem?_cons, List.getElem?_nil] at *
        split
        · omega
        · split
          · simp; omega
          · simp; omega
      have := ih (codeStep st x) (b + 1) (by omega) (by
        intro j
        have a := h1 j
        have b := h1 x.toNat
        unfold codeStep
        split
        · simp only [List.getD_eq_getElem?_getD, List.getElem?_set] at *
          split
          · split
            · simp; omega
            · simp; omega
          · omega
        · simp only; omega) (by
        intro j
        unfold codeStep
        split
        · exact app _ _ h2 (h1 _) j
        · exact app _ _ h2 hb j) i
      rw [List.length_cons]
      omega
  exact this ls (f, []) b hb0 hf (fun i => by simpa using hb0)
theorem codesOf_le {ls : List Int} (hn : ls.length ≤ 320) (i : Nat) : (codesOf ls).getD i 0 ≤ 200000320 := by
  have := codeSt_bd2 (firstsOf (cnt0 ls)) ls 200000000 (fun i => by
    by_cases hi : i < 16
    · rw [firstsOf, firstsUpto_get _ _ _ hi, if_pos hi]
      exact (firstAt_le (cnt0_ok hn) (by omega)).2
    · rw [List.getD_eq_getElem?_getD, List.getElem?_eq_none (by rw [firstsOf, firstsUpto_len]; omega)]
      simp) (by omega) i
  unfold codesOf
  omega

set_option maxRecDepth 100000 in
set_option maxHeartbeats 1000000 in
theorem write_ok {B B2 : Nat} {w : World} {gt g : Nat} {ls : List Int} {t : TypeId} {rest : List Value} {l : List Nat} (ht : TrSt B2 w gt ls) (hw : WrSt B w g t rest l) (hn : ls.length ≤ 320) (ha : ls.all lenOk = true) (ht1 : t ≠ 70) (ht2 : t ≠ 3)
    (k : Nat) (hk : k < ls.length) (L : Nat) (hL : ls.getD k 0 = (L : Int)) (hL1 : 1 ≤ L) (hlen : l.length ≤ 999999999000) :
    Calls Try.prog 22 #[.pointer (some ⟨gt, 0, none⟩), .pointer (some ⟨g, 0, none⟩), .int .i64 k] w fun e w' => e = .returned (.int .i64 0) ∧ Chg B [t, 5] w w' ∧ WrSt B w' g t rest (l ++ codeBits ((codesOf ls).getD k 0).toNat L) := by
  have hok : lenOk (ls.getD k 0) = true := (List.all_eq_true.1 ha) _ (by rw [List.getD_eq_getElem?_getD, List.getElem?_eq_getElem hk]; simp)
  have hL15 : L ≤ 15 := by rw [hL] at hok; simp [lenOk] at hok; omega
  obtain ⟨C, hC⟩ : ∃ C : Nat, (codesOf ls).getD k 0 = (C : Int) := ⟨((codesOf ls).getD k 0).toNat, by have := codesOf_nn hn k; omega⟩
  have hCb : C ≤ 200000320 := by have := codesOf_le hn k; omega
  rw [hC]
  simp only [Int.toNat_natCast]
  have HT := Sealed.mk ht
  have HW := Sealed.mk hw
  obtain ⟨hB2, v0, v1, v2, hb, o0, o1, o2⟩ := ht
  have hkn : 0 < ls.length := by omega
  obtain ⟨ad0, c0, rfl⟩ := own_some o0 hkn
  obtain ⟨ad1, c1, rfl⟩ := own_some o1 hkn
  have h0 := hb.cell 0 rfl
  have x0 := own_cell o0 hk
  rw [hL] at x0
  have hd0 : decide ((k : Int) < 0) = false := decide_eq_false (by omega)
  have hd1 : decide (ls.length ≤ k) = false := decide_eq_false (by omega)
  have hd2 : ((L : Int) == 0) = false := by simpa using (show (L : Int) ≠ 0 by omega)
  have HB := Sealed.mk hb
  have HO1 := Sealed.mk o1
  have HCC := Sealed.mk hC
  have HLL := Sealed.mk hL
  clear hw ha hb o0 o1 o2 hC hL hok
  go_enter Try.func22, Try.ntmps22
  go_wp2
  go_loopg [7] L (fun j s7 w' => ∃ (m : Nat) (N : Int) (l' : List Nat), s7 = .int .i64 N ∧ Sealed (N = (m : Int) - 1) ∧ -1 ≤ N ∧ N ≤ 14 ∧ Sealed (j = m) ∧ Sealed (WrSt B w' g t rest l') ∧ Sealed (l' ++ codeBits C m = l ++ codeBits C L) ∧ Sealed (Chg B [t, 5] w w'))
  case atStart => exact ⟨L, (L : Int) - 1, l, rfl, ⟨rfl⟩, by omega, by omega, ⟨rfl⟩, HW, ⟨rfl⟩, ⟨Chg.refl _ _ _⟩⟩
  case round =>
    clear h0 x0
    obtain ⟨m, N, l', rfl, HN, hN0, hN1, HJ, HW', HE, HC⟩ := hrel
    by_cases hp : 0 ≤ N
    · obtain ⟨m', rfl⟩ : ∃ m', m = m' + 1 := ⟨m - 1, by have := HN.out; omega⟩
      have hNm : N.toNat = m' := by have := HN.out; omega
      have hkT : 70 ∉ [t, 5] := by simp; exact Ne.symm ht1
      have hkI : 3 ∉ [t, 5] := by simp; exact Ne.symm ht2
      have k1 := (HB.out.chg HC.out (.inr hkT)).cell 1 rfl
      have y1 := own_cell (owns_chg HO1.out HC.out hkI) hk
      rw [HCC.out] at y1
      have hbv : bits .and .i64 ((C : Int) / 2 ^ N.toNat) 1 = ((C / 2 ^ m' % 2 : Nat) : Int) := by
        have e0 : (C : Int) / 2 ^ N.toNat = ((C / 2 ^ m' : Nat) : Int) := by rw [hNm]; simp
        rw [e0]
        exact and_one _ (by have := Nat.div_le_self C (2 ^ m'); omega)
      have HBV := Sealed.mk hbv
      have hll : l'.length ≤ 1000000000000 := by
        have h1 := congrArg List.length HE.out
        rw [List.length_append, List.length_append, codeBits_len, codeBits_len] at h1
        omega
      have HLN := Sealed.mk hll
      clear hbv hNm hll hkT hkI
      go_wp2_with (go_at_call 47; refine (put1 HW'.out _ (C / 2 ^ m' % 2) HBV.out (Nat.mod_lt _ (by decide)) HLN.out).mono ?_; rintro e w1 ⟨rfl, hc1, hw1⟩; have HC1 := Sealed.mk hc1; have HW1 := Sealed.mk hw1; clear hc1 hw1)
      go_roundg m'
      case measure => have := HJ.out; omega
      case rel =>
        refine ⟨m', N - 1, l' ++ [C / 2 ^ m' % 2], rfl, ⟨by have := HN.out; omega⟩, by omega, by omega, ⟨rfl⟩, HW1, ⟨?_⟩, ⟨HC.out.trans HC1.out⟩⟩
        have h := HE.out
        rw [codeBits] at h
        rw [List.append_assoc]
        exact h
    · have hm0 : m = 0 := by have := HN.out; omega
      have HE2 : Sealed (l' = l ++ codeBits C L) := ⟨by have h := HE.out; rw [hm0] at h; simpa [codeBits] using h⟩
      have hd : decide (0 ≤ N) = false := decide_eq_false hp
      clear hm0 hp hN0 hN1
      go_wp2
      go_ret
      rw [← HE2.out]
      exact ⟨rfl, HC.out, HW'.out⟩

theorem write_bad {B2 : Nat} {w : World} {gt g : Nat} {ls : List Int} (ht : TrSt B2 w gt ls) (k : Int) (hk : ¬ (0 ≤ k ∧ k < ls.length ∧ ls.getD k.toNat 0 ≠ 0)) (hn : ls.length ≤ 320) :
    Calls Try.prog 22 #[.pointer (some ⟨gt, 0, none⟩), .pointer (some ⟨g, 0, none⟩), .int .i64 k] w fun e w' => e = .returned (.int .i64 12) ∧ w = w' := by
  obtain ⟨hB2, v0, v1, v2, hb, o0, o1, o2⟩ := ht
  by_cases h0 : 0 ≤ k
  · have hd0 : decide (k < 0) = false := decide_eq_false (by omega)
    by_cases h1 : k < ls.length
    · have hd1 : decide ((ls.length : Int) ≤ k) = false := decide_eq_false (by omega)
      have hz : ls.getD k.toNat 0 = 0 := by
        rcases Classical.em (ls.getD k.toNat 0 = 0) with h | h
        · exact h
        · exact absurd ⟨h0, h1, h⟩ hk
      obtain ⟨ad0, c0, rfl⟩ := own_some o0 (by omega)
      have c0 := hb.cell 0 rfl
      have x0 := own_cell o0 (i := k.toNat) (by omega)
      rw [hz] at x0
      clear hb o0 o1 o2 hz hk
      go_enter Try.func22, Try.ntmps22
      go_wp2
      go_ret
      exact ⟨rfl, rfl⟩
    · have hd1 : decide ((ls.length : Int) ≤ k) = true := decide_eq_true (by omega)
      obtain ⟨A0, c0, rfl⟩ := own_slice o0
      have c0 := hb.cell 0 rfl
      clear hb o0 o1 o2 hk h1
      go_enter Try.func22, Try.ntmps22
      go_wp2
      go_ret
      exact ⟨rfl, rfl⟩
  · have hd0 : decide (k < 0) = true := decide_eq_true (by omega)
    clear hb o0 o1 o2 hk h0
    go_enter Try.func22, Try.ntmps22
    go_wp2
    go_ret
    exact ⟨rfl, rfl⟩

theorem read_nil (v : Value) (w : World) : Calls Try.prog 19 #[.pointer none, v] w fun e w' => e = .returned (.tuple #[.int .i64 0, .int .i64 1]) ∧ w = w' := by
  go_enter Try.func19, Try.ntmps19
  go_wp2
  go_step3
  go_wp2
  rw [Exit.noGoto_ret]
  go_ret2
  exact ⟨rfl, rfl⟩
theorem read_nil2 (a : Addr) (w : World) : Calls Try.prog 19 #[.pointer (some a), .pointer none] w fun e w' => e = .returned (.tuple #[.int .i64 0, .int .i64 1]) ∧ w = w' := by
  go_enter Try.func19, Try.ntmps19
  go_wp2
  go_step3
  go_wp2
  rw [Exit.noGoto_ret]
  go_ret2
  exact ⟨rfl, rfl⟩
theorem write_nil (v : Value) (k : Int) (w : World) : Calls Try.prog 22 #[.pointer none, v, .int .i64 k] w fun e w' => e = .returned (.int .i64 1) ∧ w = w' := by
  go_enter Try.func22, Try.ntmps22
  go_wp2
  go_ret
  exact ⟨rfl, rfl⟩
theorem write_nil2 (a : Addr) (k : Int) (w : World) : Calls Try.prog 22 #[.pointer (some a), .pointer none, .int .i64 k] w fun e w' => e = .returned (.int .i64 1) ∧ w = w' := by
  go_enter Try.func22, Try.ntmps22
  go_wp2
  go_ret
  exact ⟨rfl, rfl⟩
end Go.Proofs.Ytmdlhbhdlhjakaa
