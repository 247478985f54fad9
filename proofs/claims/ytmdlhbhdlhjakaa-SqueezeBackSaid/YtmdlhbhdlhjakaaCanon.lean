/- Plain: what a tree reads of the bits of a code is that code's symbol. -/
import Derived.Test.YtmdlhbhdlhjakaaTreeC
set_option linter.unusedVariables false
set_option linter.unusedSimpArgs false
namespace Go.Proofs.Ytmdlhbhdlhjakaa
open Go.RowKit

/-! ### The codes: the first of the length, and one more for each of the length ahead -/
theorem getD_set_eq {l : List Int} {n : Nat} {x : Int} (h : n < l.length) : (l.set n x).getD n 0 = x := by
  simp [List.getD_eq_getElem?_getD, List.getElem?_set, h]
theorem getD_set_ne {l : List Int} {n m : Nat} {x : Int} (h : n ≠ m) : (l.set n x).getD m 0 = l.getD m 0 := by
  simp [List.getD_eq_getElem?_getD, List.getElem?_set, h]
theorem lenOk_at {ls : List Int} (ha : ls.all lenOk = true) {k : Nat} (hk : k < ls.length) : 0 ≤ ls.getD k 0 ∧ ls.getD k 0 ≤ 15 := by
  have hok : lenOk (ls.getD k 0) = true := (List.all_eq_true.1 ha) _ (by rw [List.getD_eq_getElem?_getD, List.getElem?_eq_getElem hk]; simp)
  simpa [lenOk] using hok
theorem codeSt_next {f ls : List Int} (hf : f.length = 16) (ha : ls.all lenOk = true) {n : Nat} (h1 : 1 ≤ n) (h15 : n ≤ 15) : ∀ k, k ≤ ls.length →
    (codeSt f (ls.take k)).1.getD n 0 = f.getD n 0 + ((idxPart ls (n : Int) k).length : Int)
  | 0, _ => by simp [codeSt, idxPart]
  | k + 1, h => by
    have ih := codeSt_next hf ha h1 h15 k (by omega)
    have hx := lenOk_at ha (k := k) (by omega)
    have hl := (codeSt_len f (ls.take k)).1
    rw [take_snoc (by omega), codeSt_snoc]
    generalize codeSt f (ls.take k) = st at *
    by_cases he : ls.getD k 0 = (n : Int)
    · rw [idxPart_yes he, List.length_append]
      have hp : 0 < ls.getD k 0 := by omega
      have e : (ls.getD k 0).toNat = n := by omega
      unfold codeStep
      rw [if_pos hp, e]
      simp only
      rw [getD_set_eq (by omega), ih]
      simp; omega
    · rw [idxPart_no he]
      unfold codeStep
      split
      · have e : (ls.getD k 0).toNat ≠ n := by omega
        simp only
        rw [getD_set_ne e, ih]
      · exact ih
theorem codeStep_old (st : List Int × List Int) (x : Int) {i : Nat} (h : i < st.2.length) : (codeStep st x).2.getD i 0 = st.2.getD i 0 := by
  unfold codeStep
  split <;> simp [List.getD_eq_getElem?_getD, List.getElem?_append_left h]
theorem codeStep_new (st : List Int × List Int) (x : Int) (h : 0 < x) : (codeStep st x).2.getD st.2.length 0 = st.1.getD x.toNat 0 := by
  unfold codeStep
  rw [if_pos h]
  simp [List.getD_eq_getElem?_getD, List.getElem?_append_right]
theorem codeSt_old (f ls : List Int) (i : Nat) : ∀ k, i < k → k ≤ ls.length → (codeSt f (ls.take k)).2.getD i 0 = (codeSt f (ls.take (i + 1))).2.getD i 0
  | 0, h, _ => by omega
  | k + 1, h, hk => by
    rcases Nat.lt_or_eq_of_le (Nat.lt_succ_iff.1 h) with h1 | h1
    · rw [take_snoc (by omega), codeSt_snoc, codeStep_old _ _ (by rw [(codeSt_len _ _).2, List.length_take]; omega)]
      exact codeSt_old f ls i k h1 (by omega)
    · subst h1; rfl
theorem codesOf_at {ls : List Int} (ha : ls.all lenOk = true) {k L : Nat} (hk : k < ls.length) (hL : ls.getD k 0 = (L : Int)) (hL1 : 1 ≤ L) :
    (codesOf ls).getD k 0 = firstAt (cnt0 ls) L + ((idxPart ls (L : Int) k).length : Int) := by
  have hx := lenOk_at ha hk
  have hf : (firstsOf (cnt0 ls)).length = 16 := firstsUpto_len _ _
  have h1 := codeSt_old (firstsOf (cnt0 ls)) ls k ls.length hk (Nat.le_refl _)
  rw [List.take_length] at h1
  unfold codesOf
  rw [h1, take_snoc hk, codeSt_snoc]
  have h2 := (codeSt_len (firstsOf (cnt0 ls)) (ls.take k)).2
  rw [List.length_take] at h2
  have h3 := codeStep_new (codeSt (firstsOf (cnt0 ls)) (ls.take k)) (ls.getD k 0) (by omega)
  have h4 : (codeSt (firstsOf (cnt0 ls)) (ls.take k)).2.length = k := by omega
  rw [h4] at h3
  rw [h3, hL, Int.toNat_natCast, codeSt_next hf ha hL1 (by omega) k (by omega), firstsOf, firstsUpto_get _ _ _ (by omega), if_pos (by omega)]

/-! ### The symbols by length -/
theorem idxPart_prefix (ls : List Int) (n : Int) {k m : Nat} (h : k ≤ m) : ∃ r, idxPart ls n m = idxPart ls n k ++ r := by
  induction h with
  | refl => exact ⟨[], by simp⟩
  | @step m _ ih =>
    obtain ⟨r, hr⟩ := ih
    by_cases he : ls.getD m 0 = n
    · exact ⟨r ++ [(m : Int)], by rw [idxPart_yes he, hr, List.append_assoc]⟩
    · exact ⟨r, by rw [idxPart_no he, hr]⟩
theorem idxOf_at {ls : List Int} {k L : Nat} (hk : k < ls.length) (hL : ls.getD k 0 = (L : Int)) : (idxOf ls (L : Int)).getD (idxPart ls (L : Int) k).length 0 = (k : Int) := by
  obtain ⟨r, hr⟩ := idxPart_prefix ls (L : Int) (show k + 1 ≤ ls.length by omega)
  rw [idxOf, hr, idxPart_yes hL]
  simp [List.getD_eq_getElem?_getD]
theorem idxPart_lt {ls : List Int} {k L : Nat} (hk : k < ls.length) (hL : ls.getD k 0 = (L : Int)) : (idxPart ls (L : Int) k).length < (idxOf ls (L : Int)).length := by
  obtain ⟨r, hr⟩ := idxPart_prefix ls (L : Int) (show k + 1 ≤ ls.length by omega)
  rw [idxOf, hr, idxPart_yes hL]
  simp
theorem symsUpto_prefix (ls : List Int) {n m : Nat} (h : n ≤ m) : ∃ r, symsUpto ls m = symsUpto ls n ++ r := by
  induction h with
  | refl => exact ⟨[], by simp⟩
  | @step m _ ih =>
    obtain ⟨r, hr⟩ := ih
    exact ⟨r ++ idxOf ls ((m + 1 : Nat) : Int), by rw [symsUpto, hr, List.append_assoc]⟩
theorem symsOf_at (ls : List Int) {L j : Nat} (h1 : 1 ≤ L) (h15 : L ≤ 15) (hj : j < (idxOf ls (L : Int)).length) :
    (symsOf ls).getD ((symsUpto ls (L - 1)).length + j) 0 = (idxOf ls (L : Int)).getD j 0 := by
  obtain ⟨r, hr⟩ := symsUpto_prefix ls h15
  obtain ⟨L', rfl⟩ : ∃ L', L = L' + 1 := ⟨L - 1, by omega⟩
  rw [symsOf, hr, symsUpto, Nat.add_sub_cancel, List.append_assoc]
  rw [List.getD_eq_getElem?_getD, List.getElem?_append_right (by omega), Nat.add_sub_cancel_left, List.getElem?_append_left hj, List.getD_eq_getElem?_getD]
theorem longUpto_ge (ls : List Int) {L : Nat} (h1 : 1 ≤ L) (hne : idxOf ls (L : Int) ≠ []) : ∀ n, L ≤ n → (L : Int) ≤ longUpto ls n
  | 0, h => by omega
  | n + 1, h => by
    rw [longUpto]
    split
    · rename_i he
      have : L ≠ n + 1 := by intro e; subst e; exact hne he
      exact longUpto_ge ls h1 hne n (by omega)
    · omega

/-! ### That they fit -/
/-- How many numbers of n bits codes have taken. -/
def taken (c : List Int) (n : Nat) : Int := firstAt c n + c.getD n 0
theorem taken_succ (c : List Int) (n : Nat) : taken c (n + 1) = 2 * taken c n + c.getD (n + 1) 0 := by simp [taken, firstAt]
theorem leftFrom_neg (c : List Int) : ∀ k n l, l < 0 → 0 ≤ leftFrom c k n l → k = 0 → False
  | _, _, _, h, h2, rfl => by simp [leftFrom] at h2; omega
theorem leftFrom_le {c : List Int} : ∀ k n (l : Int), 0 ≤ leftFrom c k n l → l = 2 ^ (n - 1) - taken c (n - 1) → 1 ≤ n → ∀ m, n ≤ m → m < n + k → taken c m ≤ 2 ^ m
  | 0, n, l, _, _, _, m, h1, h2 => by omega
  | k + 1, n, l, h, hl, hn, m, h1, h2 => by
    rw [leftFrom] at h
    obtain ⟨n', rfl⟩ : ∃ n', n = n' + 1 := ⟨n - 1, by omega⟩
    rw [Nat.add_sub_cancel] at hl
    have e : 2 * l - c.getD (n' + 1) 0 = 2 ^ (n' + 1) - taken c (n' + 1) := by
      rw [taken_succ, Int.pow_succ, hl]; omega
    split at h
    · omega
    · rename_i hneg
      rcases Nat.lt_or_eq_of_le h1 with h3 | h3
      · exact leftFrom_le k (n' + 1 + 1) _ h (by rw [Nat.add_sub_cancel]; exact e) (by omega) m (by omega) (by omega)
      · rw [← h3]; omega
theorem left_ok {ls : List Int} (hn : ls.length ≤ 320) (ha : ls.all lenOk = true) (hm : mayOf (checkOf ls) = 0) : 0 ≤ leftOf (cnt0 ls) := by
  have hc : checkOf ls = checkC (cnt0 ls) := by simp only [checkOf, if_neg (show ¬ ls.length > 320 by omega), ha, if_true]
  rw [hc] at hm
  by_cases hz : cnt0 ls = zeros16
  · rw [hz]; decide +kernel
  · by_cases hl : leftOf (cnt0 ls) < 0
    · simp [checkC, hz, hl, mayOf] at hm
    · omega
theorem taken_le {ls : List Int} (hn : ls.length ≤ 320) (ha : ls.all lenOk = true) (hm : mayOf (checkOf ls) = 0) {m : Nat} (h1 : 1 ≤ m) (h15 : m ≤ 15) : taken (cnt0 ls) m ≤ 2 ^ m := by
  have hc0 : (cnt0 ls).getD 0 0 = 0 := by
    rw [cnt0, getD_set_eq (by rw [cntsOf_len]; omega)]
  exact leftFrom_le 15 1 1 (left_ok hn ha hm) (by rw [Nat.sub_self, taken, hc0]; rfl) (by omega) m h1 (by omega)

theorem firstAt_pow {c : List Int} (hc : CntOk c) (n : Nat) : ∀ d, 2 ^ (d + 1) * taken c n ≤ firstAt c (n + d + 1)
  | 0 => by simp [taken, firstAt]
  | d + 1 => by
    have ih := firstAt_pow hc n d
    have h := hc.2 (n + d + 1)
    have e : (2 : Int) ^ (d + 1 + 1) * taken c n = 2 * (2 ^ (d + 1) * taken c n) := by
      rw [Int.pow_succ, Int.mul_comm _ (2 : Int), Int.mul_assoc]
    rw [e, show n + (d + 1) + 1 = (n + d + 1) + 1 by omega, firstAt]
    omega
theorem readFrom_code {ls : List Int} (hn : ls.length ≤ 320) (ha : ls.all lenOk = true) {k L C : Nat} (hk : k < ls.length) (hL : ls.getD k 0 = (L : Int)) (hL1 : 1 ≤ L) (hL15 : L ≤ 15)
    (hC : (C : Int) = firstAt (cnt0 ls) L + ((idxPart ls (L : Int) k).length : Int)) (f : Nat → Nat) (lim : Nat) :
    ∀ d n q r (code first : Int) at_, n + d = L → 1 ≤ n → d < r → q + d + 1 ≤ lim → (∀ i, i ≤ d → f (q + i) = C / 2 ^ (d - i) % 2) → code = ((C / 2 ^ (d + 1) : Nat) : Int) → first = taken (cnt0 ls) (n - 1) → at_ = (symsUpto ls (n - 1)).length →
      readFrom ls f lim r n q code first at_ = ((k : Int), 0, q + d + 1) := by
  have hco := cnt0_ok hn
  have hc0 : (cnt0 ls).getD 0 0 = 0 := by rw [cnt0, getD_set_eq (by rw [cntsOf_len]; omega)]
  intro d
  induction d with
  | zero =>
    intro n q r code first at_ hnd hn1 hr hlim hf hcode hfirst hat
    obtain ⟨r, rfl⟩ : ∃ r', r = r' + 1 := ⟨r - 1, by omega⟩
    obtain rfl : n = L := by omega
    have hfq := hf 0 (by omega)
    simp only [Nat.add_zero, Nat.sub_self, Nat.pow_zero, Nat.div_one, Nat.zero_add, Nat.pow_one] at hfq hcode
    have e1 : 2 * code + ((f q : Nat) : Int) = (C : Int) := by rw [hcode, hfq]; omega
    have e2 : first * 2 = firstAt (cnt0 ls) n := by
      obtain ⟨n', rfl⟩ : ∃ n', n = n' + 1 := ⟨n - 1, by omega⟩
      rw [hfirst, Nat.add_sub_cancel, firstAt, taken]; omega
    have hj := idxPart_lt hk hL
    have hlen := idxOf_len ha hL1 hL15
    rw [readFrom, if_neg (by omega)]
    simp only [e1, e2]
    have e3 : (C : Int) - firstAt (cnt0 ls) n = ((idxPart ls (n : Int) k).length : Int) := by omega
    rw [e3, if_neg (by omega), hat, Int.toNat_natCast, symsOf_at ls hL1 hL15 hj, idxOf_at hk hL]
  | succ d ih =>
    intro n q r code first at_ hnd hn1 hr hlim hf hcode hfirst hat
    obtain ⟨r, rfl⟩ : ∃ r', r = r' + 1 := ⟨r - 1, by omega⟩
    have hfq := hf 0 (by omega)
    simp only [Nat.add_zero, Nat.sub_zero] at hfq
    have e1 : 2 * code + ((f q : Nat) : Int) = ((C / 2 ^ (d + 1) : Nat) : Int) := by
      have h := Nat.div_div_eq_div_mul C (2 ^ (d + 1)) 2
      rw [← Nat.pow_succ] at h
      rw [hcode, hfq, ← h]; omega
    have e2 : first * 2 = firstAt (cnt0 ls) n := by
      obtain ⟨n', rfl⟩ : ∃ n', n = n' + 1 := ⟨n - 1, by omega⟩
      rw [hfirst, Nat.add_sub_cancel, firstAt, taken]; omega
    have hpow := firstAt_pow hco n d
    rw [show n + d + 1 = L by omega] at hpow
    have hbig : taken (cnt0 ls) n ≤ ((C / 2 ^ (d + 1) : Nat) : Int) := by
      have h0 : 2 ^ (d + 1) * taken (cnt0 ls) n ≤ (C : Int) := by omega
      have ht0 : 0 ≤ taken (cnt0 ls) n := by
        have h1 := firstAt_le hco (n := n) (by omega)
        have h2 := hco.2 n
        unfold taken; omega
      obtain ⟨T, hT⟩ : ∃ T : Nat, taken (cnt0 ls) n = (T : Int) := ⟨(taken (cnt0 ls) n).toNat, by omega⟩
      rw [hT] at h0 ⊢
      have h3 : 2 ^ (d + 1) * T ≤ C := by exact_mod_cast h0
      have h4 : T ≤ C / 2 ^ (d + 1) := by rw [Nat.le_div_iff_mul_le (Nat.two_pow_pos _), Nat.mul_comm]; exact h3
      exact_mod_cast h4
    have hlen := idxOf_len ha hn1 (show n ≤ 15 by omega)
    have hm0 := (hco.2 n).1
    rw [readFrom, if_neg (by omega)]
    simp only [e1, e2]
    rw [if_pos (by unfold taken at hbig; omega)]
    rw [ih (n + 1) (q + 1) r _ _ _ (by omega) (by omega) (by omega) (by omega) (fun i hi => ?_) rfl (by rw [Nat.add_sub_cancel]; rfl) ?_]
    · rw [show q + 1 + d + 1 = q + (d + 1) + 1 by omega]
    · obtain ⟨n', rfl⟩ : ∃ n', n = n' + 1 := ⟨n - 1, by omega⟩
      rw [hat, Nat.add_sub_cancel, Nat.add_sub_cancel, symsUpto, List.length_append]
      omega
    · rw [show q + 1 + i = q + (i + 1) by omega, hf (i + 1) (by omega), show d + 1 - (i + 1) = d - i by omega]
theorem codeBits_at (C : Nat) : ∀ L i, i < L → lf (codeBits C L) i = C / 2 ^ (L - 1 - i) % 2
  | 0, i, h => by omega
  | L + 1, 0, _ => by simp [codeBits, lf]
  | L + 1, i + 1, h => by
    have ih := codeBits_at C L i (by omega)
    rw [show L + 1 - 1 - (i + 1) = L - 1 - i by omega, ← ih]
    simp [codeBits, lf]
/-- What is written of a symbol is read again. -/
theorem readOf_code {ls : List Int} (hn : ls.length ≤ 320) (ha : ls.all lenOk = true) (hm : mayOf (checkOf ls) = 0) {k L : Nat} (hk : k < ls.length) (hL : ls.getD k 0 = (L : Int)) (hL1 : 1 ≤ L) (f : Nat → Nat) (lim p : Nat) (hlim : p + L ≤ lim)
    (hf : ∀ i, i < L → f (p + i) = lf (codeBits ((codesOf ls).getD k 0).toNat L) i) : readOf ls f lim p = ((k : Int), 0, p + L) := by
  have hx := lenOk_at ha hk
  have hL15 : L ≤ 15 := by omega
  have hco := cnt0_ok hn
  have hc0 : (cnt0 ls).getD 0 0 = 0 := by rw [cnt0, getD_set_eq (by rw [cntsOf_len]; omega)]
  have hCe := codesOf_at ha hk hL hL1
  have hC0 := codesOf_nn hn k
  obtain ⟨C, hC⟩ : ∃ C : Nat, (codesOf ls).getD k 0 = (C : Int) := ⟨((codesOf ls).getD k 0).toNat, by omega⟩
  rw [hC] at hCe
  have hj := idxPart_lt hk hL
  have hlen := idxOf_len ha hL1 hL15
  have htk := taken_le hn ha hm hL1 hL15
  have hCL : C < 2 ^ L := by
    have : (C : Int) < 2 ^ L := by unfold taken at htk; omega
    exact_mod_cast this
  have hlong := longUpto_ge ls hL1 (by intro h; rw [h] at hj; simp at hj) 15 hL15
  obtain ⟨d, rfl⟩ : ∃ d, L = d + 1 := ⟨L - 1, by omega⟩
  have h := readFrom_code hn ha hk hL hL1 hL15 hCe f lim d 1 p (longOf ls).toNat 0 0 0 (by omega) (by omega) (by unfold longOf; omega) (by omega)
    (fun i hi => by rw [hf i (by omega), hC, Int.toNat_natCast, codeBits_at _ _ _ (by omega)]; rw [show d + 1 - 1 - i = d - i by omega])
    (by rw [Nat.div_eq_of_lt hCL]; rfl) (by rw [Nat.sub_self, taken, hc0]; rfl) rfl
  rw [readOf, h]
  rfl
end Go.Proofs.Ytmdlhbhdlhjakaa
