/- The contracts of the document's answer's reading of bits: Bit, Get, Whole, Bytes. Plain: what the document's answer for codes computes is what the program computes. -/
import Derived.Test.YtmdlhbhdlhjakaaM13
import Derived.Test.YtmdlhbhdlhjakaaM16
import Derived.Test.YtmdlhbhdlhjakaaM11
import Derived.Test.YtmdlhbhdlhjakaaM08
set_option linter.unusedVariables false
set_option linter.unusedSimpArgs false
namespace Go.Proofs.Ytmdlhbhdlhjakaa
open Go.RowKit

set_option maxRecDepth 100000 in
theorem rbit_any (s : ByteArray) (p : Nat) (hs : s.size ≤ 1000000000) (hp : p < 8 * s.size) (w : World) {P : Int} (hP : P = (p : Int)) : Calls Try.prog 119 #[.string s, .int .i64 P] w fun e w' => e = .returned (.int .i64 (bit s p : Nat)) ∧ ∃ n, w' = w.drewN n := by
  subst hP
  have hi : p / 8 < s.size := by omega
  have hb := byteAt_get s (p / 8) hi
  have hq : Int.tdiv (p : Int) 8 = ((p / 8 : Nat) : Int) := by rw [Int.tdiv_eq_ediv_of_nonneg (by omega)]; rfl
  have hm : Int.tmod (p : Int) 8 = ((p % 8 : Nat) : Int) := by rw [Int.tmod_eq_emod_of_nonneg (by omega)]; rfl
  have HB : Sealed (bit s p = byteAt s (p / 8) / 2 ^ (p % 8) % 2) := ⟨rfl⟩
  have h255 := byteAt_lt s (p / 8)
  have HP : Sealed (∀ w, Calls Try.prog 111 #[.int .i64 ((p % 8 : Nat) : Int)] w fun e w' => e = .returned (.int .i64 ((2 ^ (p % 8) : Nat) : Int)) ∧ ∃ n, w' = w.drewN n) := ⟨fun w => (power08_any (p % 8) (by omega) w).mono fun e w' h => ⟨h.1, 0, h.2.symm⟩⟩
  have hpos : 0 < 2 ^ (p % 8) := Nat.two_pow_pos _
  generalize bit s p = r at *
  generalize 2 ^ (p % 8) = pw at *
  generalize p % 8 = pm at *
  obtain ⟨b, hbe⟩ : ∃ b, b = byteAt s (p / 8) := ⟨_, rfl⟩
  rw [← hbe] at hb h255 HB
  clear hbe
  have hi2 : ((p / 8 : Nat) : Int) < (s.size : Int) := by omega
  generalize p / 8 = i at *
  have hz : ((pw : Int) == 0) = false := beq_eq_false_iff_ne.2 (by omega)
  have hz2 : ¬ pw = 0 := by omega
  clear hp hpos
  go_enter Try.func119, Try.ntmps119
  go_wp2
  go_quiet ((go_at_call 111; exact Calls.quiet_of (HP.out _)))
  go_wp2
  go_ret
  have e1 : (b : Int) / (pw : Int) = ((b / pw : Nat) : Int) := by simp
  have e2 : b / pw ≤ 255 := Nat.le_trans (Nat.div_le_self _ _) (by omega)
  generalize b / pw = x at *
  have e3 : wrap64 (x : Int) = (x : Int) := wrap64_small (by omega) (by omega)
  exact ⟨ret_int (by rw [HB.out, e1, e3, Int.tmod_eq_emod_of_nonneg (by omega)]; rfl), _, rfl⟩
theorem whole_any (p : Nat) (hp : p ≤ 100000000000) (w : World) : Calls Try.prog 68 #[.int .i64 p] w fun e w' => e = .returned (.int .i64 (8 * ((p + 7) / 8) : Nat)) ∧ w = w' := by
  have ew : IntKind.i64.wrap ((p : Int) + 7) = (p : Int) + 7 := by rw [IntKind.wrap_i64]; omega
  have eq8 : Int.tdiv ((p : Int) + 7) 8 = (((p + 7) / 8 : Nat) : Int) := by rw [Int.tdiv_eq_ediv_of_nonneg (by omega)]; omega
  have ew2 : IntKind.i64.wrap ((((p + 7) / 8 : Nat) : Int) * 8) = (((p + 7) / 8 : Nat) : Int) * 8 := by rw [IntKind.wrap_i64]; omega
  go_enter Try.func68, Try.ntmps68
  go_wp2
  go_ret
  exact ⟨ret_int (by omega), rfl⟩
set_option maxRecDepth 100000 in
theorem rget_any (s : ByteArray) (p d : Nat) (hs : s.size ≤ 1000000000) (hp : p ≤ 8 * s.size) (hd : d ≤ 16) (w : World) : Calls Try.prog 92 #[.string s, .int .i64 p, .int .i64 d] w fun e w' => e = .returned (.tuple #[.int .i64 (valOf 0 (getS s p d)), .int .i64 (posOf p (getS s p d)), .int .i64 (errOf (getS s p d))]) ∧ ∃ n, w' = w.drewN n := by
  have h1 : decide ((d : Int) < 0) = false := decide_eq_false (by omega)
  have h2 : decide (16 < (d : Int)) = false := decide_eq_false (by omega)
  by_cases hl : p + d ≤ 8 * s.size
  · have hg : getS s p d = .ok (val (bit s) p d, p + d) := by unfold getS; rw [if_pos hl]
    rw [hg]
    simp only [valOf, posOf, errOf]
    have h3 : decide (8 * (s.size : Int) - (p : Int) < (d : Int)) = false := decide_eq_false (by omega)
    have HBT : Sealed (∀ j, j < d → ∀ w, Calls Try.prog 119 #[.string s, .int .i64 ((p : Int) + (j : Int))] w fun e w' => e = .returned (.int .i64 (bit s (p + j) : Nat)) ∧ ∃ n, w' = w.drewN n) := ⟨fun j hj w => rbit_any s (p + j) hs (by omega) w (by omega)⟩
    have hp2 : p ≤ 8000000000 := by omega
    have HV : Sealed (∀ j, j < d → val (bit s) (p + j) (d - j) = bit s (p + j) + 2 * val (bit s) (p + (j + 1)) (d - (j + 1))) := ⟨fun j hj => by
      rw [show d - j = 1 + (d - (j + 1)) by omega, val_add, val_one]; rfl⟩
    have HVB : Sealed (∀ j, val (bit s) (p + j) (d - j) < 65536) := ⟨fun j => by
      have h1 := val_lt (bit_le s) (p + j) (d - j)
      have h2 : 2 ^ (d - j) ≤ 2 ^ 16 := Nat.pow_le_pow_right (by decide) (by omega)
      omega⟩
    clear hl hg hp
    go_enter Try.func92, Try.ntmps92
    go_wp2
    go_loopg [9, 10] d (fun k s9 s10 w' => ∃ (j : Nat) (i : Int) (m : Nat), s9 = .int .i64 (val (bit s) (p + j) (d - j) : Nat) ∧ s10 = .int .i64 i ∧ i = (j : Int) - 1 ∧ j ≤ d ∧ Sealed (k = j) ∧ w' = w.drewN m)
    case atStart => exact ⟨d, _, 0, by rw [Nat.sub_self]; rfl, rfl, by omega, Nat.le_refl _, ⟨rfl⟩, rfl⟩
    case round =>
      obtain ⟨j, i, m, rfl, rfl, hi, hj, HK, rfl⟩ := hrel
      by_cases hj0 : j = 0
      · subst hj0
        have hi' : i = -1 := by omega
        subst hi'
        clear hi hj
        go_wp2
        go_ret3
        exact ⟨rfl, _, rfl⟩
      · obtain ⟨j, rfl⟩ : ∃ t, j = t + 1 := ⟨j - 1, by omega⟩
        have hi' : i = (j : Int) := by omega
        subst hi'
        clear hi
        have hv := HV.out j (by omega)
        have hvb := HVB.out (j + 1)
        have hvb0 := HVB.out j
        have hbt := HBT.out j (by omega)
        have hw : Sealed (∃ a, val (bit s) (p + (j + 1)) (d - (j + 1)) = a) := ⟨_, rfl⟩
        obtain ⟨a, ha⟩ := hw.out
        rw [ha] at hv hvb ⊢
        obtain ⟨b, hb⟩ : ∃ b, bit s (p + j) = b := ⟨_, rfl⟩
        rw [hb] at hv hbt
        have HBJ := Sealed.mk hbt
        have HVJ := Sealed.mk hv
        have hb1 : b ≤ 1 := by rw [← hb]; exact bit_le s (p + j)
        clear hv hbt ha hb hvb0 hw
        go_wp2_with fail
        refine (HBJ.out _).mono ?_
        rintro e w3 ⟨rfl, m3, rfl⟩
        go_wp2
        go_roundg j
        case measure => have := HK.out; omega
        case rel => exact ⟨j, (j : Int) - 1, m + m3, by rw [HVJ.out]; go_num, by go_num, rfl, by omega, ⟨rfl⟩, rfl⟩
  · have hg : getS s p d = .error 5 := by unfold getS; rw [if_neg hl]
    rw [hg]
    simp only [valOf, posOf, errOf]
    have h3 : decide (8 * (s.size : Int) - (p : Int) < (d : Int)) = true := decide_eq_true (by omega)
    clear hl hg
    go_enter Try.func92, Try.ntmps92
    go_wp2
    go_ret3
    exact ⟨rfl, 0, rfl⟩
set_option maxRecDepth 100000 in
theorem rbytes10_any (s : ByteArray) (q n : Nat) (hs : s.size ≤ 1000000000) (hq : q ≤ s.size) (hn : n ≤ 65535) (w : World) : Calls Try.prog 93 #[.string s, .int .i64 ((8 * q : Nat) : Int), .int .i64 n] w fun e w' =>
    e = .returned (if s.size < q + n then .tuple #[.string ⟨#[]⟩, .int .i64 ((8 * q : Nat) : Int), .int .i64 5] else .tuple #[.string (s.extract q (q + n)), .int .i64 ((8 * (q + n) : Nat) : Int), .int .i64 0]) ∧ w = w' := by
  have HW := Sealed.mk (fun w => whole_any (8 * q) (by omega) w)
  rw [show 8 * ((8 * q + 7) / 8) = 8 * q by omega] at HW
  have h0 : decide ((n : Int) < 0) = false := decide_eq_false (by omega)
  have e8 : Int.tdiv ((8 * q : Nat) : Int) 8 = (q : Int) := by rw [Int.tdiv_eq_ediv_of_nonneg (by omega)]; omega
  obtain ⟨P, hP⟩ : ∃ P : Int, P = ((8 * q : Nat) : Int) := ⟨_, rfl⟩
  rw [← hP] at e8 HW ⊢
  by_cases h : s.size < q + n
  · rw [if_pos h]
    have hd : decide ((s.size : Int) - (q : Int) < (n : Int)) = true := decide_eq_true (by omega)
    clear h hP
    go_enter Try.func93, Try.ntmps93
    go_wp2_with fail
    refine (HW.out _).mono ?_
    rintro e w1 ⟨rfl, rfl⟩
    go_wp2
    go_ret3
    exact ⟨rfl, rfl⟩
  · rw [if_neg h]
    have hd : decide ((s.size : Int) - (q : Int) < (n : Int)) = false := decide_eq_false (by omega)
    have hb : q + n ≤ s.size := by omega
    have ew : IntKind.i64.wrap ((q : Int) + (n : Int)) = (q : Int) + (n : Int) := by rw [IntKind.wrap_i64]; omega
    have hle : (q : Int) + (n : Int) ≤ (s.size : Int) := by omega
    have hqq : (q : Int) ≤ (q : Int) + (n : Int) := by omega
    have h0n : (0 : Int) ≤ (q : Int) + (n : Int) := by omega
    have hto : ((q : Int) + (n : Int)).toNat = q + n := by omega
    clear h hP
    go_enter Try.func93, Try.ntmps93
    go_wp2_with fail
    refine (HW.out _).mono ?_
    rintro e w1 ⟨rfl, rfl⟩
    go_wp2
    go_ret3
    exact ⟨by congr 4, rfl⟩
end Go.Proofs.Ytmdlhbhdlhjakaa

namespace Go.Proofs.Ytmdlhbhdlhjakaa
open Go.RowKit

/-! ### Check: by the sum -/
def partOf (x : Int) : Int := if 0 < x then 2 ^ (15 - x.toNat) else 0
def rsum (ls : List Int) : Int := ls.foldl (fun s x => s + partOf x) 0
theorem rsum_snoc (ls : List Int) (x : Int) : rsum (ls ++ [x]) = rsum ls + partOf x := by simp [rsum, List.foldl_append]
theorem taken_inc {c c' : List Int} {x : Nat} (hx : 1 ≤ x) (h1 : c'.getD x 0 = c.getD x 0 + 1) (h2 : ∀ i, i ≠ x → c'.getD i 0 = c.getD i 0) : ∀ n, taken c' n = taken c n + (if x ≤ n then 2 ^ (n - x) else 0)
  | 0 => by
    rw [if_neg (by omega), taken, taken, h2 0 (by omega)]; simp [firstAt]
  | n + 1 => by
    rw [taken_succ, taken_succ, taken_inc hx h1 h2 n]
    by_cases h : x ≤ n
    · have e : n + 1 - x = (n - x) + 1 := by omega
      rw [if_pos h, if_pos (by omega), h2 (n + 1) (by omega), e, Int.pow_succ]
      omega
    · by_cases h3 : x = n + 1
      · subst h3
        rw [if_neg h, if_pos (by omega), h1, Nat.sub_self]
        omega
      · rw [if_neg h, if_neg (by omega), h2 (n + 1) (by omega)]
        omega
theorem rsum_taken : ∀ (k : Nat) (ls : List Int), ls.length = k → ls.all lenOk = true → rsum ls = taken (cnt0 ls) 15
  | 0, ls, h, _ => by
    obtain rfl := List.eq_nil_of_length_eq_zero h
    decide +kernel
  | k + 1, ls, h, ha => by
    have hs : ls = ls.take k ++ [ls.getD k 0] := by rw [← take_snoc (by omega), List.take_of_length_le (by omega)]
    have hx := lenOk_at ha (k := k) (by omega)
    have hal : (ls.take k).all lenOk = true := by
      rw [List.all_eq_true] at ha ⊢
      exact fun x hx => ha x (List.mem_of_mem_take hx)
    have ih := rsum_taken k (ls.take k) (by rw [List.length_take]; omega) hal
    generalize ls.getD k 0 = x at *
    generalize ls.take k = l at *
    subst hs
    rw [rsum_snoc, ih]
    have hl := cntsOf_len l
    by_cases hp : 0 < x
    · have hxe : x.toNat < (cntsOf l).length := by omega
      rw [taken_inc (c := cnt0 l) (c' := cnt0 (l ++ [x])) (x := x.toNat) (by omega) ?_ ?_ 15, partOf, if_pos hp, if_pos (by omega)]
      · rw [cnt0, cnt0, cntsOf_snoc, cntStep, getD_set_ne (by omega), getD_set_eq hxe, getD_set_ne (by omega)]
      · intro i hi
        rw [cnt0, cnt0, cntsOf_snoc, cntStep]
        by_cases h0 : 0 = i
        · subst h0
          rw [getD_set_eq (by simp; omega), getD_set_eq (by omega)]
        · rw [getD_set_ne h0, getD_set_ne (Ne.symm hi), getD_set_ne h0]
    · have hx0 : x = 0 := by omega
      subst hx0
      have e : cnt0 (l ++ [0]) = cnt0 l := by
        rw [cnt0, cnt0, cntsOf_snoc, cntStep]
        simp [List.set_set]
      rw [e, partOf, if_neg hp]; omega
theorem taken_mono {c : List Int} (hc : CntOk c) (n : Nat) : ∀ d, 2 ^ d * taken c n ≤ taken c (n + d)
  | 0 => by simp
  | d + 1 => by
    have ih := taken_mono hc n d
    have h := hc.2 (n + d + 1)
    have e : (2 : Int) ^ (d + 1) * taken c n = 2 * (2 ^ d * taken c n) := by rw [Int.pow_succ, Int.mul_comm _ (2 : Int), Int.mul_assoc]
    rw [e, ← Nat.add_assoc, taken_succ]
    omega
theorem taken_nn {c : List Int} (hc : CntOk c) : ∀ n, 0 ≤ taken c n
  | 0 => by have := hc.2 0; simp only [taken, firstAt]; omega
  | n + 1 => by have h := hc.2 (n + 1); have := taken_nn hc n; rw [taken_succ]; omega
theorem leftFrom_eq {c : List Int} : ∀ k n (l : Int), (∀ m, n ≤ m → m < n + k → taken c m ≤ 2 ^ m) → l = 2 ^ (n - 1) - taken c (n - 1) → 1 ≤ n → leftFrom c k n l = 2 ^ (n + k - 1) - taken c (n + k - 1)
  | 0, n, l, _, hl, hn => by rw [leftFrom, hl]; rfl
  | k + 1, n, l, h, hl, hn => by
    obtain ⟨n', rfl⟩ : ∃ n', n = n' + 1 := ⟨n - 1, by omega⟩
    rw [Nat.add_sub_cancel] at hl
    have e : 2 * l - c.getD (n' + 1) 0 = 2 ^ (n' + 1) - taken c (n' + 1) := by rw [taken_succ, Int.pow_succ, hl]; omega
    have h1 := h (n' + 1) (by omega) (by omega)
    rw [leftFrom, if_neg (by omega), leftFrom_eq k (n' + 1 + 1) _ (fun m a b => h m (by omega) (by omega)) (by rw [Nat.add_sub_cancel]; exact e) (by omega)]
    rw [show n' + 1 + 1 + k - 1 = n' + 1 + (k + 1) - 1 by omega]
theorem left_taken {c : List Int} (hc : CntOk c) (h0 : c.getD 0 0 = 0) : (taken c 15 ≤ 32768 → leftOf c = 32768 - taken c 15) ∧ (32768 < taken c 15 → leftOf c < 0) := by
  have hl : (1 : Int) = 2 ^ (1 - 1) - taken c (1 - 1) := by rw [Nat.sub_self, taken, h0]; rfl
  constructor
  · intro h
    have h1 := leftFrom_eq (c := c) 15 1 1 (fun m a b => ?_) hl (by omega)
    · exact h1
    · have h2 := taken_mono hc m (15 - m)
      rw [show m + (15 - m) = 15 by omega] at h2
      have h3 : (2 : Int) ^ (15 - m) * taken c m ≤ 2 ^ (15 - m) * 2 ^ m := by
        rw [← Int.pow_add, show 15 - m + m = 15 by omega]
        show _ ≤ (32768 : Int)
        omega
      exact Int.le_of_mul_le_mul_left h3 (Int.pow_pos (by decide))
  · intro h
    rcases Int.lt_or_le (leftOf c) 0 with h1 | h1
    · exact h1
    · have := leftFrom_le 15 1 1 h1 hl (by omega) 15 (by omega) (by omega)
      have e : (2 : Int) ^ 15 = 32768 := rfl
      omega
theorem zeros_taken {c : List Int} (hc : CntOk c) (h0 : c.getD 0 0 = 0) : c = zeros16 ↔ taken c 15 = 0 := by
  constructor
  · intro h; rw [h]; decide +kernel
  · intro h
    apply List.ext_getElem?
    intro i
    by_cases hi : i < 16
    · have e1 : c[i]? = some (c.getD i 0) := by rw [List.getD_eq_getElem?_getD, List.getElem?_eq_getElem (by rw [hc.1]; exact hi)]; rfl
      have e2 : zeros16[i]? = some 0 := by unfold zeros16; rw [List.getElem?_replicate, if_pos hi]
      rw [e1, e2]
      congr 1
      rcases Nat.eq_zero_or_pos i with hz | hz
      · subst hz; exact h0
      · have h2 := taken_mono hc i (15 - i)
        rw [show i + (15 - i) = 15 by omega, h] at h2
        have h3 := taken_nn hc i
        have h4 : taken c i ≤ 0 := by
          have h5 : (2 : Int) ^ (15 - i) * taken c i ≤ 2 ^ (15 - i) * 0 := by omega
          exact Int.le_of_mul_le_mul_left h5 (Int.pow_pos (by decide))
        obtain ⟨i', rfl⟩ : ∃ i', i = i' + 1 := ⟨i - 1, by omega⟩
        have h6 := taken_nn hc i'
        have h7 := (hc.2 (i' + 1)).1
        rw [taken_succ] at h4
        omega
    · rw [List.getElem?_eq_none (by rw [hc.1]; omega), List.getElem?_eq_none (by simp [zeros16]; omega)]
def rcheckOf (ls : List Int) : Int := if ls.length > 320 then 2 else if ls.all lenOk then (if rsum ls = 0 then 12 else if rsum ls > 32768 then 7 else if rsum ls < 32768 then 5 else 0) else 3
theorem rcheck_eq (ls : List Int) : rcheckOf ls = checkOf ls := by
  unfold rcheckOf checkOf
  by_cases hn : ls.length > 320
  · rw [if_pos hn, if_pos hn]
  · rw [if_neg hn, if_neg hn]
    by_cases ha : ls.all lenOk = true
    · rw [if_pos ha, if_pos ha, rsum_taken _ ls rfl ha]
      have hc := cnt0_ok (ls := ls) (by omega)
      have h0 : (cnt0 ls).getD 0 0 = 0 := by rw [cnt0, getD_set_eq (by rw [cntsOf_len]; omega)]
      have h1 := left_taken hc h0
      have h2 := zeros_taken hc h0
      unfold checkC
      by_cases hz : cnt0 ls = zeros16
      · rw [if_pos (h2.1 hz), if_pos hz]
      · rw [if_neg (fun h => hz (h2.2 h)), if_neg hz]
        by_cases hb : taken (cnt0 ls) 15 > 32768
        · rw [if_pos hb, if_pos (h1.2 hb)]
        · have := h1.1 (by omega)
          have hl0 : ¬ leftOf (cnt0 ls) < 0 := by omega
          rw [if_neg hb, if_neg hl0]
          by_cases hs : taken (cnt0 ls) 15 < 32768
          · have hl1 : leftOf (cnt0 ls) > 0 := by omega
            rw [if_pos hs, if_pos hl1]
          · have hl1 : ¬ leftOf (cnt0 ls) > 0 := by omega
            rw [if_neg hs, if_neg hl1]
    · rw [if_neg ha, if_neg ha]

/-! ### Longest -/
def mx2 (n x : Int) : Int := if n < x then x else n
def rlong (ls : List Int) : Int := ls.foldl mx2 0
theorem rlong_snoc (ls : List Int) (x : Int) : rlong (ls ++ [x]) = if rlong ls < x then x else rlong ls := by
  show (ls ++ [x]).foldl mx2 0 = mx2 (ls.foldl mx2 0) x
  rw [List.foldl_append]; rfl
theorem rlong_ge : ∀ (k : Nat) (ls : List Int), ls.length = k → 0 ≤ rlong ls ∧ (∀ i, i < ls.length → ls.getD i 0 ≤ rlong ls) ∧ (rlong ls = 0 ∨ ∃ i, i < ls.length ∧ ls.getD i 0 = rlong ls)
  | 0, ls, h => by
    obtain rfl := List.eq_nil_of_length_eq_zero h
    exact ⟨by decide, fun i hi => by simp at hi, .inl rfl⟩
  | k + 1, ls, h => by
    have hs : ls = ls.take k ++ [ls.getD k 0] := by rw [← take_snoc (by omega), List.take_of_length_le (by omega)]
    have ih := rlong_ge k (ls.take k) (by rw [List.length_take]; omega)
    have hlk : (ls.take k).length = k := by rw [List.length_take]; omega
    have hold : ∀ i, i < k → ls.getD i 0 = (ls.take k).getD i 0 := fun i hi => by
      simp [List.getD_eq_getElem?_getD, List.getElem?_take, hi]
    have hr : rlong ls = if rlong (ls.take k) < ls.getD k 0 then ls.getD k 0 else rlong (ls.take k) := by
      conv => lhs; rw [hs]
      exact rlong_snoc _ _
    obtain ⟨h1, h2, h3⟩ := ih
    rw [hlk] at h2 h3
    refine ⟨by rw [hr]; split <;> omega, fun i hi => ?_, ?_⟩
    · by_cases hik : i < k
      · rw [hold i hik, hr]
        have := h2 i hik
        split <;> omega
      · obtain rfl : i = k := by omega
        rw [hr]
        split <;> omega
    · rw [hr]
      split
      · exact .inr ⟨k, by omega, rfl⟩
      · rcases h3 with h3 | ⟨i, hi, he⟩
        · exact .inl h3
        · exact .inr ⟨i, by omega, by rw [hold i hi, he]⟩
theorem longUpto_in (ls : List Int) : ∀ n, longUpto ls n = 0 ∨ ∃ i, i < ls.length ∧ ls.getD i 0 = longUpto ls n
  | 0 => .inl rfl
  | n + 1 => by
    rw [longUpto]
    split
    · exact longUpto_in ls n
    · rename_i hne
      refine .inr ?_
      have hx : ∃ x, x ∈ idxOf ls ((n + 1 : Nat) : Int) := List.exists_mem_of_ne_nil _ hne
      obtain ⟨x, hx⟩ := hx
      simp only [idxOf, idxPart, List.mem_map, List.mem_filter, List.mem_range] at hx
      obtain ⟨i, ⟨hi, he⟩, _⟩ := hx
      exact ⟨i, hi, by simpa using he⟩
theorem rlong_eq {ls : List Int} (ha : ls.all lenOk = true) : rlong ls = longOf ls := by
  obtain ⟨h0, h1, h2⟩ := rlong_ge _ ls rfl
  have h3 := longUpto_le ls 15
  have hle : rlong ls ≤ longOf ls := by
    rcases h2 with h2 | ⟨i, hi, he⟩
    · unfold longOf; omega
    · have hx := lenOk_at ha hi
      by_cases hz : ls.getD i 0 = 0
      · unfold longOf; omega
      · have hL : ls.getD i 0 = (((ls.getD i 0).toNat : Nat) : Int) := by omega
        have hj := idxPart_lt hi hL
        have := longUpto_ge ls (L := (ls.getD i 0).toNat) (by omega) (by intro h; rw [h] at hj; simp at hj) 15 (by omega)
        unfold longOf; omega
  have hge : longOf ls ≤ rlong ls := by
    rcases longUpto_in ls 15 with h | ⟨i, hi, he⟩
    · unfold longOf; omega
    · have := h1 i hi
      unfold longOf; omega
  omega

/-! ### Find -/
def isCode (ls cs : List Int) (n code : Int) (i : Nat) : Bool := (ls.getD i 0 == n) && (cs.getD i 0 == code) && decide (0 < n)
def rfind (ls cs : List Int) (n code : Int) : Int := match (List.range ls.length).find? (isCode ls cs n code) with | some i => (i : Int) | none => -1
theorem rfind_some {ls cs : List Int} {n code : Int} {i : Nat} (hi : i < ls.length) (h : isCode ls cs n code i = true) (hb : ∀ j, j < i → isCode ls cs n code j = false) : rfind ls cs n code = (i : Int) := by
  have : (List.range ls.length).find? (isCode ls cs n code) = some i := by
    rw [List.find?_range_eq_some]
    exact ⟨h, by simpa using hi, fun j hj => by simp [hb j hj]⟩
  rw [rfind, this]
theorem rfind_none {ls cs : List Int} {n code : Int} (hb : ∀ j, j < ls.length → isCode ls cs n code j = false) : rfind ls cs n code = -1 := by
  have : (List.range ls.length).find? (isCode ls cs n code) = none := by
    rw [List.find?_range_eq_none]
    exact fun j hj => by simp [hb j hj]
  rw [rfind, this]
theorem idxPart_mem (ls : List Int) (n : Int) : ∀ k j, j < (idxPart ls n k).length → ∃ i, i < k ∧ ls.getD i 0 = n ∧ (idxPart ls n i).length = j
  | 0, j, h => by simp [idxPart] at h
  | k + 1, j, h => by
    by_cases he : ls.getD k 0 = n
    · rw [idxPart_yes he, List.length_append] at h
      by_cases hj : j < (idxPart ls n k).length
      · obtain ⟨i, a, b, c⟩ := idxPart_mem ls n k j hj
        exact ⟨i, by omega, b, c⟩
      · exact ⟨k, by omega, he, by simp at h; omega⟩
    · rw [idxPart_no he] at h
      obtain ⟨i, a, b, c⟩ := idxPart_mem ls n k j h
      exact ⟨i, by omega, b, c⟩
theorem idxPart_strict (ls : List Int) (n : Int) {i k : Nat} (hik : i < k) (he : ls.getD i 0 = n) : (idxPart ls n i).length < (idxPart ls n k).length := by
  obtain ⟨r, hr⟩ := idxPart_prefix ls n (show i + 1 ≤ k by omega)
  rw [hr, idxPart_yes he]
  simp
theorem rfind_code {ls : List Int} (ha : ls.all lenOk = true) {n : Nat} (h1 : 1 ≤ n) (h15 : n ≤ 15) {code : Int} (hc : firstAt (cnt0 ls) n ≤ code) :
    rfind ls (codesOf ls) n code = if (cnt0 ls).getD n 0 ≤ code - firstAt (cnt0 ls) n then -1 else (symsOf ls).getD ((symsUpto ls (n - 1)).length + (code - firstAt (cnt0 ls) n).toNat) 0 := by
  have hlen := idxOf_len ha h1 h15
  have hiff : ∀ i, i < ls.length → (isCode ls (codesOf ls) n code i = true ↔ ls.getD i 0 = (n : Int) ∧ ((idxPart ls (n : Int) i).length : Int) = code - firstAt (cnt0 ls) n) := by
    intro i hi
    simp only [isCode, Bool.and_eq_true, beq_iff_eq, decide_eq_true_eq]
    constructor
    · rintro ⟨⟨a, b⟩, _⟩
      rw [codesOf_at ha hi a h1] at b
      exact ⟨a, by omega⟩
    · rintro ⟨a, b⟩
      exact ⟨⟨a, by rw [codesOf_at ha hi a h1]; omega⟩, by omega⟩
  split
  · rename_i hge
    refine rfind_none fun j hj => ?_
    rcases hb : isCode ls (codesOf ls) n code j with _ | _
    · rfl
    · have h2 := (hiff j hj).1 hb
      have h3 := idxPart_lt hj h2.1
      omega
  · rename_i hlt
    obtain ⟨i, hi, he, hp⟩ := idxPart_mem ls (n : Int) ls.length (code - firstAt (cnt0 ls) n).toNat (by
      have : (idxPart ls (n : Int) ls.length).length = (idxOf ls (n : Int)).length := rfl
      omega)
    have hm : isCode ls (codesOf ls) n code i = true := (hiff i hi).2 ⟨he, by omega⟩
    rw [rfind_some hi hm (fun j hj => ?_), ← hp, symsOf_at ls h1 h15 (idxPart_lt hi he), idxOf_at hi he]
    rcases hb : isCode ls (codesOf ls) n code j with _ | _
    · rfl
    · have h2 := (hiff j (by omega)).1 hb
      have h3 := idxPart_strict ls (n : Int) hj h2.1
      omega
end Go.Proofs.Ytmdlhbhdlhjakaa
