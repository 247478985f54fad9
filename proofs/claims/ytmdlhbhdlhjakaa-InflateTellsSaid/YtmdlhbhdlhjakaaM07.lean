/- The contracts of package bitrow's writer: Align, Len, Text. The contracts of package codes' Tree: Read, Write. -/
import Derived.Test.YtmdlhbhdlhjakaaM06
import Derived.WalkMore
import Derived.Test.YtmdlhbhdlhjakaaM05
set_option linter.unusedVariables false
set_option linter.unusedSimpArgs false
namespace Go.Proofs.Ytmdlhbhdlhjakaa
open Go.RowKit

theorem WrSt.parts {B : Nat} {w : World} {g : Nat} {t : TypeId} {rest : List Value} {l : List Nat} (h : WrSt B w g t rest l) :
    IsBits (lf l) ∧ B ≤ g ∧ t ≠ 5 ∧ ∃ v, IsBlk w g (.int .i64 (val (lf l) (8 * (l.length / 8)) (l.length % 8)) :: .int .i64 ((l.length % 8 : Nat) : Int) :: v :: rest) t ∧ w.ownsRow B 5 1 v (l.length / 8) (nums .u8 (rowOf l (l.length / 8))) := by
  obtain ⟨hl, hB, ht, n, m, v, hm, hb, ho, hle⟩ := h
  have h1 : l.length / 8 = n := by omega
  have h2 : l.length % 8 = m := by omega
  rw [h1, h2]
  exact ⟨hl, hB, ht, v, hb, ho⟩

def alignZeros (n : Nat) : Nat := (8 - n % 8) % 8
theorem align_ok {B : Nat} {w : World} {g : Nat} {t : TypeId} {rest : List Value} {l : List Nat} (h : WrSt B w g t rest l) (hl : l.length ≤ 1000000000000) :
    Calls Try.prog 48 #[.pointer (some ⟨g, 0, none⟩)] w fun e w' => e = .returned (.tuple #[]) ∧ Chg B [t, 5] w w' ∧ WrSt B w' g t rest (l ++ numBits 0 (alignZeros l.length)) := by
  obtain ⟨hl0, hB, ht, v, hb, ho⟩ := h.parts
  have h1 := hb.cell 1 rfl
  have HW := Sealed.mk h
  clear hb ho h hl0
  by_cases hz : l.length % 8 = 0
  · rw [hz] at h1
    go_enter Try.func48, Try.ntmps48
    go_wp2
    go_end0
    have e0 : alignZeros l.length = 0 := by unfold alignZeros; omega
    rw [e0]
    exact ⟨rfl, Chg.refl _ _ _, by simpa [numBits] using HW.out⟩
  · generalize hm : l.length % 8 = m at *
    have hm8 : m < 8 := by omega
    have e0 : alignZeros l.length = 8 - m := by unfold alignZeros; omega
    have hp : decide (0 < m) = true := decide_eq_true (by omega)
    rw [e0]
    have e1 : (8 : Int) - (m : Int) = ((8 - m : Nat) : Int) := by omega
    have HP := Sealed.mk (put_ok HW.out 0 (8 - m) (by omega) (Nat.two_pow_pos _) hl)
    clear hm hz e0
    go_enter Try.func48, Try.ntmps48
    go_wp2_with fail
    refine HP.out.mono ?_
    rintro e w' ⟨rfl, hc, hw⟩
    have HC := Sealed.mk hc
    have HW' := Sealed.mk hw
    clear hc hw
    go_wp2
    go_end0
    exact ⟨rfl, HC.out, HW'.out⟩

theorem len_ok {B : Nat} {w : World} {g : Nat} {t : TypeId} {rest : List Value} {l : List Nat} (h : WrSt B w g t rest l) (hl : l.length ≤ 1000000000000) :
    Calls Try.prog 24 #[.pointer (some ⟨g, 0, none⟩)] w fun e w' => e = .returned (.int .i64 l.length) ∧ ∃ n, w' = w.drewN n := by
  obtain ⟨hl0, hB, ht, v, hb, ho⟩ := h.parts
  obtain ⟨A, c, hv⟩ := own_slice ho
  subst hv
  have h1 := hb.cell 1 rfl
  have h2 := hb.cell 2 rfl
  have E1 : Sealed (8 * ((l.length / 8 : Nat) : Int) + ((l.length % 8 : Nat) : Int) = (l.length : Int)) := ⟨by omega⟩
  have b1 : l.length / 8 ≤ 1000000000000 := by omega
  have b2 : l.length % 8 ≤ 7 := by omega
  generalize l.length / 8 = q at *
  generalize l.length % 8 = m at *
  clear hb ho h hl0
  go_enter Try.func24, Try.ntmps24
  go_wp2
  go_quiet (fail)
  go_wp2
  go_ret
  rw [E1.out]
  exact ⟨rfl, _, rfl⟩

theorem val_zero : ∀ n, val (fun _ => 0) 0 n = 0
  | 0 => rfl
  | n + 1 => by rw [val, val_zero n, Nat.mul_zero]
theorem val_end (l : List Nat) {p m : Nat} (h : p + m = l.length) {n : Nat} (hn : m ≤ n) : val (lf l) p n = val (lf l) p m := by
  obtain ⟨b, rfl⟩ := Nat.exists_eq_add_of_le hn
  have hz0 : val (lf l) (p + m) b = val (fun _ => 0) 0 b := val_congr _ fun i hi => lf_past (by omega)
  rw [val_add, hz0, val_zero, Nat.mul_zero, Nat.add_zero]
theorem strOfNums_append (xs ys : List Int) : strOfNums (xs ++ ys) = strOfNums xs ++ strOfNums ys := by
  apply ByteArray.ext
  rw [ByteArray.data_append]
  simp [strOfNums]
/-- The bytes of a row of bits. -/
def textOf (l : List Nat) : ByteArray := strOfNums (rowOf l ((l.length + 7) / 8))
set_option maxRecDepth 100000 in
theorem text_ok {B : Nat} {w : World} {g : Nat} {t : TypeId} {rest : List Value} {l : List Nat} (h : WrSt B w g t rest l) (hl : l.length ≤ 1000000000000) :
    Calls Try.prog 23 #[.pointer (some ⟨g, 0, none⟩)] w fun e w' => e = .returned (.string (textOf l)) ∧ Below w.heap.size w w' := by
  obtain ⟨hl0, hB, ht, v, hb, ho⟩ := h.parts
  have hcv := run_own_string (P := Try.prog) (src := 41) (dst := 9) Try.underlying41 Try.underlying5 Try.underlying9 ho
  obtain ⟨A, c, hv⟩ := own_slice ho
  subst hv
  have h0 := hb.cell 0 rfl
  have h1 := hb.cell 1 rfl
  have h2 := hb.cell 2 rfl
  by_cases hz : l.length % 8 = 0
  · have e0 : (l.length + 7) / 8 = l.length / 8 := by omega
    have E : Sealed (textOf l = strOfNums (rowOf l (l.length / 8))) := ⟨by unfold textOf; rw [e0]⟩
    rw [hz] at h1
    generalize l.length / 8 = q at *
    clear hb ho h hl0 e0
    go_enter Try.func23, Try.ntmps23
    go_wp2
    go_ret
    rw [E.out]
    exact ⟨rfl, Below.refl _ _⟩
  · have e0 : (l.length + 7) / 8 = l.length / 8 + 1 := by omega
    have HL := Sealed.mk hl0
    have hx := val_lt hl0 (8 * (l.length / 8)) (l.length % 8)
    have e2 : val (lf l) (8 * (l.length / 8)) 8 = val (lf l) (8 * (l.length / 8)) (l.length % 8) := by
      exact val_end l (by omega) (by omega)
    have E : Sealed (textOf l = strOfNums (rowOf l (l.length / 8) ++ [((val (lf l) (8 * (l.length / 8)) (l.length % 8) : Nat) : Int)])) := ⟨by unfold textOf; rw [e0, rowOf_succ, e2]⟩
    generalize l.length / 8 = q at *
    generalize hm : l.length % 8 = m at *
    have hm8 : m < 8 := by omega
    have hp : decide (0 < m) = true := decide_eq_true (by omega)
    have z1 : ∀ x : Int, ¬ 9223372036854775807 < (strOfNums (rowOf l q)).size + (strOfNums [x]).size := fun x => by rw [strOfNums_size, strOfNums_size, rowOf_length]; simp; omega
    clear hb ho h hl0 e0 hm e2
    have hcv2 := fun x : Int => run_one_string (P := Try.prog) w (src := 41) (dst := 9) Try.underlying41 Try.underlying5 Try.underlying9 x
    go_enter Try.func23, Try.ntmps23
    go_wp2
    go_ret
    have e3 : ((val (lf l) (8 * q) m : Nat) : Int) % 256 = ((val (lf l) (8 * q) m : Nat) : Int) := by
      have : 2 ^ m ≤ 2 ^ 7 := Nat.pow_le_pow_right (by decide) (by omega)
      omega
    rw [e3, E.out, strOfNums_append]
    exact ⟨rfl, (Below.refl _ _).alloc (Nat.le_refl _) _⟩
end Go.Proofs.Ytmdlhbhdlhjakaa

namespace Go.Proofs.Ytmdlhbhdlhjakaa
open Go.RowKit

/-- What Read answers of the bits f from p on, of which there are 'lim': k lengths left from n on. -/
def readFrom (ls : List Int) (f : Nat → Nat) (lim : Nat) : Nat → Nat → Nat → Int → Int → Nat → Int × Int × Nat
  | 0, _, p, _, _, _ => (0, 4, p)
  | k + 1, n, p, code, first, at_ =>
    if lim ≤ p then (0, 5, p)
    else
      let code' := 2 * code + (f p : Int)
      let first' := first * 2
      let m := (cnt0 ls).getD n 0
      if m ≤ code' - first' then readFrom ls f lim k (n + 1) (p + 1) code' (first' + m) (at_ + m.toNat)
      else ((symsOf ls).getD (at_ + (code' - first').toNat) 0, 0, p + 1)
def readOf (ls : List Int) (f : Nat → Nat) (lim : Nat) (p : Nat) : Int × Int × Nat := readFrom ls f lim (longOf ls).toNat 1 p 0 0 0

theorem idxPart_len {ls : List Int} (ha : ls.all lenOk = true) {n : Nat} (hn : n ≤ 15) : ∀ k, k ≤ ls.length → ((idxPart ls (n : Int) k).length : Int) = (cntsOf (ls.take k)).getD n 0
  | 0, _ => by
    have : (cntsOf []).getD n 0 = 0 := by
      simp only [cntsOf, List.foldl_nil, zeros16, List.getD_eq_getElem?_getD, List.getElem?_replicate]
      split <;> rfl
    simpa [idxPart] using this.symm
  | k + 1, h => by
    have ih := idxPart_len ha hn k (by omega)
    have hok : lenOk (ls.getD k 0) = true := (List.all_eq_true.1 ha) _ (by rw [List.getD_eq_getElem?_getD, List.getElem?_eq_getElem (by omega)]; simp)
    have hx0 : 0 ≤ ls.getD k 0 ∧ ls.getD k 0 ≤ 15 := by simpa [lenOk] using hok
    rw [take_snoc (by omega), cntsOf_snoc]
    have hl := cntsOf_len (ls.take k)
    by_cases he : ls.getD k 0 = (n : Int)
    · rw [idxPart_yes he, List.length_append]
      have : (cntStep (cntsOf (ls.take k)) (ls.getD k 0)).getD n 0 = (cntsOf (ls.take k)).getD n 0 + 1 := by
        have e : (ls.getD k 0).toNat = n := by rw [he]; simp
        unfold cntStep
        rw [e]
        have hl' : n < (cntsOf (ls.take k)).length := by rw [hl]; omega
        simp [List.getD_eq_getElem?_getD, List.getElem?_set, hl']
      rw [this, ← ih]
      simp
    · rw [idxPart_no he]
      have : (cntStep (cntsOf (ls.take k)) (ls.getD k 0)).getD n 0 = (cntsOf (ls.take k)).getD n 0 := by
        have e : (ls.getD k 0).toNat ≠ n := by omega
        unfold cntStep
        generalize (ls.getD k 0).toNat = j at *
        simp only [List.getD_eq_getElem?_getD, List.getElem?_set, if_neg e]
      rw [this, ← ih]
theorem cnt0_get (ls : List Int) {n : Nat} (h : 1 ≤ n) : (cnt0 ls).getD n 0 = (cntsOf ls).getD n 0 := by
  simp only [cnt0, List.getD_eq_getElem?_getD, List.getElem?_set]
  rw [if_neg (by omega)]
theorem idxOf_len {ls : List Int} (ha : ls.all lenOk = true) {n : Nat} (h1 : 1 ≤ n) (hn : n ≤ 15) : ((idxOf ls (n : Int)).length : Int) = (cnt0 ls).getD n 0 := by
  rw [cnt0_get _ h1, idxOf, idxPart_len ha hn _ (Nat.le_refl _), List.take_length]
theorem symsUpto_mono (ls : List Int) {n m : Nat} (h : n ≤ m) : (symsUpto ls n).length ≤ (symsUpto ls m).length := by
  induction h with
  | refl => exact Nat.le_refl _
  | step _ ih => rw [symsUpto, List.length_append]; omega
theorem longUpto_le (ls : List Int) : ∀ n, 0 ≤ longUpto ls n ∧ longUpto ls n ≤ n
  | 0 => by simp [longUpto]
  | n + 1 => by
    have h := longUpto_le ls n
    rw [longUpto]
    split <;> omega

theorem get1_ok {w : World} {g : Nat} {s : ByteArray} {p : Nat} (h : RdSt w g s p) (hs : s.size ≤ 140737488355328) (hlt : p < 8 * s.size) :
    Calls Try.prog 44 #[.pointer (some ⟨g, 0, none⟩), .int .i64 1] w fun e w' => e = .returned (.tuple #[.int .i64 (bit s p), .int .i64 0]) ∧ Chg g [73] w w' ∧ RdSt w' g s (p + 1) := by
  have h1 := get_ok h hs 1 (by omega) (by omega)
  rw [val_one] at h1
  exact h1
theorem get1_short {w : World} {g : Nat} {s : ByteArray} {p : Nat} (h : RdSt w g s p) (hs : s.size ≤ 140737488355328) (hlt : 8 * s.size ≤ p) :
    Calls Try.prog 44 #[.pointer (some ⟨g, 0, none⟩), .int .i64 1] w fun e w' => e = .returned (.tuple #[.int .i64 0, .int .i64 5]) ∧ Chg g [73] w w' ∧ RdSt w' g s p :=
  get_short h hs 1 (by omega) (by omega)

set_option maxRecDepth 100000 in
set_option maxHeartbeats 1000000 in
theorem read_any {B : Nat} {w : World} {gt gr : Nat} {ls : List Int} {s : ByteArray} {p : Nat} (ht : TrSt B w gt ls) (hr : RdSt w gr s p) (hs : s.size ≤ 140737488355328) (hn : ls.length ≤ 320) (ha : ls.all lenOk = true) :
    Calls Try.prog 19 #[.pointer (some ⟨gt, 0, none⟩), .pointer (some ⟨gr, 0, none⟩)] w fun e w' => e = .returned (.tuple #[.int .i64 (readOf ls (bit s) (8 * s.size) p).1, .int .i64 (readOf ls (bit s) (8 * s.size) p).2.1]) ∧
      RdSt w' gr s (readOf ls (bit s) (8 * s.size) p).2.2 ∧ Chg gr [73] w w' := by
  have HT := Sealed.mk ht
  have HRd := Sealed.mk hr
  have HA := Sealed.mk ha
  have HCo := Sealed.mk (cnt0_ok hn)
  obtain ⟨R, hR⟩ : ∃ R, R = readOf ls (bit s) (8 * s.size) p := ⟨_, rfl⟩
  rw [← hR]
  have HR := Sealed.mk hR
  have hlong := longUpto_le ls 15
  obtain ⟨L, hL⟩ : ∃ L : Nat, longOf ls = (L : Int) := ⟨(longOf ls).toNat, by unfold longOf; omega⟩
  have hL15 : L ≤ 15 := by unfold longOf at hL; omega
  have HL := Sealed.mk hL
  clear ht hr ha hR hlong hL
  go_enter Try.func19, Try.ntmps19
  go_wp2
  go_step3
  go_wp2
  go_step3
  go_wp2
  go_loopg [6, 7, 8, 9] L (fun k s6 s7 s8 s9 w' => ∃ (n q a : Nat) (c f : Int), s6 = .int .i64 c ∧ s7 = .int .i64 f ∧ s8 = .int .i64 a ∧ s9 = .int .i64 n ∧ Sealed (n + k = L + 1) ∧ 1 ≤ n ∧ n ≤ 16 ∧ 0 ≤ f ∧ f ≤ c ∧ Sealed (c < 2 ^ (n - 1)) ∧ Sealed (a = (symsUpto ls (n - 1)).length) ∧ Sealed (RdSt w' gr s q) ∧ Sealed (Chg gr [73] w w') ∧ Sealed (readFrom ls (bit s) (8 * s.size) k n q c f a = R))
  case atStart =>
    refine ⟨1, p, 0, 0, 0, rfl, rfl, rfl, rfl, ⟨by omega⟩, by omega, by omega, by omega, by omega, ⟨by decide⟩, ⟨rfl⟩, HRd, ⟨Chg.refl _ _ _⟩, ⟨?_⟩⟩
    rw [HR.out, readOf, HL.out]; rfl
  case round =>
    obtain ⟨n, q, a, c, f, rfl, rfl, rfl, rfl, HK, hn1, hn16, hf0, hfc, HC2, HAA, HQ, HC, HE⟩ := hrel
    have hts := HT.out.chg HC.out (by decide) (by decide)
    obtain ⟨hB, v0, v1, v2, hb, o0, o1, o2⟩ := hts
    have hlen16 : (cnt0 ls).length = 16 := HCo.out.1
    have h19 := hb.cell 19 (tl19 hlen16)
    rw [HL.out] at h19
    cases gk with
    | zero =>
      have hd : decide (n ≤ L) = false := decide_eq_false (by have := HK.out; omega)
      have he := HE.out
      simp only [readFrom] at he
      have HE2 := Sealed.mk he
      clear he hb o0 o1 o2 hlen16
      go_wp2
      rw [Exit.noGoto_ret]
      go_ret2
      rw [← HE2.out]
      exact ⟨rfl, HQ.out, HC.out⟩
    | succ k =>
      have hnL : n ≤ L := by have := HK.out; omega
      have hd : decide (n ≤ L) = true := decide_eq_true hnL
      by_cases hq : 8 * s.size ≤ q
      · have he := HE.out
        rw [readFrom, if_pos hq] at he
        have HE2 := Sealed.mk he
        clear he hb o0 o1 o2 hlen16
        go_wp2_with (go_at_call 44; refine (get1_short HQ.out hs hq).mono ?_; rintro e w1 ⟨rfl, hc1, hq1⟩; have HC1 := Sealed.mk hc1; have HQ1 := Sealed.mk hq1; clear hc1 hq1)
        rw [Exit.noGoto_ret]
        go_ret2
        rw [← HE2.out]
        exact ⟨rfl, HQ1.out, HC.out.trans HC1.out⟩
      · have hq' : q < 8 * s.size := by omega
        have he := HE.out
        rw [readFrom, if_neg hq] at he
        have hbq := bit_le s q
        obtain ⟨b, hbe⟩ : ∃ b, b = bit s q := ⟨_, rfl⟩
        obtain ⟨m, hme⟩ : ∃ m, m = (cnt0 ls).getD n 0 := ⟨_, rfl⟩
        have hn15 : n ≤ 15 := by omega
        have hlm := idxOf_len HA.out hn1 hn15
        rw [← hme] at hlm
        rw [← hbe, ← hme] at he
        have hmb := HCo.out.2 n
        rw [← hme] at hmb
        have hm0 := hmb.1
        have hm1 := hmb.2
        have hsy : (symsUpto ls n).length = a + m.toNat := by
          obtain ⟨n', rfl⟩ : ∃ n', n = n' + 1 := ⟨n - 1, by omega⟩
          rw [symsUpto, List.length_append, HAA.out]
          simp only [Nat.add_sub_cancel]
          omega
        have hsl := symsUpto_mono ls hn15
        have hsb := symsUpto_le ls 15
        have hsb2 : (symsUpto ls 15).length ≤ 5000 := by have : 15 * ls.length ≤ 15 * 320 := Nat.mul_le_mul (Nat.le_refl _) hn; omega
        have ha5 : a ≤ 5000 := by omega
        have hp2 : (2 : Int) ^ (n - 1) ≤ 2 ^ 14 := by
          have : (2 : Nat) ^ (n - 1) ≤ 2 ^ 14 := Nat.pow_le_pow_right (by decide) (by omega)
          exact_mod_cast this
        have hc14 : c < 16384 := by have := HC2.out; omega
        have hcb : 2 * c + (b : Int) < 2 ^ n := by
          have e : (2 : Int) ^ n = 2 * 2 ^ (n - 1) := by
            have : n = (n - 1) + 1 := by omega
            rw [this, Int.pow_succ, Nat.add_sub_cancel, Int.mul_comm]
          have := HC2.out
          rw [e]; omega
        have hx := hb.cell (n + 2) (tlx hlen16 (show n < 16 by omega))
        rw [← hme] at hx
        have HX := Sealed.mk hx
        have HTB : Sealed (TrSt B wr gt ls) := ⟨hB, v0, v1, v2, hb, o0, o1, o2⟩
        have hb1 : b ≤ 1 := by omega
        have HBE := Sealed.mk hbe
        have HSY := Sealed.mk hsy
        have HSL := Sealed.mk hsl
        have HCB := Sealed.mk hcb
        have HME := Sealed.mk hme
        have HE1 := Sealed.mk he
        clear hlm hmb hsy hsl hsb hsb2 hp2 hcb hx hbe hme he hb o0 o1 o2 hbq hq HE
        by_cases hm : m ≤ (2 * c + (b : Int)) - f * 2
        · have he := HE1.out
          simp only [if_pos hm] at he
          have HE2 := Sealed.mk he
          have hd2 : decide (m ≤ (2 * c + (b : Int)) - f * 2) = true := decide_eq_true hm
          clear he HE1
          go_wp2_with (go_at_call 44; refine (get1_ok HQ.out hs hq').mono ?_; rw [← HBE.out]; rintro e w1 ⟨rfl, hc1, hq1⟩; have ht1 := HTB.out.chg hc1 (by decide) (by decide); have HC1 := Sealed.mk hc1; have HQ1 := Sealed.mk hq1; obtain ⟨hB1, u0, u1, u2, tb, p0, p1, p2⟩ := ht1; have y19 := tb.cell 19 (tl19 hlen16); have yx : w1.cell? ⟨gt, 2 + n, none⟩ = some (.int .i64 m) := (by rw [HME.out, Nat.add_comm]; exact tb.cell (n + 2) (tlx hlen16 (show n < 16 by omega))); clear hc1 hq1 p0 p1 p2)
          go_roundg k
          case measure => omega
          case rel =>
            have hc2 := HCB.out
            refine ⟨n + 1, q + 1, a + m.toNat, 2 * c + (b : Int), f * 2 + m, rfl, rfl, by go_num, by go_num, ⟨by have := HK.out; omega⟩, by omega, by omega, by omega, by omega, ⟨hc2⟩, ⟨HSY.out.symm⟩, HQ1, ⟨HC.out.trans HC1.out⟩, HE2⟩
        · have he := HE1.out
          simp only [if_neg hm] at he
          have HE2 := Sealed.mk he
          have hd2 : decide (m ≤ (2 * c + (b : Int)) - f * 2) = false := decide_eq_false hm
          clear he HE1
          obtain ⟨hB2, v0', v1', v2', tb0, q0, q1, q2⟩ := HTB.out
          have hidx : a + ((2 * c + (b : Int)) - f * 2).toNat < (symsOf ls).length := by
            have h1 := HSY.out
            have h2 := HSL.out
            unfold symsOf
            omega
          obtain ⟨ad, c2, hv2⟩ := own_some q2 (by omega)
          subst hv2
          have TB0 := Sealed.mk tb0
          have Q2 := Sealed.mk q2
          obtain ⟨idx, hie⟩ : ∃ idx, idx = a + ((2 * c + (b : Int)) - f * 2).toNat := ⟨_, rfl⟩
          rw [← hie] at hidx
          have HIE := Sealed.mk hie
          have hi2 : (a : Int) + (2 * c + (b : Int)) - f * 2 = (idx : Int) := by omega
          have hi3 : (idx : Int) < ((symsOf ls).length : Int) := by omega
          obtain ⟨y, hy⟩ : ∃ y, y = (symsOf ls).getD idx 0 := ⟨_, rfl⟩
          have HY := Sealed.mk hy
          have HE3 : Sealed ((y, 0, q + 1) = R) := ⟨by rw [hy, hie]; exact HE2.out⟩
          clear tb0 q0 q1 q2 hie hy
          go_wp2_with (go_at_call 44; refine (get1_ok HQ.out hs hq').mono ?_; rw [← HBE.out]; rintro e w1 ⟨rfl, hc1, hq1⟩; have HC1 := Sealed.mk hc1; have HQ1 := Sealed.mk hq1; have y18 := (TB0.out.chg hc1 (.inr (by decide))).cell 18 (tl18 hlen16); have yx : w1.cell? ⟨gt, 2 + n, none⟩ = some (.int .i64 m) := (by rw [HME.out, Nat.add_comm]; exact (TB0.out.chg hc1 (.inr (by decide))).cell (n + 2) (tlx hlen16 (show n < 16 by omega))); have hcx := own_cell (owns_chg Q2.out hc1 (by decide)) hidx; rw [← HY.out] at hcx; clear hc1 hq1)
          rw [Exit.noGoto_ret]
          go_ret2
          rw [← HE3.out]
          exact ⟨rfl, HQ1.out, HC.out.trans HC1.out⟩
end Go.Proofs.Ytmdlhbhdlhjakaa
