/- The contracts of package bitrow's writer: Align, Len, Text. -/
import Derived.Test.YtmdlhbhdlhjakaaWriter
set_option linter.unusedVariables false
set_option linter.unusedSimpArgs false
namespace Go.Proofs.Ytmdlhbhdlhjakaa
open Go.RowKit

theorem WrSt.parts {B : Nat} {w : World} {g : Nat} {t : TypeId} {rest : List Value} {l : List Nat} (h : WrSt B w g t rest l) :
    IsBits (lf l) ∧ B ≤ g ∧ t ≠ 5 ∧ ∃ v, IsBlk w g (.int .i64 (val (lf l) (8 * (l.length / 8)) (l.length % 8)) :: .int .i64 ((l.length % 8 : Nat) : Int) :: v :: rest) t ∧ w.ownsRow B 5 1 v (l.length / 8) (nums .u8 (rowOf l (l.length / 8))) := by
  obtain ⟨hl, hB, ht, n, m, v, hm, hb, ho, hle⟩ := h
  have h1 : l.length / 8 = n := by omega
  have h2 : l.length % 8 = m := by omega
  rw [h1, h2]
  exact ⟨hl, hB, ht, v, hb, ho⟩

def alignZeros (n : Nat) : Nat := (8 - n % 8) % 8
theorem align_ok {B : Nat} {w : World} {g : Nat} {t : TypeId} {rest : List Value} {l : List Nat} (h : WrSt B w g t rest l) (hl : l.length ≤ 1000000000000) :
    Calls Try.prog 48 #[.pointer (some ⟨g, 0, none⟩)] w fun e w' => e = .returned (.tuple #[]) ∧ Chg B [t, 5] w w' ∧ WrSt B w' g t rest (l ++ numBits 0 (alignZeros l.length)) := by
  obtain ⟨hl0, hB, ht, v, hb, ho⟩ := h.parts
  have h1 := hb.cell 1 rfl
  have HW := Sealed.mk h
  clear hb ho h hl0
  by_cases hz : l.length % 8 = 0
  · rw [hz] at h1
    go_enter Try.func48, Try.ntmps48
    go_wp2
    go_end0
    have e0 : alignZeros l.length = 0 := by unfold alignZeros; omega
    rw [e0]
    exact ⟨rfl, Chg.refl _ _ _, by simpa [numBits] using HW.out⟩
  · generalize hm : l.length % 8 = m at *
    have hm8 : m < 8 := by omega
    have e0 : alignZeros l.length = 8 - m := by unfold alignZeros; omega
    have hp : decide (0 < m) = true := decide_eq_true (by omega)
    rw [e0]
    have e1 : (8 : Int) - (m : Int) = ((8 - m : Nat) : Int) := by omega
    have HP := Sealed.mk (put_ok HW.out 0 (8 - m) (by omega) (Nat.two_pow_pos _) hl)
    clear hm hz e0
    go_enter Try.func48, Try.ntmps48
    go_wp2_with fail
    refine HP.out.mono ?_
    rintro e w' ⟨rfl, hc, hw⟩
    have HC := Sealed.mk hc
    have HW' := Sealed.mk hw
    clear hc hw
    go_wp2
    go_end0
    exact ⟨rfl, HC.out, HW'.out⟩

theorem len_ok {B : Nat} {w : World} {g : Nat} {t : TypeId} {rest : List Value} {l : List Nat} (h : WrSt B w g t rest l) (hl : l.length ≤ 1000000000000) :
    Calls Try.prog 24 #[.pointer (some ⟨g, 0, none⟩)] w fun e w' => e = .returned (.int .i64 l.length) ∧ ∃ n, w' = w.drewN n := by
  obtain ⟨hl0, hB, ht, v, hb, ho⟩ := h.parts
  obtain ⟨A, c, hv⟩ := own_slice ho
  subst hv
  have h1 := hb.cell 1 rfl
  have h2 := hb.cell 2 rfl
  have E1 : Sealed (8 * ((l.length / 8 : Nat) : Int) + ((l.length % 8 : Nat) : Int) = (l.length : Int)) := ⟨by omega⟩
  have b1 : l.length / 8 ≤ 1000000000000 := by omega
  have b2 : l.length % 8 ≤ 7 := by omega
  generalize l.length / 8 = q at *
  generalize l.length % 8 = m at *
  clear hb ho h hl0
  go_enter Try.func24, Try.ntmps24
  go_wp2
  go_quiet (fail)
  go_wp2
  go_ret
  rw [E1.out]
  exact ⟨rfl, _, rfl⟩

theorem val_zero : ∀ n, val (fun _ => 0) 0 n = 0
  | 0 => rfl
  | n + 1 => by rw [val, val_zero n, Nat.mul_zero]
theorem val_end (l : List Nat) {p m : Nat} (h : p + m = l.length) {n : Nat} (hn : m ≤ n) : val (lf l) p n = val (lf l) p m := by
  obtain ⟨b, rfl⟩ := Nat.exists_eq_add_of_le hn
  have hz0 : val (lf l) (p + m) b = val (fun _ => 0) 0 b := val_congr _ fun i hi => lf_past (by omega)
  rw [val_add, hz0, val_zero, Nat.mul_zero, Nat.add_zero]
theorem strOfNums_append (xs ys : List Int) : strOfNums (xs ++ ys) = strOfNums xs ++ strOfNums ys := by
  apply ByteArray.ext
  rw [ByteArray.data_append]
  simp [strOfNums]
/-- The bytes of a row of bits. -/
def textOf (l : List Nat) : ByteArray := strOfNums (rowOf l ((l.length + 7) / 8))
set_option maxRecDepth 100000 in
theorem text_ok {B : Nat} {w : World} {g : Nat} {t : TypeId} {rest : List Value} {l : List Nat} (h : WrSt B w g t rest l) (hl : l.length ≤ 1000000000000) :
    Calls Try.prog 23 #[.pointer (some ⟨g, 0, none⟩)] w fun e w' => e = .returned (.string (textOf l)) ∧ Below w.heap.size w w' := by
  obtain ⟨hl0, hB, ht, v, hb, ho⟩ := h.parts
  have hcv := run_own_string (P := Try.prog) (src := 41) (dst := 9) Try.underlying41 Try.underlying5 Try.underlying9 ho
  obtain ⟨A, c, hv⟩ := own_slice ho
  subst hv
  have h0 := hb.cell 0 rfl
  have h1 := hb.cell 1 rfl
  have h2 := hb.cell 2 rfl
  by_cases hz : l.length % 8 = 0
  · have e0 : (l.length + 7) / 8 = l.length / 8 := by omega
    have E : Sealed (textOf l = strOfNums (rowOf l (l.length / 8))) := ⟨by unfold textOf; rw [e0]⟩
    rw [hz] at h1
    generalize l.length / 8 = q at *
    clear hb ho h hl0 e0
    go_enter Try.func23, Try.ntmps23
    go_wp2
    go_ret
    rw [E.out]
    exact ⟨rfl, Below.refl _ _⟩
  · have e0 : (l.length + 7) / 8 = l.length / 8 + 1 := by omega
    have HL := Sealed.mk hl0
    have hx := val_lt hl0 (8 * (l.length / 8)) (l.length % 8)
    have e2 : val (lf l) (8 * (l.length / 8)) 8 = val (lf l) (8 * (l.length / 8)) (l.length % 8) := by
      exact val_end l (by omega) (by omega)
    have E : Sealed (textOf l = strOfNums (rowOf l (l.length / 8) ++ [((val (lf l) (8 * (l.length / 8)) (l.length % 8) : Nat) : Int)])) := ⟨by unfold textOf; rw [e0, rowOf_succ, e2]⟩
    generalize l.length / 8 = q at *
    generalize hm : l.length % 8 = m at *
    have hm8 : m < 8 := by omega
    have hp : decide (0 < m) = true := decide_eq_true (by omega)
    have z1 : ∀ x : Int, ¬ 9223372036854775807 < (strOfNums (rowOf l q)).size + (strOfNums [x]).size := fun x => by rw [strOfNums_size, strOfNums_size, rowOf_length]; simp; omega
    clear hb ho h hl0 e0 hm e2
    have hcv2 := fun x : Int => run_one_string (P := Try.prog) w (src := 41) (dst := 9) Try.underlying41 Try.underlying5 Try.underlying9 x
    go_enter Try.func23, Try.ntmps23
    go_wp2
    go_ret
    have e3 : ((val (lf l) (8 * q) m : Nat) : Int) % 256 = ((val (lf l) (8 * q) m : Nat) : Int) := by
      have : 2 ^ m ≤ 2 ^ 7 := Nat.pow_le_pow_right (by decide) (by omega)
      omega
    rw [e3, E.out, strOfNums_append]
    exact ⟨rfl, (Below.refl _ _).alloc (Nat.le_refl _) _⟩
end Go.Proofs.Ytmdlhbhdlhjakaa
