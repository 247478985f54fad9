/- The contracts of package bitrow's reader. The contracts of package bitrow's writer. -/
import Derived.Test.YtmdlhbhdlhjakaaM01
import Derived.Test.YtmdlhbhdlhjakaaM02
set_option linter.unusedVariables false
set_option linter.unusedSimpArgs false
namespace Go.Proofs.Ytmdlhbhdlhjakaa
open Go.RowKit

theorem ret_int {k : IntKind} {a b : Int} (h : a = b) : Ending.returned (.int k a) = .returned (.int k b) := by rw [h]
theorem ret_bool {a b : Bool} (h : a = b) : Ending.returned (.bool a) = .returned (.bool b) := by rw [h]

theorem fits_any (n : Int) (w : World) : Calls Try.prog 77 #[.int .i64 n] w fun e w' => e = .returned (.bool (decide (0 ≤ n) && decide (n ≤ 16))) ∧ w = w' := by
  go_enter Try.func77, Try.ntmps77
  by_cases h : 0 ≤ n
  · go_wp2
    go_ret
    exact ⟨by simp [h], rfl⟩
  · go_wp2
    go_ret
    exact ⟨by simp; omega, rfl⟩

theorem fits_yes (n : Int) (w : World) (h0 : 0 ≤ n) (h1 : n ≤ 16) : Calls Try.prog 77 #[.int .i64 n] w fun e w' => e = .returned (.bool true) ∧ w = w' :=
  (fits_any n w).mono fun e w' h => ⟨by rw [h.1]; simp [h0, h1], h.2⟩

/-- come: the number n stands above the m bits that are there. -/
theorem come_any {w : World} {g t : Nat} {b m n d : Nat} {rest : List Value} (hb : IsBlk w g (.int .i64 b :: .int .i64 m :: rest) t) (hlt : b < 2 ^ m) (hn : b + n * 2 ^ m < 2 ^ 62) (hm : m ≤ 60) (hd : d ≤ 60) :
    Calls Try.prog 78 #[.pointer (some ⟨g, 0, none⟩), .int .i64 n, .int .i64 d] w fun e w' => e = .returned (.tuple #[]) ∧
      IsBlk w' g (.int .i64 ((b + n * 2 ^ m : Nat) : Int) :: .int .i64 ((m + d : Nat) : Int) :: rest) t ∧ Chg g [t] w w' := by
  have h0 := hb.cell 0 rfl
  have h1 := hb.cell 1 rfl
  have f0 := hb.free 0
  have f1 := hb.free 1
  have hB := Sealed.mk hb
  have e1 : wrap64 ((n : Int) * 2 ^ (m : Int).toNat) = ((n * 2 ^ m : Nat) : Int) := by
    have e0 : (n : Int) * 2 ^ (m : Int).toNat = ((n * 2 ^ m : Nat) : Int) := by simp
    rw [e0]
    exact wrap64_small (by omega) (by omega)
  have e2 : bits .or .i64 (b : Int) (wrap64 ((n : Int) * 2 ^ (m : Int).toNat)) = ((b + n * 2 ^ m : Nat) : Int) := by rw [e1]; exact bits_or_add b n m hlt hn (by omega)
  have E2 := Sealed.mk e2
  clear e1 e2 hb
  go_enter Try.func78, Try.ntmps78
  go_wp2
  go_region
  go_wp2
  go_end0
  have e2 := E2.out
  simp only [Int.toNat_natCast] at e2
  rw [e2, show (m : Int) + (d : Int) = ((m + d : Nat) : Int) by omega]
  exact ⟨rfl, ((hB.out.set 0 _).set 1 _).drew,
    (((Chg.refl g [t] w).set hB.out (Nat.le_refl _) (by simp) 0 _).set (hB.out.set 0 _) (Nat.le_refl _) (by simp) 1 _).drew⟩

theorem come8 {w : World} {g t : Nat} {b m n : Nat} {rest : List Value} (hb : IsBlk w g (.int .i64 b :: .int .i64 m :: rest) t) (hlt : b < 2 ^ m) (hn : n < 256) (hm : m ≤ 50) :
    Calls Try.prog 78 #[.pointer (some ⟨g, 0, none⟩), .int .i64 n, .int .i64 8] w fun e w' => e = .returned (.tuple #[]) ∧
      IsBlk w' g (.int .i64 ((b + n * 2 ^ m : Nat) : Int) :: .int .i64 ((m + 8 : Nat) : Int) :: rest) t ∧ Chg g [t] w w' := by
  have hp : 2 ^ m ≤ 2 ^ 50 := Nat.pow_le_pow_right (by decide) hm
  have hq : n * 2 ^ m ≤ 255 * 2 ^ 50 := Nat.mul_le_mul (by omega) hp
  exact come_any hb hlt (d := 8) (by omega) (by omega) (by omega)

/-- take: the d lowest bits are taken. -/
theorem take_any {w : World} {g t : Nat} {b m d : Nat} {rest : List Value} (hb : IsBlk w g (.int .i64 b :: .int .i64 m :: rest) t) (hlt : b < 2 ^ 60) (hm : m ≤ 60) (hd : d ≤ m) :
    Calls Try.prog 79 #[.pointer (some ⟨g, 0, none⟩), .int .i64 d] w fun e w' => e = .returned (.int .i64 ((b % 2 ^ d : Nat) : Int)) ∧
      IsBlk w' g (.int .i64 ((b / 2 ^ d : Nat) : Int) :: .int .i64 ((m - d : Nat) : Int) :: rest) t ∧ Chg g [t] w w' := by
  have h0 := hb.cell 0 rfl
  have h1 := hb.cell 1 rfl
  have f0 := hb.free 0
  have f1 := hb.free 1
  have hB := Sealed.mk hb
  have hp : 2 ^ d ≤ 2 ^ 60 := Nat.pow_le_pow_right (by decide) (by omega)
  have hp0 := Nat.two_pow_pos d
  have e1 : wrap64 (wrap64 ((2 : Int) ^ (d : Int).toNat) - 1) = ((2 ^ d - 1 : Nat) : Int) := by
    have e0 : (2 : Int) ^ (d : Int).toNat = ((2 ^ d : Nat) : Int) := by simp
    rw [e0, wrap64_small (n := ((2 ^ d : Nat) : Int)) (by omega) (by omega), wrap64_small (by omega) (by omega)]
    omega
  have E2 : Sealed (bits .and .i64 (b : Int) (wrap64 (wrap64 ((2 : Int) ^ (d : Int).toNat) - 1)) = ((b % 2 ^ d : Nat) : Int)) := ⟨by rw [e1]; exact bits_and_mask b d (by omega) (by omega)⟩
  have E3 : Sealed ((b : Int) / 2 ^ (d : Int).toNat = ((b / 2 ^ d : Nat) : Int)) := ⟨by simp⟩
  clear e1 hb hp hp0
  go_enter Try.func79, Try.ntmps79
  go_wp2
  go_region
  go_wp2
  go_ret
  have e2 := E2.out
  have e3 := E3.out
  simp only [Int.toNat_natCast] at e2 e3
  rw [e3, e2]
  have e4 : (m : Int) - (d : Int) = ((m - d : Nat) : Int) := by omega
  rw [e4]
  exact ⟨rfl, ((hB.out.set 0 _).set 1 _).drew, (((Chg.refl g [t] w).set hB.out (Nat.le_refl _) (by simp) 0 _).set (hB.out.set 0 _) (Nat.le_refl _) (by simp) 1 _).drew⟩

theorem take8 {w : World} {g t : Nat} {b m : Nat} {rest : List Value} (hb : IsBlk w g (.int .i64 b :: .int .i64 m :: rest) t) (hlt : b < 2 ^ 60) (hm : m ≤ 60) (hd : 8 ≤ m) :
    Calls Try.prog 79 #[.pointer (some ⟨g, 0, none⟩), .int .i64 8] w fun e w' => e = .returned (.int .i64 ((b % 256 : Nat) : Int)) ∧
      IsBlk w' g (.int .i64 ((b / 256 : Nat) : Int) :: .int .i64 ((m - 8 : Nat) : Int) :: rest) t ∧ Chg g [t] w w' :=
  take_any hb hlt hm (d := 8) hd

/-! ### The reader -/
/-- Of the reader at block g of the bytes s, p bits were read. -/
def RdSt (w : World) (g : Nat) (s : ByteArray) (p : Nat) : Prop :=
  ∃ m at_ : Nat, IsBlk w g [.int .i64 (val (bit s) p m), .int .i64 m, .string s, .int .i64 at_] 73 ∧ m ≤ 7 ∧ 8 * at_ = p + m ∧ at_ ≤ s.size
theorem RdSt.blk {w : World} {g : Nat} {s : ByteArray} {p : Nat} (h : RdSt w g s p) : ∃ cs, IsBlk w g cs 73 := by obtain ⟨m, a, h, _⟩ := h; exact ⟨_, h⟩
theorem RdSt.chg {w w' : World} {g B : Nat} {T : List TypeId} {s : ByteArray} {p : Nat} (h : RdSt w g s p) (hc : Chg B T w w') (hn : g < B ∨ 73 ∉ T) : RdSt w' g s p := by
  obtain ⟨m, a, h, r⟩ := h; exact ⟨m, a, h.chg hc hn, r⟩
theorem RdSt.le {w : World} {g : Nat} {s : ByteArray} {p : Nat} (h : RdSt w g s p) : p ≤ 8 * s.size := by obtain ⟨m, a, h, h1, h2, h3⟩ := h; omega

theorem newReader_any (s : ByteArray) (w : World) : Calls Try.prog 17 #[.string s] w fun e w' => e = .returned (.pointer (some ⟨w.heap.size, 0, none⟩)) ∧ RdSt w' w.heap.size s 0 ∧ Below w.heap.size w w' ∧ w.heap.size < w'.heap.size := by
  go_enter Try.func17, Try.ntmps17
  go_wp2
  go_ret
  exact ⟨rfl, ⟨0, 0, IsBlk.new w _ _, by omega, by omega, by omega⟩, (Below.refl _ _).alloc (Nat.le_refl _) _, by simp⟩

theorem get_short {w : World} {g : Nat} {s : ByteArray} {p : Nat} (h : RdSt w g s p) (hs : s.size ≤ 140737488355328) (d : Nat) (hd : d ≤ 16) (hlt : 8 * s.size < p + d) :
    Calls Try.prog 44 #[.pointer (some ⟨g, 0, none⟩), .int .i64 d] w fun e w' => e = .returned (.tuple #[.int .i64 0, .int .i64 5]) ∧ Chg g [73] w w' ∧ RdSt w' g s p := by
  obtain ⟨m, a, hb, hm, ha, has⟩ := h
  have h0 := hb.cell 0 rfl
  have h1 := hb.cell 1 rfl
  have h2 := hb.cell 2 rfl
  have h3 := hb.cell 3 rfl
  have hB := Sealed.mk hb
  clear hb
  have HA := Sealed.mk ha
  have ht : 8 * ((s.size : Int) - (a : Int)) < (d : Int) - (m : Int) := by omega
  clear ha
  go_enter Try.func44, Try.ntmps44
  go_wp2_with (go_at_call 77; refine (fits_yes _ _ (by omega) (by omega)).mono ?_; rintro e w' ⟨rfl, rfl⟩)
  go_quiet (fail)
  go_wp2
  go_ret2
  exact ⟨rfl, (Chg.refl _ _ w).drewN _, m, a, hB.out.drewN _, hm, HA.out, has⟩

set_option maxRecDepth 100000 in
set_option maxHeartbeats 1000000 in
theorem get_ok {w : World} {g : Nat} {s : ByteArray} {p : Nat} (h : RdSt w g s p) (hs : s.size ≤ 140737488355328) (d : Nat) (hd : d ≤ 16) (hlt : p + d ≤ 8 * s.size) :
    Calls Try.prog 44 #[.pointer (some ⟨g, 0, none⟩), .int .i64 d] w fun e w' => e = .returned (.tuple #[.int .i64 (val (bit s) p d), .int .i64 0]) ∧ Chg g [73] w w' ∧ RdSt w' g s (p + d) := by
  obtain ⟨m, a, hb, hm, ha, has⟩ := h
  have h0 := hb.cell 0 rfl
  have h1 := hb.cell 1 rfl
  have h2 := hb.cell 2 rfl
  have h3 := hb.cell 3 rfl
  have hB := Sealed.mk hb
  clear hb
  have HA := Sealed.mk ha
  have ht : decide (8 * ((s.size : Int) - (a : Int)) < (d : Int) - (m : Int)) = false := decide_eq_false (by omega)
  clear ha
  go_enter Try.func44, Try.ntmps44
  go_wp2_with (go_at_call 77; refine (fits_yes _ _ (by omega) (by omega)).mono ?_; rintro e w' ⟨rfl, rfl⟩)
  go_quiet (fail)
  go_wp2
  go_loopg [] (s.size - a) (fun k w' => ∃ m' a' : Nat, Sealed (IsBlk w' g [.int .i64 (val (bit s) p m'), .int .i64 m', .string s, .int .i64 a'] 73) ∧ Sealed (m' < d + 8 ∨ m' ≤ 7) ∧ Sealed (8 * a' = p + m') ∧ a' ≤ s.size ∧ Sealed (k = s.size - a') ∧ Sealed (Chg g [73] w w'))
  case atStart => exact ⟨m, a, ⟨hB.out.drewN _⟩, ⟨by omega⟩, HA, has, ⟨rfl⟩, ⟨(Chg.refl _ _ w).drewN _⟩⟩
  case round =>
    clear h0 h1 h2 h3 hB HA ht has hm
    obtain ⟨m', a', hB, hm, HA, has, HK, HC⟩ := hrel
    have h0 := hB.out.cell 0 rfl
    have h1 := hB.out.cell 1 rfl
    have h2 := hB.out.cell 2 rfl
    have h3 := hB.out.cell 3 rfl
    have hm1 : m' ≤ 24 := by have := hm.out; omega
    by_cases hlt' : m' < d
    · have hlt1 : (a' : Int) < (s.size : Int) := by have := HA.out; omega
      have hlt2 : a' < s.size := by omega
      have hlt3 : decide (m' < d) = true := decide_eq_true hlt'
      go_wp2
      have hw : IntKind.i64.wrap ((s[a']'hlt2).toNat : Int) = ((s[a']'hlt2).toNat : Int) := by have := UInt8.toNat_lt (s[a']'hlt2); exact wraps_i62 _ (by omega) (by omega)
      go_still_tail 13, (by kernel_rfl)
      change wpList _ _ _ _ _ wr.drew
      go_wp2_with (go_at_call 78; refine (come8 (m := m') (n := (s[a']'hlt2).toNat) hB.out.drew (val_lt (bit_le s) _ _) (UInt8.toNat_lt _) (by omega)).mono ?_; rintro e w1 ⟨rfl, hB1, hC1⟩; have k3 := hB1.cell 3 rfl; have q3 := hB1.free 3; have HB1 := Sealed.mk hB1; have HC1 := Sealed.mk hC1; clear hB1 hC1)
      go_roundg (s.size - (a' + 1))
      case measure => have := HK.out; omega
      case rel =>
        refine ⟨m' + 8, a' + 1, ⟨?_⟩, ⟨.inl (by omega)⟩, ⟨by have := HA.out; omega⟩, by omega, ⟨rfl⟩, ⟨?_⟩⟩
        · rw [← val_push s HA.out hlt2]
          exact HB1.out.set 3 _
        · exact Chg.set (T := [73]) (HC.out.drew.trans HC1.out) HB1.out (Nat.le_refl _) (by simp) 3 _
    · have hlt3 : decide (m' < d) = false := decide_eq_false hlt'
      go_wp2_with (go_at_call 79; refine (take_any (m := m') hB.out (Nat.lt_of_lt_of_le (val_lt (bit_le s) p m') (Nat.pow_le_pow_right (by decide) (by omega))) (by omega) (by omega)).mono ?_; rintro e w1 ⟨rfl, hB1, hC1⟩; have HB1 := Sealed.mk hB1; have HC1 := Sealed.mk hC1; clear hB1 hC1)
      go_ret2
      have e1 : ((val (bit s) p m' : Nat) : Int) % 2 ^ d = ((val (bit s) p d : Nat) : Int) := by rw [← val_mod (bit_le s) p (show d ≤ m' by omega)]; simp
      have e2 := HB1.out
      rw [val_div (bit_le s) p (show d ≤ m' by omega)] at e2
      rw [e1]
      exact ⟨rfl, HC.out.trans HC1.out, m' - d, a', e2, by have := hm.out; omega, by have := HA.out; omega, has⟩

theorem at_any {w : World} {g : Nat} {s : ByteArray} {p : Nat} (h : RdSt w g s p) (hs : s.size ≤ 140737488355328) :
    Calls Try.prog 21 #[.pointer (some ⟨g, 0, none⟩)] w fun e w' => e = .returned (.int .i64 p) ∧ ∃ n, w' = w.drewN n := by
  obtain ⟨m, a, hb, hm, ha, has⟩ := h
  have h1 := hb.cell 1 rfl
  have h3 := hb.cell 3 rfl
  have e1 : 8 * (a : Int) - (m : Int) = (p : Int) := by omega
  have E1 := Sealed.mk e1
  clear hb ha e1
  go_enter Try.func21, Try.ntmps21
  go_wp2
  go_quiet (fail)
  go_wp2
  go_ret
  rw [E1.out]
  exact ⟨rfl, _, rfl⟩
end Go.Proofs.Ytmdlhbhdlhjakaa

namespace Go.Proofs.Ytmdlhbhdlhjakaa
open Go.RowKit

theorem info_u8 : (Try.prog.info? 5).map (fun i => (i.zero, i.size, i.bytes)) = some (some (.int .u8 0), 1, 1) := by kernel_rfl

/-! ### Rows of bits as lists -/
def lf (l : List Nat) (i : Nat) : Nat := l.getD i 0
def numBits (n w : Nat) : List Nat := (List.range w).map fun j => n / 2 ^ j % 2
/-- The first n bytes of a row of bits. -/
def rowOf (l : List Nat) (n : Nat) : List Int := (List.range n).map fun i => ((val (lf l) (8 * i) 8 : Nat) : Int)
theorem numBits_length (n w : Nat) : (numBits n w).length = w := by simp [numBits]
theorem lf_left {l k : List Nat} {i : Nat} (h : i < l.length) : lf (l ++ k) i = lf l i := by
  simp [lf, List.getD_eq_getElem?_getD, List.getElem?_append_left h]
theorem lf_right (l k : List Nat) (i : Nat) : lf (l ++ k) (l.length + i) = lf k i := by
  simp [lf, List.getD_eq_getElem?_getD, List.getElem?_append_right]
theorem lf_numBits (n w j : Nat) (h : j < w) : lf (numBits n w) j = n / 2 ^ j % 2 := by
  simp [lf, numBits, List.getD_eq_getElem?_getD, h]
theorem lf_past {l : List Nat} {i : Nat} (h : l.length ≤ i) : lf l i = 0 := by
  simp [lf, List.getD_eq_getElem?_getD, List.getElem?_eq_none h]
theorem isBits_append {l : List Nat} (h : IsBits (lf l)) (n w : Nat) : IsBits (lf (l ++ numBits n w)) := by
  intro i
  by_cases hi : i < l.length
  · rw [lf_left hi]; exact h i
  · obtain ⟨j, rfl⟩ : ∃ j, i = l.length + j := ⟨i - l.length, by omega⟩
    rw [lf_right]
    by_cases hj : j < w
    · rw [lf_numBits _ _ _ hj]; omega
    · rw [lf_past (by rw [numBits_length]; omega)]; omega
theorem isBits_nil : IsBits (lf []) := fun i => by simp [lf]
theorem val_left {l k : List Nat} {p m : Nat} (h : p + m ≤ l.length) : val (lf (l ++ k)) p m = val (lf l) p m :=
  val_congr m fun i hi => lf_left (by omega)
theorem val_numBits (l : List Nat) {n w : Nat} (hn : n < 2 ^ w) : val (lf (l ++ numBits n w)) l.length w = n := by
  have h : val (lf (l ++ numBits n w)) l.length w = val (fun j => n / 2 ^ j % 2) 0 w :=
    val_congr w fun i hi => by rw [lf_right, lf_numBits _ _ _ hi, Nat.zero_add]
  rw [h, val_digits]
  exact Nat.mod_eq_of_lt hn
theorem rowOf_succ (l : List Nat) (n : Nat) : rowOf l (n + 1) = rowOf l n ++ [((val (lf l) (8 * n) 8 : Nat) : Int)] := by simp [rowOf, List.range_succ]
theorem rowOf_left {l k : List Nat} {n : Nat} (h : 8 * n ≤ l.length) : rowOf (l ++ k) n = rowOf l n := by
  unfold rowOf
  refine List.map_congr_left fun i hi => ?_
  rw [val_left (by have := List.mem_range.1 hi; omega)]
theorem rowOf_length (l : List Nat) (n : Nat) : (rowOf l n).length = n := by simp [rowOf]

/-! ### The writer -/
/-- n whole bytes of the bits l stand in the writer's row, the m others between. -/
def WrIn (B : Nat) (w : World) (g : Nat) (t : TypeId) (rest : List Value) (l : List Nat) (n m : Nat) (v : Value) : Prop :=
  IsBlk w g (.int .i64 (val (lf l) (8 * n) m) :: .int .i64 m :: v :: rest) t ∧ w.ownsRow B 5 1 v n (nums .u8 (rowOf l n)) ∧ l.length = 8 * n + m
/-- To the writer at the head of block g (of type t; behind it stands 'rest') the bits l were put. -/
def WrSt (B : Nat) (w : World) (g : Nat) (t : TypeId) (rest : List Value) (l : List Nat) : Prop :=
  IsBits (lf l) ∧ B ≤ g ∧ t ≠ 5 ∧ ∃ n m v, m ≤ 7 ∧ WrIn B w g t rest l n m v
theorem WrSt.chg {B C : Nat} {T : List TypeId} {w w' : World} {g : Nat} {t : TypeId} {rest : List Value} {l : List Nat} (h : WrSt B w g t rest l) (hc : Chg C T w w') (h1 : t ∉ T) (h2 : 5 ∉ T) : WrSt B w' g t rest l := by
  obtain ⟨hl, hB, ht, n, m, v, hm, hb, ho, hle⟩ := h
  exact ⟨hl, hB, ht, n, m, v, hm, hb.chg hc (.inr h1), owns_chg ho hc h2, hle⟩
theorem WrSt.blk {B : Nat} {w : World} {g : Nat} {t : TypeId} {rest : List Value} {l : List Nat} (h : WrSt B w g t rest l) : ∃ cs, IsBlk w g cs t := by
  obtain ⟨hl, hB, ht, n, m, v, hm, hb, ho, hle⟩ := h; exact ⟨_, hb⟩
theorem WrSt.new {B : Nat} {w : World} {g : Nat} {t : TypeId} {rest : List Value} (hb : IsBlk w g (.int .i64 0 :: .int .i64 0 :: .slice none 0 0 :: rest) t) (hB : B ≤ g) (ht : t ≠ 5) : WrSt B w g t rest [] :=
  ⟨isBits_nil, hB, ht, 0, 0, _, by omega, hb, own_nil _ _ _ _, rfl⟩

set_option maxRecDepth 100000 in
set_option maxHeartbeats 1000000 in
theorem put_ok {B : Nat} {w : World} {g : Nat} {t : TypeId} {rest : List Value} {l : List Nat} (h : WrSt B w g t rest l) (n d : Nat) (hd : d ≤ 16) (hn : n < 2 ^ d) (hl : l.length ≤ 1000000000000) :
    Calls Try.prog 47 #[.pointer (some ⟨g, 0, none⟩), .int .i64 n, .int .i64 d] w fun e w' => e = .returned (.int .i64 0) ∧ Chg B [t, 5] w w' ∧ WrSt B w' g t rest (l ++ numBits n d) := by
  obtain ⟨hl0, hB', ht, q, m, v, hm, hb, ho, hle⟩ := h
  have hnb : decide ((n : Int) < 0) = false := decide_eq_false (by omega)
  have hsh : (((n : Int) / 2 ^ d) != 0) = false := by
    have e0 : (n : Int) / 2 ^ d = ((n / 2 ^ d : Nat) : Int) := by simp
    rw [e0, Nat.div_eq_of_lt hn]; rfl
  have hp : 2 ^ m ≤ 2 ^ 7 := Nat.pow_le_pow_right (by decide) hm
  have hp2 : 2 ^ d ≤ 2 ^ 16 := Nat.pow_le_pow_right (by decide) hd
  have hv := val_lt hl0 (8 * q) m
  have hnm : n * 2 ^ m ≤ 65535 * 2 ^ 7 := Nat.mul_le_mul (by omega) hp
  have hc : val (lf l) (8 * q) m + n * 2 ^ m < 2 ^ 62 := by omega
  clear hp hp2 hnm
  have hl1 := isBits_append hl0 n d
  have hlen : (l ++ numBits n d).length = l.length + d := by simp [numBits_length]
  have e3 : val (lf l) (8 * q) m + n * 2 ^ m = val (lf (l ++ numBits n d)) (8 * q) (m + d) := by
    rw [val_add, val_left (by omega), ← hle, val_numBits l hn, Nat.mul_comm (2 ^ m) n]
  have e4 : rowOf l q = rowOf (l ++ numBits n d) q := (rowOf_left (by omega)).symm
  rw [e4] at ho
  generalize hL : l ++ numBits n d = L at *
  have hB1 := Sealed.mk hb
  have HO := Sealed.mk ho
  have HLE : Sealed (L.length = 8 * q + (m + d)) := ⟨by omega⟩
  have HLL : Sealed (L.length ≤ 1000000000016) := ⟨by omega⟩
  have E3 := Sealed.mk e3
  have HV := Sealed.mk hv
  have HC := Sealed.mk hc
  have HL1 := Sealed.mk hl1
  have hgs : g < w.heap.size := hb.lt
  clear hb ho hle e3 hv hc hL hlen e4 hl1
  go_enter Try.func47, Try.ntmps47
  go_wp2_with (first | (go_at_call 77; refine (fits_yes _ _ (by omega) (by omega)).mono ?_; rintro e w' ⟨rfl, rfl⟩) | (go_at_call 78; refine (come_any (m := m) (n := n) (d := d) hB1.out HV.out HC.out (by omega) (by omega)).mono ?_; rintro e w1 ⟨rfl, hB2, hC2⟩; have HB2 := Sealed.mk hB2; have HC2 := Sealed.mk hC2; clear hB2 hC2))
  have HB3 : Sealed (IsBlk w1 g (.int .i64 (val (lf L) (8 * q) (m + d)) :: .int .i64 ((m + d : Nat) : Int) :: v :: rest) t) := ⟨by rw [← E3.out]; exact HB2.out⟩
  have HO3 : Sealed (w1.ownsRow B 5 1 v q (nums .u8 (rowOf L q))) := ⟨owns_chg HO.out HC2.out (by simpa using Ne.symm ht)⟩
  have HS3 : Sealed (B ≤ w1.heap.size) := ⟨by have := HC2.out.size; omega⟩
  have HC3 : Sealed (Chg B [t, 5] w w1) := ⟨HC2.out.mono hB' (by simp)⟩
  clear HB2 HC2 HO hB1 E3 HV HC
  go_loopg [] (m + d) (fun k w' => ∃ (q' m' : Nat) (v' : Value), Sealed (IsBlk w' g (.int .i64 (val (lf L) (8 * q') m') :: .int .i64 m' :: v' :: rest) t) ∧ Sealed (w'.ownsRow B 5 1 v' q' (nums .u8 (rowOf L q'))) ∧ Sealed (L.length = 8 * q' + m') ∧ m' ≤ 24 ∧ Sealed (k = m') ∧ Sealed (B ≤ w'.heap.size) ∧ Sealed (Chg B [t, 5] w w'))
  case atStart => exact ⟨q, m + d, v, HB3, HO3, HLE, by omega, ⟨rfl⟩, HS3, HC3⟩
  case round =>
    clear HB3 HO3 HLE HS3 HC3
    obtain ⟨q', m', v', hB, hO, HLE, hm', HK, hS, HC⟩ := hrel
    have h0 := hB.out.cell 0 rfl
    have h1 := hB.out.cell 1 rfl
    obtain ⟨A', c', hv'⟩ := own_slice hO.out
    subst hv'
    have h2 := hB.out.cell 2 rfl
    by_cases h8 : 8 ≤ m'
    · have h8' : decide (8 ≤ m') = true := decide_eq_true h8
      have hlt := Nat.lt_of_lt_of_le (val_lt HL1.out (8 * q') m') (Nat.pow_le_pow_right (by decide) hm' : 2 ^ m' ≤ 2 ^ 24)
      have HLT := Sealed.mk hlt
      clear hlt
      go_wp2
      go_region_law (first | (go_simp; go_at_call 79; refine (take8 (m := m') hB.out.drew (by have := HLT.out; omega) (by omega) h8).mono ?_; rintro e w1 ⟨rfl, hB2, hC2⟩; have k2 := hB2.cell 2 rfl; have k2' := fun o => (hB2.alloc o).cell 2 rfl; have HB2 := Sealed.mk hB2; have HC2 := Sealed.mk hC2; clear hB2 hC2) | (refine step_app1 B rfl (.tmp 39) (.tmp 45) 41 5 (.int .u8 0) 1 rfl Try.underlying41 info_u8 rfl (by decide) _ q' _ _ rfl rfl rfl (owns_chg (w := wr.drew) hO.out HC2.out (by simpa using Ne.symm ht)) (by have := hS.out; have := HC2.out.size; simp at this; omega) (by have := HLE.out; have := HLL.out; omega) ?_; intro v3 w3 ho3 hg3; have HO3 := Sealed.mk ho3; have HG3 := Sealed.mk hg3; have HB3 := Sealed.mk (HB2.out.grown hg3 (HB2.out.own_ne (owns_chg (w := wr.drew) hO.out HC2.out (by simpa using Ne.symm ht)) ht.symm)); have q3 := HB3.out.free 2; have r3 := HB3.out.cell 2 rfl; obtain ⟨A3, c3, rfl⟩ := own_slice ho3; clear ho3 hg3))
      all_goals
        go_wp2
        go_roundg (m' - 8)
        case measure => have := HK.out; omega
        case rel =>
          have hg3 : w1.grownBy w3 (Value.slice A' q' c').ownBlock := HG3.out
          have e1 : val (lf L) (8 * q') m' / 256 = val (lf L) (8 * (q' + 1)) (m' - 8) := val_div HL1.out (8 * q') (a := 8) h8
          have e2 : IntKind.u8.wrap (((val (lf L) (8 * q') m' : Nat) : Int) % 256) = ((val (lf L) (8 * q') 8 : Nat) : Int) := by
            rw [← val_mod HL1.out (8 * q') (a := 8) h8, IntKind.wrap_u8]; omega
          have ho3 := HO3.out
          rw [e2, ← nums_snoc, ← rowOf_succ] at ho3
          have hb3 := HB3.out
          rw [e1] at hb3
          have hc1 : Chg B [t, 5] w w1 := HC.out.drew.trans (HC2.out.mono hB' (by simp))
          exact ⟨q' + 1, m' - 8, _, ⟨hb3.set 2 _⟩, ⟨owns_chg ho3 (Chg.set (T := [t]) (Chg.refl g [t] w3) hb3 (Nat.le_refl _) (by simp) 2 _) (by simpa using Ne.symm ht)⟩, ⟨by have := HLE.out; omega⟩, by omega, ⟨rfl⟩,
            ⟨by have := hS.out; have := HC2.out.size; have := hg3.size; simp [World.setCell] at *; omega⟩,
            ⟨Chg.set (Chg.grown hc1 (owns_chg (w := wr.drew) hO.out HC2.out (by simpa using Ne.symm ht)) (Nat.le_refl _) (by simp) hg3) hb3 hB' (by simp) 2 _⟩⟩
    · have h8' : decide (8 ≤ m') = false := decide_eq_false h8
      go_wp2
      go_ret
      exact ⟨rfl, HC.out, HL1.out, hB', ht, q', m', _, by omega, hB.out, hO.out, HLE.out⟩
end Go.Proofs.Ytmdlhbhdlhjakaa
