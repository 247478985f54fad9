/- The contracts of package bitrow's reader. -/
import Derived.Test.YtmdlhbhdlhjakaaBase
import Derived.Test.YtmdlhbhdlhjakaaBits
set_option linter.unusedVariables false
set_option linter.unusedSimpArgs false
namespace Go.Proofs.Ytmdlhbhdlhjakaa
open Go.RowKit

theorem ret_int {k : IntKind} {a b : Int} (h : a = b) : Ending.returned (.int k a) = .returned (.int k b) := by rw [h]
theorem ret_bool {a b : Bool} (h : a = b) : Ending.returned (.bool a) = .returned (.bool b) := by rw [h]

theorem fits_any (n : Int) (w : World) : Calls Try.prog 77 #[.int .i64 n] w fun e w' => e = .returned (.bool (decide (0 ≤ n) && decide (n ≤ 16))) ∧ w = w' := by
  go_enter Try.func77, Try.ntmps77
  by_cases h : 0 ≤ n
  · go_wp2
    go_ret
    exact ⟨by simp [h], rfl⟩
  · go_wp2
    go_ret
    exact ⟨by simp; omega, rfl⟩

theorem fits_yes (n : Int) (w : World) (h0 : 0 ≤ n) (h1 : n ≤ 16) : Calls Try.prog 77 #[.int .i64 n] w fun e w' => e = .returned (.bool true) ∧ w = w' :=
  (fits_any n w).mono fun e w' h => ⟨by rw [h.1]; simp [h0, h1], h.2⟩

/-- come: the number n stands above the m bits that are there. -/
theorem come_any {w : World} {g t : Nat} {b m n d : Nat} {rest : List Value} (hb : IsBlk w g (.int .i64 b :: .int .i64 m :: rest) t) (hlt : b < 2 ^ m) (hn : b + n * 2 ^ m < 2 ^ 62) (hm : m ≤ 60) (hd : d ≤ 60) :
    Calls Try.prog 78 #[.pointer (some ⟨g, 0, none⟩), .int .i64 n, .int .i64 d] w fun e w' => e = .returned (.tuple #[]) ∧
      IsBlk w' g (.int .i64 ((b + n * 2 ^ m : Nat) : Int) :: .int .i64 ((m + d : Nat) : Int) :: rest) t ∧ Chg g [t] w w' := by
  have h0 := hb.cell 0 rfl
  have h1 := hb.cell 1 rfl
  have f0 := hb.free 0
  have f1 := hb.free 1
  have hB := Sealed.mk hb
  have e1 : wrap64 ((n : Int) * 2 ^ (m : Int).toNat) = ((n * 2 ^ m : Nat) : Int) := by
    have e0 : (n : Int) * 2 ^ (m : Int).toNat = ((n * 2 ^ m : Nat) : Int) := by simp
    rw [e0]
    exact wrap64_small (by omega) (by omega)
  have e2 : bits .or .i64 (b : Int) (wrap64 ((n : Int) * 2 ^ (m : Int).toNat)) = ((b + n * 2 ^ m : Nat) : Int) := by rw [e1]; exact bits_or_add b n m hlt hn (by omega)
  have E2 := Sealed.mk e2
  clear e1 e2 hb
  go_enter Try.func78, Try.ntmps78
  go_wp2
  go_region
  go_wp2
  go_end0
  have e2 := E2.out
  simp only [Int.toNat_natCast] at e2
  rw [e2, show (m : Int) + (d : Int) = ((m + d : Nat) : Int) by omega]
  exact ⟨rfl, ((hB.out.set 0 _).set 1 _).drew,
    (((Chg.refl g [t] w).set hB.out (Nat.le_refl _) (by simp) 0 _).set (hB.out.set 0 _) (Nat.le_refl _) (by simp) 1 _).drew⟩

theorem come8 {w : World} {g t : Nat} {b m n : Nat} {rest : List Value} (hb : IsBlk w g (.int .i64 b :: .int .i64 m :: rest) t) (hlt : b < 2 ^ m) (hn : n < 256) (hm : m ≤ 50) :
    Calls Try.prog 78 #[.pointer (some ⟨g, 0, none⟩), .int .i64 n, .int .i64 8] w fun e w' => e = .returned (.tuple #[]) ∧
      IsBlk w' g (.int .i64 ((b + n * 2 ^ m : Nat) : Int) :: .int .i64 ((m + 8 : Nat) : Int) :: rest) t ∧ Chg g [t] w w' := by
  have hp : 2 ^ m ≤ 2 ^ 50 := Nat.pow_le_pow_right (by decide) hm
  have hq : n * 2 ^ m ≤ 255 * 2 ^ 50 := Nat.mul_le_mul (by omega) hp
  exact come_any hb hlt (d := 8) (by omega) (by omega) (by omega)

/-- take: the d lowest bits are taken. -/
theorem take_any {w : World} {g t : Nat} {b m d : Nat} {rest : List Value} (hb : IsBlk w g (.int .i64 b :: .int .i64 m :: rest) t) (hlt : b < 2 ^ 60) (hm : m ≤ 60) (hd : d ≤ m) :
    Calls Try.prog 79 #[.pointer (some ⟨g, 0, none⟩), .int .i64 d] w fun e w' => e = .returned (.int .i64 ((b % 2 ^ d : Nat) : Int)) ∧
      IsBlk w' g (.int .i64 ((b / 2 ^ d : Nat) : Int) :: .int .i64 ((m - d : Nat) : Int) :: rest) t ∧ Chg g [t] w w' := by
  have h0 := hb.cell 0 rfl
  have h1 := hb.cell 1 rfl
  have f0 := hb.free 0
  have f1 := hb.free 1
  have hB := Sealed.mk hb
  have hp : 2 ^ d ≤ 2 ^ 60 := Nat.pow_le_pow_right (by decide) (by omega)
  have hp0 := Nat.two_pow_pos d
  have e1 : wrap64 (wrap64 ((2 : Int) ^ (d : Int).toNat) - 1) = ((2 ^ d - 1 : Nat) : Int) := by
    have e0 : (2 : Int) ^ (d : Int).toNat = ((2 ^ d : Nat) : Int) := by simp
    rw [e0, wrap64_small (n := ((2 ^ d : Nat) : Int)) (by omega) (by omega), wrap64_small (by omega) (by omega)]
    omega
  have E2 : Sealed (bits .and .i64 (b : Int) (wrap64 (wrap64 ((2 : Int) ^ (d : Int).toNat) - 1)) = ((b % 2 ^ d : Nat) : Int)) := ⟨by rw [e1]; exact bits_and_mask b d (by omega) (by omega)⟩
  have E3 : Sealed ((b : Int) / 2 ^ (d : Int).toNat = ((b / 2 ^ d : Nat) : Int)) := ⟨by simp⟩
  clear e1 hb hp hp0
  go_enter Try.func79, Try.ntmps79
  go_wp2
  go_region
  go_wp2
  go_ret
  have e2 := E2.out
  have e3 := E3.out
  simp only [Int.toNat_natCast] at e2 e3
  rw [e3, e2]
  have e4 : (m : Int) - (d : Int) = ((m - d : Nat) : Int) := by omega
  rw [e4]
  exact ⟨rfl, ((hB.out.set 0 _).set 1 _).drew, (((Chg.refl g [t] w).set hB.out (Nat.le_refl _) (by simp) 0 _).set (hB.out.set 0 _) (Nat.le_refl _) (by simp) 1 _).drew⟩

theorem take8 {w : World} {g t : Nat} {b m : Nat} {rest : List Value} (hb : IsBlk w g (.int .i64 b :: .int .i64 m :: rest) t) (hlt : b < 2 ^ 60) (hm : m ≤ 60) (hd : 8 ≤ m) :
    Calls Try.prog 79 #[.pointer (some ⟨g, 0, none⟩), .int .i64 8] w fun e w' => e = .returned (.int .i64 ((b % 256 : Nat) : Int)) ∧
      IsBlk w' g (.int .i64 ((b / 256 : Nat) : Int) :: .int .i64 ((m - 8 : Nat) : Int) :: rest) t ∧ Chg g [t] w w' :=
  take_any hb hlt hm (d := 8) hd

/-! ### The reader -/
/-- Of the reader at block g of the bytes s, p bits were read. -/
def RdSt (w : World) (g : Nat) (s : ByteArray) (p : Nat) : Prop :=
  ∃ m at_ : Nat, IsBlk w g [.int .i64 (val (bit s) p m), .int .i64 m, .string s, .int .i64 at_] 73 ∧ m ≤ 7 ∧ 8 * at_ = p + m ∧ at_ ≤ s.size
theorem RdSt.blk {w : World} {g : Nat} {s : ByteArray} {p : Nat} (h : RdSt w g s p) : ∃ cs, IsBlk w g cs 73 := by obtain ⟨m, a, h, _⟩ := h; exact ⟨_, h⟩
theorem RdSt.chg {w w' : World} {g B : Nat} {T : List TypeId} {s : ByteArray} {p : Nat} (h : RdSt w g s p) (hc : Chg B T w w') (hn : g < B ∨ 73 ∉ T) : RdSt w' g s p := by
  obtain ⟨m, a, h, r⟩ := h; exact ⟨m, a, h.chg hc hn, r⟩
theorem RdSt.le {w : World} {g : Nat} {s : ByteArray} {p : Nat} (h : RdSt w g s p) : p ≤ 8 * s.size := by obtain ⟨m, a, h, h1, h2, h3⟩ := h; omega

theorem newReader_any (s : ByteArray) (w : World) : Calls Try.prog 17 #[.string s] w fun e w' => e = .returned (.pointer (some ⟨w.heap.size, 0, none⟩)) ∧ RdSt w' w.heap.size s 0 ∧ Below w.heap.size w w' ∧ w.heap.size < w'.heap.size := by
  go_enter Try.func17, Try.ntmps17
  go_wp2
  go_ret
  exact ⟨rfl, ⟨0, 0, IsBlk.new w _ _, by omega, by omega, by omega⟩, (Below.refl _ _).alloc (Nat.le_refl _) _, by simp⟩

theorem get_short {w : World} {g : Nat} {s : ByteArray} {p : Nat} (h : RdSt w g s p) (hs : s.size ≤ 140737488355328) (d : Nat) (hd : d ≤ 16) (hlt : 8 * s.size < p + d) :
    Calls Try.prog 44 #[.pointer (some ⟨g, 0, none⟩), .int .i64 d] w fun e w' => e = .returned (.tuple #[.int .i64 0, .int .i64 5]) ∧ Chg g [73] w w' ∧ RdSt w' g s p := by
  obtain ⟨m, a, hb, hm, ha, has⟩ := h
  have h0 := hb.cell 0 rfl
  have h1 := hb.cell 1 rfl
  have h2 := hb.cell 2 rfl
  have h3 := hb.cell 3 rfl
  have hB := Sealed.mk hb
  clear hb
  have HA := Sealed.mk ha
  have ht : 8 * ((s.size : Int) - (a : Int)) < (d : Int) - (m : Int) := by omega
  clear ha
  go_enter Try.func44, Try.ntmps44
  go_wp2_with (go_at_call 77; refine (fits_yes _ _ (by omega) (by omega)).mono ?_; rintro e w' ⟨rfl, rfl⟩)
  go_quiet (fail)
  go_wp2
  go_ret2
  exact ⟨rfl, (Chg.refl _ _ w).drewN _, m, a, hB.out.drewN _, hm, HA.out, has⟩

set_option maxRecDepth 100000 in
set_option maxHeartbeats 1000000 in
theorem get_ok {w : World} {g : Nat} {s : ByteArray} {p : Nat} (h : RdSt w g s p) (hs : s.size ≤ 140737488355328) (d : Nat) (hd : d ≤ 16) (hlt : p + d ≤ 8 * s.size) :
    Calls Try.prog 44 #[.pointer (some ⟨g, 0, none⟩), .int .i64 d] w fun e w' => e = .returned (.tuple #[.int .i64 (val (bit s) p d), .int .i64 0]) ∧ Chg g [73] w w' ∧ RdSt w' g s (p + d) := by
  obtain ⟨m, a, hb, hm, ha, has⟩ := h
  have h0 := hb.cell 0 rfl
  have h1 := hb.cell 1 rfl
  have h2 := hb.cell 2 rfl
  have h3 := hb.cell 3 rfl
  have hB := Sealed.mk hb
  clear hb
  have HA := Sealed.mk ha
  have ht : decide (8 * ((s.size : Int) - (a : Int)) < (d : Int) - (m : Int)) = false := decide_eq_false (by omega)
  clear ha
  go_enter Try.func44, Try.ntmps44
  go_wp2_with (go_at_call 77; refine (fits_yes _ _ (by omega) (by omega)).mono ?_; rintro e w' ⟨rfl, rfl⟩)
  go_quiet (fail)
  go_wp2
  go_loopg [] (s.size - a) (fun k w' => ∃ m' a' : Nat, Sealed (IsBlk w' g [.int .i64 (val (bit s) p m'), .int .i64 m', .string s, .int .i64 a'] 73) ∧ Sealed (m' < d + 8 ∨ m' ≤ 7) ∧ Sealed (8 * a' = p + m') ∧ a' ≤ s.size ∧ Sealed (k = s.size - a') ∧ Sealed (Chg g [73] w w'))
  case atStart => exact ⟨m, a, ⟨hB.out.drewN _⟩, ⟨by omega⟩, HA, has, ⟨rfl⟩, ⟨(Chg.refl _ _ w).drewN _⟩⟩
  case round =>
    clear h0 h1 h2 h3 hB HA ht has hm
    obtain ⟨m', a', hB, hm, HA, has, HK, HC⟩ := hrel
    have h0 := hB.out.cell 0 rfl
    have h1 := hB.out.cell 1 rfl
    have h2 := hB.out.cell 2 rfl
    have h3 := hB.out.cell 3 rfl
    have hm1 : m' ≤ 24 := by have := hm.out; omega
    by_cases hlt' : m' < d
    · have hlt1 : (a' : Int) < (s.size : Int) := by have := HA.out; omega
      have hlt2 : a' < s.size := by omega
      have hlt3 : decide (m' < d) = true := decide_eq_true hlt'
      go_wp2
      have hw : IntKind.i64.wrap ((s[a']'hlt2).toNat : Int) = ((s[a']'hlt2).toNat : Int) := by have := UInt8.toNat_lt (s[a']'hlt2); exact wraps_i62 _ (by omega) (by omega)
      go_still_tail 13, (by kernel_rfl)
      change wpList _ _ _ _ _ wr.drew
      go_wp2_with (go_at_call 78; refine (come8 (m := m') (n := (s[a']'hlt2).toNat) hB.out.drew (val_lt (bit_le s) _ _) (UInt8.toNat_lt _) (by omega)).mono ?_; rintro e w1 ⟨rfl, hB1, hC1⟩; have k3 := hB1.cell 3 rfl; have q3 := hB1.free 3; have HB1 := Sealed.mk hB1; have HC1 := Sealed.mk hC1; clear hB1 hC1)
      go_roundg (s.size - (a' + 1))
      case measure => have := HK.out; omega
      case rel =>
        refine ⟨m' + 8, a' + 1, ⟨?_⟩, ⟨.inl (by omega)⟩, ⟨by have := HA.out; omega⟩, by omega, ⟨rfl⟩, ⟨?_⟩⟩
        · rw [← val_push s HA.out hlt2]
          exact HB1.out.set 3 _
        · exact Chg.set (T := [73]) (HC.out.drew.trans HC1.out) HB1.out (Nat.le_refl _) (by simp) 3 _
    · have hlt3 : decide (m' < d) = false := decide_eq_false hlt'
      go_wp2_with (go_at_call 79; refine (take_any (m := m') hB.out (Nat.lt_of_lt_of_le (val_lt (bit_le s) p m') (Nat.pow_le_pow_right (by decide) (by omega))) (by omega) (by omega)).mono ?_; rintro e w1 ⟨rfl, hB1, hC1⟩; have HB1 := Sealed.mk hB1; have HC1 := Sealed.mk hC1; clear hB1 hC1)
      go_ret2
      have e1 : ((val (bit s) p m' : Nat) : Int) % 2 ^ d = ((val (bit s) p d : Nat) : Int) := by rw [← val_mod (bit_le s) p (show d ≤ m' by omega)]; simp
      have e2 := HB1.out
      rw [val_div (bit_le s) p (show d ≤ m' by omega)] at e2
      rw [e1]
      exact ⟨rfl, HC.out.trans HC1.out, m' - d, a', e2, by have := hm.out; omega, by have := HA.out; omega, has⟩

theorem at_any {w : World} {g : Nat} {s : ByteArray} {p : Nat} (h : RdSt w g s p) (hs : s.size ≤ 140737488355328) :
    Calls Try.prog 21 #[.pointer (some ⟨g, 0, none⟩)] w fun e w' => e = .returned (.int .i64 p) ∧ ∃ n, w' = w.drewN n := by
  obtain ⟨m, a, hb, hm, ha, has⟩ := h
  have h1 := hb.cell 1 rfl
  have h3 := hb.cell 3 rfl
  have e1 : 8 * (a : Int) - (m : Int) = (p : Int) := by omega
  have E1 := Sealed.mk e1
  clear hb ha e1
  go_enter Try.func21, Try.ntmps21
  go_wp2
  go_quiet (fail)
  go_wp2
  go_ret
  rw [E1.out]
  exact ⟨rfl, _, rfl⟩
end Go.Proofs.Ytmdlhbhdlhjakaa
