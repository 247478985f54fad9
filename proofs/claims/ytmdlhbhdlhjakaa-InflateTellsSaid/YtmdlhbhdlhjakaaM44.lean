/- Plain: bytes as lists of numbers. Plain: deflated bytes cut, and with more behind them; the law's 'blocks'. The walk of the statement InflateTells. -/
import Derived.Test.YtmdlhbhdlhjakaaM09
import Derived.Test.YtmdlhbhdlhjakaaM42
import Derived.Test.YtmdlhbhdlhjakaaM43
set_option linter.unusedVariables false
set_option linter.unusedSimpArgs false
namespace Go.Proofs.Ytmdlhbhdlhjakaa
open Go.RowKit

theorem str_size (bs : List Nat) : (strOfNums (castL bs)).size = bs.length := by rw [strOfNums_size]; simp [castL]
theorem byteAt_str {bs : List Nat} (hb : ∀ x ∈ bs, x < 256) (i : Nat) : byteAt (strOfNums (castL bs)) i = bs.getD i 0 := by
  by_cases h : i < bs.length
  · have hs : i < (strOfNums (castL bs)).size := by rw [str_size]; exact h
    rw [← byteAt_get _ _ hs]
    have e : (strOfNums (castL bs))[i]'hs = ((castL bs).map fun n => UInt8.ofNat n.toNat)[i]'(by simpa [castL] using h) := rfl
    rw [e]
    have hx := hb (bs[i]) (List.getElem_mem h)
    simp [castL, List.getD_eq_getElem?_getD, h]
    omega
  · rw [List.getD_eq_getElem?_getD, List.getElem?_eq_none (by omega)]
    unfold byteAt
    rw [dif_neg (by rw [str_size]; exact h)]
    rfl
theorem bytesOf_get (s : ByteArray) {n i : Nat} (h : i < n) : (bytesOf s n).getD i 0 = byteAt s i := by simp [bytesOf, List.getD_eq_getElem?_getD, h]
theorem byteArray_ext {s t : ByteArray} (h : s.size = t.size) (hb : ∀ i, i < s.size → byteAt s i = byteAt t i) : s = t := by
  apply ByteArray.ext
  apply Array.ext
  · exact h
  · intro i h1 h2
    have hs : i < s.size := h1
    have ht : i < t.size := h2
    have := hb i hs
    rw [← byteAt_get s i hs, ← byteAt_get t i ht] at this
    exact UInt8.toNat_inj.1 this
theorem str_bytes (s : ByteArray) : strOfNums (castL (bytesOf s s.size)) = s := by
  have hl : (strOfNums (castL (bytesOf s s.size))).size = s.size := by rw [str_size, bytesOf_len]
  refine byteArray_ext hl fun i hi => ?_
  rw [hl] at hi
  rw [byteAt_str (bytesOf_lt s s.size), bytesOf_get s hi]
end Go.Proofs.Ytmdlhbhdlhjakaa

namespace Go.Proofs.Ytmdlhbhdlhjakaa
open Go.RowKit

theorem inflS_bad {s : ByteArray} {most : Nat} : ∀ {k p e : Nat} {o : List Nat}, inflS s most k p o = .error e → 1 ≤ e
  | 0, p, e, o, h => by rw [inflS] at h; injection h with h; omega
  | k + 1, p, e, o, h => by
    rw [inflS] at h
    cases h1 : getS s p 1 with
    | error e1 => rw [h1] at h; injection h with h; have := getS_err h1; omega
    | ok r =>
      obtain ⟨last, p1⟩ := r
      rw [h1] at h
      simp only at h
      cases h2 : getS s p1 2 with
      | error e1 => rw [h2] at h; injection h with h; have := getS_err h2; omega
      | ok r =>
        obtain ⟨kind, p2⟩ := r
        rw [h2] at h
        simp only at h
        cases h3 : kindS s most kind p2 o with
        | error e1 => rw [h3] at h; injection h with h; have := kindS_bad h3; omega
        | ok r =>
          obtain ⟨o', q⟩ := r
          rw [h3] at h
          simp only at h
          split at h
          · cases h
          · have := inflS_bad h; omega
theorem agree_of {s t : ByteArray} {m : Nat} (h : ∀ i, i < m → byteAt t i = byteAt s i) : Agree t s (8 * m) := fun i hi => by
  unfold bit; rw [h (i / 8) (by omega)]
theorem byteAt_cut {s : ByteArray} {c i : Nat} (hc : c ≤ s.size) (hi : i < c) : byteAt (s.extract 0 c) i = byteAt s i := by
  have hs : (s.extract 0 c).size = c := by simp [ByteArray.size_extract]; omega
  simp only [byteAt, hs, hi, dite_true, show i < s.size by omega]
  congr 1
  rw [ByteArray.getElem_extract]
  simp
theorem byteAt_app {s t : ByteArray} {i : Nat} (hi : i < s.size) : byteAt (s ++ t) i = byteAt s i := by
  have h2 : i < (s ++ t).size := by rw [ByteArray.size_append]; omega
  simp only [byteAt, hi, h2, dite_true]
  congr 1
  exact ByteArray.getElem_append_left hi
section
variable {s : ByteArray} {o : List Nat} {n : Nat} {most : Nat}
theorem inflate_pos (h : inflateS s most = .ok (o, n)) : 1 ≤ n ∧ n ≤ s.size ∧ o.length ≤ most := by
  have := inflS_pos h; simp at this; omega
theorem inflate_cut (h : inflateS s most = .ok (o, n)) {c : Nat} (hc : c < n) : inflateS (s.extract 0 c) most = .error 5 := by
  have hp := inflate_pos h
  have hs : (s.extract 0 c).size = c := by simp [ByteArray.size_extract]; omega
  unfold inflateS at h ⊢
  refine inflS_cut h (by omega) ?_ (by omega) _ (by omega)
  rw [hs]
  exact agree_of fun i hi => byteAt_cut (by omega) hi
theorem inflate_more (h : inflateS s most = .ok (o, n)) (more : ByteArray) : inflateS (s.extract 0 n ++ more) most = .ok (o, n) := by
  have hp := inflate_pos h
  have hs : (s.extract 0 n).size = n := by simp [ByteArray.size_extract]; omega
  have hs2 : (s.extract 0 n ++ more).size = n + more.size := by rw [ByteArray.size_append, hs]
  unfold inflateS at h ⊢
  refine inflS_loc h (by omega) ?_ _ (by omega)
  exact agree_of fun i hi => by rw [byteAt_app (by omega), byteAt_cut (by omega) hi]
theorem inflate_room (h : inflateS s most = .ok (o, n)) (most' : Nat) : inflateS s most' = if most' < o.length then .error 7 else .ok (o, n) := inflS_room h (by simp)
end
theorem blk_1 : inflEnd (inflateS ⟨#[1, 1, 0, 254, 255, 97, 122]⟩ 1) = .returned (.tuple #[.string ⟨#[97]⟩, .int .i64 6, .int .i64 0]) := by kernel_rfl
theorem blk_2 : inflEnd (inflateS ⟨#[75, 4, 0]⟩ 1) = .returned (.tuple #[.string ⟨#[97]⟩, .int .i64 3, .int .i64 0]) := by kernel_rfl
theorem blk_3 : inflEnd (inflateS ⟨#[75, 4]⟩ 1) = .returned (.tuple #[.string ⟨#[]⟩, .int .i64 0, .int .i64 5]) := by kernel_rfl
theorem blk_4 : inflEnd (inflateS ⟨#[7]⟩ 1) = .returned (.tuple #[.string ⟨#[]⟩, .int .i64 0, .int .i64 4]) := by kernel_rfl
theorem blk_5 : inflEnd (inflateS ⟨#[75, 4, 0]⟩ 0) = .returned (.tuple #[.string ⟨#[]⟩, .int .i64 0, .int .i64 7]) := by kernel_rfl
set_option maxRecDepth 100000 in
theorem blocks_any (w : World) : Calls Try.prog 32 #[] w fun e w' => e = .returned (.bool true) ∧ Below w.heap.size w w' := by
  have H1 : Sealed (∀ w, Calls Try.prog 33 #[.string ⟨#[1, 1, 0, 254, 255, 97, 122]⟩, .int .i64 1] w fun e w' => e = .returned (.tuple #[.string ⟨#[97]⟩, .int .i64 6, .int .i64 0]) ∧ Below w.heap.size w w') := ⟨fun w => by have h := inflate_any ⟨#[1, 1, 0, 254, 255, 97, 122]⟩ 1 (by decide) (by omega) w; rw [blk_1] at h; exact h⟩
  have H2 : Sealed (∀ w, Calls Try.prog 33 #[.string ⟨#[75, 4, 0]⟩, .int .i64 1] w fun e w' => e = .returned (.tuple #[.string ⟨#[97]⟩, .int .i64 3, .int .i64 0]) ∧ Below w.heap.size w w') := ⟨fun w => by have h := inflate_any ⟨#[75, 4, 0]⟩ 1 (by decide) (by omega) w; rw [blk_2] at h; exact h⟩
  have H3 : Sealed (∀ w, Calls Try.prog 33 #[.string ⟨#[75, 4]⟩, .int .i64 1] w fun e w' => e = .returned (.tuple #[.string ⟨#[]⟩, .int .i64 0, .int .i64 5]) ∧ Below w.heap.size w w') := ⟨fun w => by have h := inflate_any ⟨#[75, 4]⟩ 1 (by decide) (by omega) w; rw [blk_3] at h; exact h⟩
  have H4 : Sealed (∀ w, Calls Try.prog 33 #[.string ⟨#[7]⟩, .int .i64 1] w fun e w' => e = .returned (.tuple #[.string ⟨#[]⟩, .int .i64 0, .int .i64 4]) ∧ Below w.heap.size w w') := ⟨fun w => by have h := inflate_any ⟨#[7]⟩ 1 (by decide) (by omega) w; rw [blk_4] at h; exact h⟩
  have H5 : Sealed (∀ w, Calls Try.prog 33 #[.string ⟨#[75, 4, 0]⟩, .int .i64 0] w fun e w' => e = .returned (.tuple #[.string ⟨#[]⟩, .int .i64 0, .int .i64 7]) ∧ Below w.heap.size w w') := ⟨fun w => by have h := inflate_any ⟨#[75, 4, 0]⟩ 0 (by decide) (by omega) w; rw [blk_5] at h; exact h⟩
  go_enter Try.func32, Try.ntmps32
  go_wp2_with fail
  refine (H1.out _).mono ?_
  rintro e w1 ⟨rfl, hb⟩
  have B1 := Sealed.mk hb
  clear hb
  go_wp2_with fail
  refine (H2.out _).mono ?_
  rintro e w2 ⟨rfl, hb⟩
  have B2 := Sealed.mk (B1.out.trans (hb.mono B1.out.size))
  clear hb B1
  go_wp2_with fail
  refine (H3.out _).mono ?_
  rintro e w3 ⟨rfl, hb⟩
  have B3 := Sealed.mk (B2.out.trans (hb.mono B2.out.size))
  clear hb B2
  go_wp2_with fail
  refine (H4.out _).mono ?_
  rintro e w4 ⟨rfl, hb⟩
  have B4 := Sealed.mk (B3.out.trans (hb.mono B3.out.size))
  clear hb B3
  go_wp2_with fail
  refine (H5.out _).mono ?_
  rintro e w5 ⟨rfl, hb⟩
  have B5 := Sealed.mk (B4.out.trans (hb.mono B4.out.size))
  clear hb B4
  go_wp2
  go_ret
  exact ⟨rfl, B5.out⟩
end Go.Proofs.Ytmdlhbhdlhjakaa

namespace Go.Proofs.Ytmdlhbhdlhjakaa
open Go.RowKit

set_option maxRecDepth 100000 in
set_option maxHeartbeats 1000000 in
theorem tells_walk (s : ByteArray) (most : Int) (w : World) : Calls Try.prog 8 #[.string s, .int .i64 most] w fun e w' => e = .returned (.bool true) ∧ Below w.heap.size w w' := by
  by_cases h : 400 < s.size
  · have hd : decide (400 < (s.size : Int)) = true := decide_eq_true (by omega)
    clear h
    go_enter Try.func8, Try.ntmps8
    go_wp2_with fail
    refine (blocks_any _).mono ?_
    rintro e w1 ⟨rfl, hb⟩
    have B1 := Sealed.mk hb
    clear hb
    go_wp2
    go_ret
    exact ⟨rfl, B1.out⟩
  have hd : decide (400 < (s.size : Int)) = false := decide_eq_false (by omega)
  by_cases h2 : 5000 < most
  · have hd2 : decide (5000 < most) = true := decide_eq_true (by omega)
    clear h h2
    go_enter Try.func8, Try.ntmps8
    go_wp2_with fail
    refine (blocks_any _).mono ?_
    rintro e w1 ⟨rfl, hb⟩
    have B1 := Sealed.mk hb
    clear hb
    go_wp2
    go_ret
    exact ⟨rfl, B1.out⟩
  have hd2 : decide (5000 < most) = false := decide_eq_false (by omega)
  have HV : ∃ V, (∀ w, Calls Try.prog 33 #[.string s, .int .i64 most] w fun e w' => e = inflEnd V ∧ Below w.heap.size w w') ∧ (∀ w, Calls Try.prog 34 #[.string s, .int .i64 most] w fun e w' => e = inflEnd V ∧ Below w.heap.size w w') := by
    by_cases hm : most < 0
    · exact ⟨.error 2, inflate_neg s most hm, rinflate_neg s most hm⟩
    · obtain ⟨m, rfl⟩ : ∃ m : Nat, most = (m : Int) := ⟨most.toNat, by omega⟩
      exact ⟨_, inflate_any s m (by omega) (by omega), rinflate_any s m (by omega) (by omega)⟩
  obtain ⟨V, hV1, hV2⟩ := HV
  have H1 := Sealed.mk hV1
  have H2 := Sealed.mk hV2
  clear h h2 hV1 hV2
  cases V with
  | error er =>
    go_enter Try.func8, Try.ntmps8
    go_wp2_with fail
    refine (H1.out _).mono ?_
    rintro e w1 ⟨he, hb⟩
    simp only [inflEnd] at he
    subst he
    have B1 := Sealed.mk hb
    clear hb
    go_wp2_with fail
    refine (H2.out _).mono ?_
    rintro e w2 ⟨he, hb⟩
    simp only [inflEnd] at he
    subst he
    have B2 := Sealed.mk (B1.out.trans (hb.mono B1.out.size))
    clear hb B1
    go_wp2_with fail
    refine (blocks_any _).mono ?_
    rintro e w3 ⟨rfl, hb⟩
    have B3 := Sealed.mk (B2.out.trans (hb.mono B2.out.size))
    clear hb B2
    go_wp2
    go_ret
    exact ⟨rfl, B3.out⟩
  | ok r =>
    obtain ⟨o, n⟩ := r
    go_enter Try.func8, Try.ntmps8
    go_wp2_with fail
    refine (H1.out _).mono ?_
    rintro e w1 ⟨he, hb⟩
    simp only [inflEnd] at he
    subst he
    have B1 := Sealed.mk hb
    clear hb
    go_wp2_with fail
    refine (H2.out _).mono ?_
    rintro e w2 ⟨he, hb⟩
    simp only [inflEnd] at he
    subst he
    have B2 := Sealed.mk (B1.out.trans (hb.mono B1.out.size))
    clear hb B1
    generalize strOfNums (castL o) = a at *
    go_wp2_with fail
    refine (blocks_any _).mono ?_
    rintro e w3 ⟨rfl, hb⟩
    have B3 := Sealed.mk (B2.out.trans (hb.mono B2.out.size))
    clear hb B2
    go_wp2
    go_ret
    exact ⟨rfl, B3.out⟩
end Go.Proofs.Ytmdlhbhdlhjakaa
