/- The walks of the statements InflateCut and InflateRoom. -/
import Derived.Test.YtmdlhbhdlhjakaaCutP
set_option linter.unusedVariables false
set_option linter.unusedSimpArgs false
namespace Go.Proofs.Ytmdlhbhdlhjakaa
open Go.RowKit

theorem u16_of {a : Int} (h : (Lit.int .u16 a).wf = true) : ∃ c : Nat, a = (c : Int) ∧ c < 65536 := by
  simp [Lit.wf, IntKind.min, IntKind.max, IntKind.signed, IntKind.bits] at h
  exact ⟨a.toNat, by omega, by omega⟩
set_option maxRecDepth 100000 in
set_option maxHeartbeats 1000000 in
theorem cut_walk (s more : ByteArray) (cut : Nat) (hcut : cut < 65536) (w : World) : Calls Try.prog 9 #[.string s, .string more, .int .u16 cut] w fun e w' => e = .returned (.bool true) ∧ Below w.heap.size w w' := by
  by_cases h : 2000 < s.size
  · have hd : decide (2000 < (s.size : Int)) = true := decide_eq_true (by omega)
    clear h
    go_enter Try.func9, Try.ntmps9
    go_wp2_with fail
    refine (blocks_any _).mono ?_
    rintro e w1 ⟨rfl, hb⟩
    have B1 := Sealed.mk hb
    clear hb
    go_wp2
    go_ret
    exact ⟨rfl, B1.out⟩
  · have hd : decide (2000 < (s.size : Int)) = false := decide_eq_false (by omega)
    have hss : s.size ≤ 2000 := by omega
    by_cases h2 : 2000 < more.size
    · have hd2 : decide (2000 < (more.size : Int)) = true := decide_eq_true (by omega)
      clear h h2
      go_enter Try.func9, Try.ntmps9
      go_wp2_with fail
      refine (blocks_any _).mono ?_
      rintro e w1 ⟨rfl, hb⟩
      have B1 := Sealed.mk hb
      clear hb
      go_wp2
      go_ret
      exact ⟨rfl, B1.out⟩
    · have hd2 : decide (2000 < (more.size : Int)) = false := decide_eq_false (by omega)
      have hms : more.size ≤ 2000 := by omega
      have H1 : Sealed (Calls Try.prog 33 #[.string s, .int .i64 20000] w fun e w' => e = inflEnd (inflateS s 20000) ∧ Below w.heap.size w w') := ⟨inflate_any s 20000 (by omega) (by omega) w⟩
      clear h h2
      cases hR : inflateS s 20000 with
      | error er =>
        have her := inflS_bad hR
        rw [hR] at H1
        have hne : ((er : Int) != 0) = true := by simp; omega
        clear hR
        go_enter Try.func9, Try.ntmps9
        go_wp2_with fail
        refine H1.out.mono ?_
        rintro e w1 ⟨he, hb⟩
        simp only [inflEnd] at he
        subst he
        have B1 := Sealed.mk hb
        clear hb
        go_wp2_with fail
        refine (blocks_any _).mono ?_
        rintro e w2 ⟨rfl, hb⟩
        have B2 := Sealed.mk (B1.out.trans (hb.mono B1.out.size))
        clear hb B1
        go_wp2
        go_ret
        exact ⟨rfl, B2.out⟩
      | ok r =>
        obtain ⟨o, n⟩ := r
        have hp := inflate_pos hR
        have hmod : cut % n < n := Nat.mod_lt _ (by omega)
        have H2 : Sealed (∀ w, Calls Try.prog 33 #[.string (s.extract 0 (cut % n)), .int .i64 20000] w fun e w' => e = .returned (.tuple #[.string ⟨#[]⟩, .int .i64 0, .int .i64 5]) ∧ Below w.heap.size w w') := ⟨fun w => by
          have h := inflate_any (s.extract 0 (cut % n)) 20000 (by simp [ByteArray.size_extract]; omega) (by omega) w
          rw [inflate_cut hR hmod] at h; exact h⟩
        have H3 : Sealed (∀ w, Calls Try.prog 33 #[.string (s.extract 0 n ++ more), .int .i64 20000] w fun e w' => e = .returned (.tuple #[.string (strOfNums (castL o)), .int .i64 n, .int .i64 0]) ∧ Below w.heap.size w w') := ⟨fun w => by
          have h := inflate_any (s.extract 0 n ++ more) 20000 (by simp [ByteArray.size_extract]; omega) (by omega) w
          rw [inflate_more hR more] at h; exact h⟩
        rw [hR] at H1
        have hem : Int.tmod (cut : Int) (n : Int) = ((cut % n : Nat) : Int) := by rw [Int.tmod_eq_emod_of_nonneg (by omega)]; rfl
        have hn0 : ((n : Int) == 0) = false := by simp; omega
        have hdn : decide ((n : Int) < 1) = false := decide_eq_false (by omega)
        have hdn2 : decide ((s.size : Int) < (n : Int)) = false := decide_eq_false (by omega)
        have hn1 : 1 ≤ n := hp.1
        have hns : n ≤ s.size := hp.2.1
        obtain ⟨c, hc⟩ : ∃ c, c = cut % n := ⟨_, rfl⟩
        rw [← hc] at hem H2 hmod
        have H1 : Sealed (Calls Try.prog 33 #[.string s, .int .i64 20000] w fun e w' => e = .returned (.tuple #[.string (strOfNums (castL o)), .int .i64 n, .int .i64 0]) ∧ Below w.heap.size w w') := ⟨H1.out⟩
        generalize strOfNums (castL o) = a at *
        have hcs : c ≤ s.size := by omega
        clear hR hc hp
        go_enter Try.func9, Try.ntmps9
        go_wp2_with fail
        refine H1.out.mono ?_
        rintro e w1 ⟨rfl, hb⟩
        have B1 := Sealed.mk hb
        clear hb
        go_wp2_with fail
        refine (H2.out _).mono ?_
        rintro e w2 ⟨rfl, hb⟩
        have B2 := Sealed.mk (B1.out.trans (hb.mono B1.out.size))
        clear hb B1
        go_wp2_with fail
        refine (H3.out _).mono ?_
        rintro e w3 ⟨rfl, hb⟩
        have B3 := Sealed.mk (B2.out.trans (hb.mono B2.out.size))
        clear hb B2
        go_wp2_with fail
        refine (blocks_any _).mono ?_
        rintro e w4 ⟨rfl, hb⟩
        have B4 := Sealed.mk (B3.out.trans (hb.mono B3.out.size))
        clear hb B3
        go_wp2
        go_ret
        exact ⟨rfl, B4.out⟩
set_option maxRecDepth 100000 in
set_option maxHeartbeats 1000000 in
theorem room_walk (s : ByteArray) (less more : Nat) (hl : less < 65536) (hm : more < 65536) (w : World) : Calls Try.prog 10 #[.string s, .int .u16 less, .int .u16 more] w fun e w' => e = .returned (.bool true) ∧ Below w.heap.size w w' := by
  by_cases h : 2000 < s.size
  · have hd : decide (2000 < (s.size : Int)) = true := decide_eq_true (by omega)
    clear h
    go_enter Try.func10, Try.ntmps10
    go_wp2_with fail
    refine (blocks_any _).mono ?_
    rintro e w1 ⟨rfl, hb⟩
    have B1 := Sealed.mk hb
    clear hb
    go_wp2
    go_ret
    exact ⟨rfl, B1.out⟩
  · have hd : decide (2000 < (s.size : Int)) = false := decide_eq_false (by omega)
    have hss : s.size ≤ 2000 := by omega
    have H1 : Sealed (Calls Try.prog 33 #[.string s, .int .i64 20000] w fun e w' => e = inflEnd (inflateS s 20000) ∧ Below w.heap.size w w') := ⟨inflate_any s 20000 (by omega) (by omega) w⟩
    clear h
    cases hR : inflateS s 20000 with
    | error er =>
      have her := inflS_bad hR
      rw [hR] at H1
      have hne : ((er : Int) != 0) = true := by simp; omega
      clear hR
      go_enter Try.func10, Try.ntmps10
      go_wp2_with fail
      refine H1.out.mono ?_
      rintro e w1 ⟨he, hb⟩
      simp only [inflEnd] at he
      subst he
      have B1 := Sealed.mk hb
      clear hb
      go_wp2_with fail
      refine (blocks_any _).mono ?_
      rintro e w2 ⟨rfl, hb⟩
      have B2 := Sealed.mk (B1.out.trans (hb.mono B1.out.size))
      clear hb B1
      go_wp2
      go_ret
      exact ⟨rfl, B2.out⟩
    | ok r =>
      obtain ⟨o, n⟩ := r
      have hp := inflate_pos hR
      have H2 : Sealed (∀ w, Calls Try.prog 33 #[.string s, .int .i64 (o.length + more : Nat)] w fun e w' => e = .returned (.tuple #[.string (strOfNums (castL o)), .int .i64 n, .int .i64 0]) ∧ Below w.heap.size w w') := ⟨fun w => by
        have h := inflate_any s (o.length + more) (by omega) (by omega) w
        rw [inflate_room hR, if_neg (by omega)] at h; exact h⟩
      rw [hR] at H1
      have H1 : Sealed (Calls Try.prog 33 #[.string s, .int .i64 20000] w fun e w' => e = .returned (.tuple #[.string (strOfNums (castL o)), .int .i64 n, .int .i64 0]) ∧ Below w.heap.size w w') := ⟨H1.out⟩
      have ew : IntKind.i64.wrap ((o.length : Int) + (more : Int)) = ((o.length + more : Nat) : Int) := by rw [IntKind.wrap_i64]; omega
      have hsz := str_size o
      have hol : o.length ≤ 20000 := hp.2.2
      by_cases h0 : o.length = 0
      · obtain rfl : o = [] := List.eq_nil_of_length_eq_zero h0
        have he : strOfNums (castL []) = ⟨#[]⟩ := by kernel_rfl
        rw [he] at H1 H2
        simp only [List.length_nil, Nat.zero_add] at H2
        clear hR hp hsz h0 ew he hol
        go_enter Try.func10, Try.ntmps10
        go_wp2_with fail
        refine H1.out.mono ?_
        rintro e w1 ⟨rfl, hb⟩
        have B1 := Sealed.mk hb
        clear hb
        go_wp2_with fail
        refine (H2.out _).mono ?_
        rintro e w2 ⟨rfl, hb⟩
        have B2 := Sealed.mk (B1.out.trans (hb.mono B1.out.size))
        clear hb B1
        go_wp2_with fail
        refine (blocks_any _).mono ?_
        rintro e w4 ⟨rfl, hb⟩
        have B4 := Sealed.mk (B2.out.trans (hb.mono B2.out.size))
        clear hb B2
        go_wp2
        go_ret
        exact ⟨rfl, B4.out⟩
      · have hmod : less % o.length < o.length := Nat.mod_lt _ (by omega)
        have H3 : Sealed (∀ w, Calls Try.prog 33 #[.string s, .int .i64 (less % o.length : Nat)] w fun e w' => e = .returned (.tuple #[.string ⟨#[]⟩, .int .i64 0, .int .i64 7]) ∧ Below w.heap.size w w') := ⟨fun w => by
          have h := inflate_any s (less % o.length) (by omega) (by have := hp.2.2; omega) w
          rw [inflate_room hR, if_pos hmod] at h; exact h⟩
        have hem : Int.tmod (less : Int) (o.length : Int) = ((less % o.length : Nat) : Int) := by rw [Int.tmod_eq_emod_of_nonneg (by omega)]; rfl
        have hn0 : ((o.length : Int) == 0) = false := beq_eq_false_iff_ne.2 (by omega)
        generalize strOfNums (castL o) = a at *
        have ha1 : 1 ≤ a.size := by omega
        rw [← hsz] at hem hn0 ew H2 H3
        obtain ⟨c, hc⟩ : ∃ c, c = less % a.size := ⟨_, rfl⟩
        rw [← hc] at hem H3
        clear hR hp hsz h0 hol hc hmod
        go_enter Try.func10, Try.ntmps10
        go_wp2_with fail
        refine H1.out.mono ?_
        rintro e w1 ⟨rfl, hb⟩
        have B1 := Sealed.mk hb
        clear hb
        go_wp2_with fail
        refine (H2.out _).mono ?_
        rintro e w2 ⟨rfl, hb⟩
        have B2 := Sealed.mk (B1.out.trans (hb.mono B1.out.size))
        clear hb B1
        go_wp2_with fail
        · refine (blocks_any _).mono ?_
          rintro e w4 ⟨rfl, hb⟩
          have B4 := Sealed.mk (B2.out.trans (hb.mono B2.out.size))
          clear hb B2
          go_wp2
          go_ret
          exact ⟨rfl, B4.out⟩
        · refine (H3.out _).mono ?_
          rintro e w3 ⟨rfl, hb⟩
          have B3 := Sealed.mk (B2.out.trans (hb.mono B2.out.size))
          clear hb B2
          go_wp2_with fail
          refine (blocks_any _).mono ?_
          rintro e w4 ⟨rfl, hb⟩
          have B4 := Sealed.mk (B3.out.trans (hb.mono B3.out.size))
          clear hb B3
          go_wp2
          go_ret
          exact ⟨rfl, B4.out⟩
end Go.Proofs.Ytmdlhbhdlhjakaa
