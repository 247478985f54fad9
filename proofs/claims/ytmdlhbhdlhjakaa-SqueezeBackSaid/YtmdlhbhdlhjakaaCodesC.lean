/- The contracts of package codes: Check, may, Codes. -/
import Derived.Test.YtmdlhbhdlhjakaaCodesB
set_option linter.unusedVariables false
set_option linter.unusedSimpArgs false
namespace Go.Proofs.Ytmdlhbhdlhjakaa
open Go.RowKit

theorem info_int : (Try.prog.info? 3).map (·.size) = some 1 := by kernel_rfl
def cnt0 (ls : List Int) : List Int := (cntsOf ls).set 0 0
theorem cnt0_ok {ls : List Int} (h : ls.length ≤ 320) : CntOk (cnt0 ls) := by
  refine ⟨by simp [cnt0, cntsOf_len], fun i => ?_⟩
  have h1 := cnts_bd ls i
  simp only [cnt0, List.getD_eq_getElem?_getD, List.getElem?_set] at *
  split
  · split <;> simp
  · omega
theorem zeros_ok : CntOk zeros16 := ⟨rfl, fun i => by
  simp only [zeros16, List.getD_eq_getElem?_getD, List.getElem?_replicate]
  split <;> simp⟩
/-- Check, as a plain function. -/
def checkC (c : List Int) : Int := if c = zeros16 then 12 else if leftOf c < 0 then 7 else if leftOf c > 0 then 5 else 0
def checkOf (ls : List Int) : Int := if ls.length > 320 then 2 else if ls.all lenOk then checkC (cnt0 ls) else 3

theorem ret_int' {k : IntKind} {a b : Int} (h : a = b) : Ending.returned (.int k a) = .returned (.int k b) := by rw [h]
set_option maxRecDepth 100000 in
theorem check_err {A : Option Addr} {n cap : Nat} {c : List Int} {er : Int} {w : World} (hc : CntOk c) (he : (er != 0) = true)
    (h : Calls Try.prog 42 #[.slice A n cap] w fun e w' => e = .returned (.tuple #[.agg (nums .i64 c).toArray, .int .i64 er]) ∧ Below w.heap.size w w') :
    Calls Try.prog 41 #[.slice A n cap] w fun e w' => e = .returned (.int .i64 er) ∧ Below w.heap.size w w' := by
  have HCo := Sealed.mk hc
  have H := Sealed.mk h
  clear hc h
  go_enter Try.func41, Try.ntmps41
  go_wp2_with (first | (go_at_call 42; refine H.out.mono ?_; rintro e w1 ⟨rfl, hb⟩; have L1 := Sealed.mk hb; clear hb) | ((with_reducible refine gate_dst (N := 3) rfl ?_); refine ev_box (cs := nums .i64 zeros16) (t := 66) ?hg ?hr ?_; (case hg => rfl); (case hr => first | (go_simp; done) | (go_simp; rfl)); intro g1 w2 hg1 hb1 hB1 hs1; have G1 := Sealed.mk hg1; have B1 := Sealed.mk hb1; have L2 := Sealed.mk hB1; clear hg1 hb1 hB1 hs1) | ((with_reducible refine gate_store (p := 3) rfl ?_); refine wp_store_arr rfl _ _ _ rfl (cells := nums .i64 c) rfl rfl B1.out (by rw [nums_length, HCo.out.1]; exact info_counts) (by rw [nums_length, nums_length, HCo.out.1]; rfl) (nums_all _ _) ?_; intro w3 hb3 hc3 hk3 hs3; have B3 := Sealed.mk hb3; have C3 := Sealed.mk hc3; clear hb3 hc3 hk3 hs3) | ((with_reducible refine gate_dst (N := 11) rfl ?_); refine wp_load_arr rfl _ _ rfl rfl B3.out Try.underlying66 rfl (by rw [nums_length, HCo.out.1]; exact info_counts) ?_) | (go_at_call 75; refine (left_any c _ HCo.out).mono ?_; rintro e w4 ⟨rfl, hb⟩; have L4 := Sealed.mk hb; have B4 := Sealed.mk (B3.out.below' hb); clear hb) | ((with_reducible refine gate_dst (N := 18) rfl ?_); refine wp_load_arr rfl _ _ rfl rfl B4.out Try.underlying66 rfl (by rw [nums_length, HCo.out.1]; exact info_counts) ?_))
  go_ret
  refine ⟨rfl, ?_⟩
  exact (((((Chg.refl w.heap.size [] w).below_step L1.out).below_step L2.out).one_new C3.out (by rw [G1.out]; exact L1.out.size)).below_step L4.out).to_below

set_option maxRecDepth 100000 in
theorem check_cnt {A : Option Addr} {n cap : Nat} {c : List Int} {w : World} (hc : CntOk c)
    (h : Calls Try.prog 42 #[.slice A n cap] w fun e w' => e = .returned (.tuple #[.agg (nums .i64 c).toArray, .int .i64 0]) ∧ Below w.heap.size w w') :
    Calls Try.prog 41 #[.slice A n cap] w fun e w' => e = .returned (.int .i64 (checkC c)) ∧ Below w.heap.size w w' := by
  have HCo := Sealed.mk hc
  have H := Sealed.mk h
  have heq : ∀ wx : World, (binOp .eql 66 (.agg (nums .i64 c).toArray) (.agg #[.int .i64 0, .int .i64 0, .int .i64 0, .int .i64 0, .int .i64 0, .int .i64 0, .int .i64 0, .int .i64 0, .int .i64 0, .int .i64 0, .int .i64 0, .int .i64 0, .int .i64 0, .int .i64 0, .int .i64 0, .int .i64 0])).run Try.prog wx = .ok (.bool (decide (c = zeros16))) wx := fun wx => run_eql_ints (P := Try.prog) (w := wx) Try.underlying66 Try.underlying3 info_int c zeros16 HCo.out.1 rfl
  clear hc h
  have HX : True := trivial
  by_cases hz : c = zeros16
  · have hz' := Sealed.mk hz
    simp only [decide_eq_true hz] at heq
    clear hz
    have HV : Sealed (12 = checkC c) := ⟨by simp [checkC, hz'.out]⟩
    clear HX
    go_enter Try.func41, Try.ntmps41
    go_wp2_with (first | (go_at_call 42; refine H.out.mono ?_; rintro e w1 ⟨rfl, hb⟩; have L1 := Sealed.mk hb; clear hb) | ((with_reducible refine gate_dst (N := 3) rfl ?_); refine ev_box (cs := nums .i64 zeros16) (t := 66) ?hg ?hr ?_; (case hg => rfl); (case hr => first | (go_simp; done) | (go_simp; rfl)); intro g1 w2 hg1 hb1 hB1 hs1; have G1 := Sealed.mk hg1; have B1 := Sealed.mk hb1; have L2 := Sealed.mk hB1; clear hg1 hb1 hB1 hs1) | ((with_reducible refine gate_store (p := 3) rfl ?_); refine wp_store_arr rfl _ _ _ rfl (cells := nums .i64 c) rfl rfl B1.out (by rw [nums_length, HCo.out.1]; exact info_counts) (by rw [nums_length, nums_length, HCo.out.1]; rfl) (nums_all _ _) ?_; intro w3 hb3 hc3 hk3 hs3; have B3 := Sealed.mk hb3; have C3 := Sealed.mk hc3; clear hb3 hc3 hk3 hs3) | ((with_reducible refine gate_dst (N := 11) rfl ?_); refine wp_load_arr rfl _ _ rfl rfl B3.out Try.underlying66 rfl (by rw [nums_length, HCo.out.1]; exact info_counts) ?_) | (go_at_call 75; refine (left_any c _ HCo.out).mono ?_; rintro e w4 ⟨rfl, hb⟩; have L4 := Sealed.mk hb; have B4 := Sealed.mk (B3.out.below' hb); clear hb) | ((with_reducible refine gate_dst (N := 18) rfl ?_); refine wp_load_arr rfl _ _ rfl rfl B4.out Try.underlying66 rfl (by rw [nums_length, HCo.out.1]; exact info_counts) ?_))
    go_ret
    refine ⟨ret_int' HV.out, ?_⟩
    exact (((((Chg.refl w.heap.size [] w).below_step L1.out).below_step L2.out).one_new C3.out (by rw [G1.out]; exact L1.out.size)).below_step L4.out).to_below
  · have hz' := Sealed.mk hz
    simp only [decide_eq_false hz] at heq
    clear hz
    by_cases hl : leftOf c < 0
    · have hl' := Sealed.mk hl
      have hd : decide (leftOf c < 0) = true := decide_eq_true hl
      clear hl
      have HV : Sealed (7 = checkC c) := ⟨by simp [checkC, hz'.out, hl'.out]⟩
      clear HX
      go_enter Try.func41, Try.ntmps41
      go_wp2_with (first | (go_at_call 42; refine H.out.mono ?_; rintro e w1 ⟨rfl, hb⟩; have L1 := Sealed.mk hb; clear hb) | ((with_reducible refine gate_dst (N := 3) rfl ?_); refine ev_box (cs := nums .i64 zeros16) (t := 66) ?hg ?hr ?_; (case hg => rfl); (case hr => first | (go_simp; done) | (go_simp; rfl)); intro g1 w2 hg1 hb1 hB1 hs1; have G1 := Sealed.mk hg1; have B1 := Sealed.mk hb1; have L2 := Sealed.mk hB1; clear hg1 hb1 hB1 hs1) | ((with_reducible refine gate_store (p := 3) rfl ?_); refine wp_store_arr rfl _ _ _ rfl (cells := nums .i64 c) rfl rfl B1.out (by rw [nums_length, HCo.out.1]; exact info_counts) (by rw [nums_length, nums_length, HCo.out.1]; rfl) (nums_all _ _) ?_; intro w3 hb3 hc3 hk3 hs3; have B3 := Sealed.mk hb3; have C3 := Sealed.mk hc3; clear hb3 hc3 hk3 hs3) | ((with_reducible refine gate_dst (N := 11) rfl ?_); refine wp_load_arr rfl _ _ rfl rfl B3.out Try.underlying66 rfl (by rw [nums_length, HCo.out.1]; exact info_counts) ?_) | (go_at_call 75; refine (left_any c _ HCo.out).mono ?_; rintro e w4 ⟨rfl, hb⟩; have L4 := Sealed.mk hb; have B4 := Sealed.mk (B3.out.below' hb); clear hb) | ((with_reducible refine gate_dst (N := 18) rfl ?_); refine wp_load_arr rfl _ _ rfl rfl B4.out Try.underlying66 rfl (by rw [nums_length, HCo.out.1]; exact info_counts) ?_))
      go_ret
      refine ⟨ret_int' HV.out, ?_⟩
      exact (((((Chg.refl w.heap.size [] w).below_step L1.out).below_step L2.out).one_new C3.out (by rw [G1.out]; exact L1.out.size)).below_step L4.out).to_below
    · have hd : decide (leftOf c < 0) = false := decide_eq_false hl
      by_cases hg : leftOf c > 0
      · have hl' := Sealed.mk hl
        have hg' := Sealed.mk hg
        have hd2 : decide (0 < leftOf c) = true := decide_eq_true hg
        clear hl hg
        have HV : Sealed (5 = checkC c) := ⟨by simp [checkC, hz'.out, hl'.out, hg'.out]⟩
        clear HX
        go_enter Try.func41, Try.ntmps41
        go_wp2_with (first | (go_at_call 42; refine H.out.mono ?_; rintro e w1 ⟨rfl, hb⟩; have L1 := Sealed.mk hb; clear hb) | ((with_reducible refine gate_dst (N := 3) rfl ?_); refine ev_box (cs := nums .i64 zeros16) (t := 66) ?hg ?hr ?_; (case hg => rfl); (case hr => first | (go_simp; done) | (go_simp; rfl)); intro g1 w2 hg1 hb1 hB1 hs1; have G1 := Sealed.mk hg1; have B1 := Sealed.mk hb1; have L2 := Sealed.mk hB1; clear hg1 hb1 hB1 hs1) | ((with_reducible refine gate_store (p := 3) rfl ?_); refine wp_store_arr rfl _ _ _ rfl (cells := nums .i64 c) rfl rfl B1.out (by rw [nums_length, HCo.out.1]; exact info_counts) (by rw [nums_length, nums_length, HCo.out.1]; rfl) (nums_all _ _) ?_; intro w3 hb3 hc3 hk3 hs3; have B3 := Sealed.mk hb3; have C3 := Sealed.mk hc3; clear hb3 hc3 hk3 hs3) | ((with_reducible refine gate_dst (N := 11) rfl ?_); refine wp_load_arr rfl _ _ rfl rfl B3.out Try.underlying66 rfl (by rw [nums_length, HCo.out.1]; exact info_counts) ?_) | (go_at_call 75; refine (left_any c _ HCo.out).mono ?_; rintro e w4 ⟨rfl, hb⟩; have L4 := Sealed.mk hb; have B4 := Sealed.mk (B3.out.below' hb); clear hb) | ((with_reducible refine gate_dst (N := 18) rfl ?_); refine wp_load_arr rfl _ _ rfl rfl B4.out Try.underlying66 rfl (by rw [nums_length, HCo.out.1]; exact info_counts) ?_))
        go_ret
        refine ⟨ret_int' HV.out, ?_⟩
        exact (((((Chg.refl w.heap.size [] w).below_step L1.out).below_step L2.out).one_new C3.out (by rw [G1.out]; exact L1.out.size)).below_step L4.out).to_below
      · have hl' := Sealed.mk hl
        have hg' := Sealed.mk hg
        have hd2 : decide (0 < leftOf c) = false := decide_eq_false hg
        clear hl hg
        have HV : Sealed (0 = checkC c) := ⟨by simp [checkC, hz'.out, hl'.out, hg'.out]⟩
        clear HX
        go_enter Try.func41, Try.ntmps41
        go_wp2_with (first | (go_at_call 42; refine H.out.mono ?_; rintro e w1 ⟨rfl, hb⟩; have L1 := Sealed.mk hb; clear hb) | ((with_reducible refine gate_dst (N := 3) rfl ?_); refine ev_box (cs := nums .i64 zeros16) (t := 66) ?hg ?hr ?_; (case hg => rfl); (case hr => first | (go_simp; done) | (go_simp; rfl)); intro g1 w2 hg1 hb1 hB1 hs1; have G1 := Sealed.mk hg1; have B1 := Sealed.mk hb1; have L2 := Sealed.mk hB1; clear hg1 hb1 hB1 hs1) | ((with_reducible refine gate_store (p := 3) rfl ?_); refine wp_store_arr rfl _ _ _ rfl (cells := nums .i64 c) rfl rfl B1.out (by rw [nums_length, HCo.out.1]; exact info_counts) (by rw [nums_length, nums_length, HCo.out.1]; rfl) (nums_all _ _) ?_; intro w3 hb3 hc3 hk3 hs3; have B3 := Sealed.mk hb3; have C3 := Sealed.mk hc3; clear hb3 hc3 hk3 hs3) | ((with_reducible refine gate_dst (N := 11) rfl ?_); refine wp_load_arr rfl _ _ rfl rfl B3.out Try.underlying66 rfl (by rw [nums_length, HCo.out.1]; exact info_counts) ?_) | (go_at_call 75; refine (left_any c _ HCo.out).mono ?_; rintro e w4 ⟨rfl, hb⟩; have L4 := Sealed.mk hb; have B4 := Sealed.mk (B3.out.below' hb); clear hb) | ((with_reducible refine gate_dst (N := 18) rfl ?_); refine wp_load_arr rfl _ _ rfl rfl B4.out Try.underlying66 rfl (by rw [nums_length, HCo.out.1]; exact info_counts) ?_))
        go_ret
        refine ⟨ret_int' HV.out, ?_⟩
        exact (((((Chg.refl w.heap.size [] w).below_step L1.out).below_step L2.out).one_new C3.out (by rw [G1.out]; exact L1.out.size)).below_step L4.out).to_below

theorem check_long (A : Option Addr) (n c : Nat) (w : World) (hn : 320 < n) :
    Calls Try.prog 41 #[.slice A n c] w fun e w' => e = .returned (.int .i64 2) ∧ Below w.heap.size w w' :=
  check_err zeros_ok rfl (counted_long A n c w hn)
theorem check_any (A : Option Addr) (c : Nat) (ls : List Int) (w : World) (hr : Reads w .i64 A ls) :
    Calls Try.prog 41 #[.slice A ls.length c] w fun e w' => e = .returned (.int .i64 (checkOf ls)) ∧ Below w.heap.size w w' := by
  by_cases hn : ls.length > 320
  · simp only [checkOf, if_pos hn]
    exact check_long A ls.length c w hn
  · have h := counted_ok A c ls w hr (by omega)
    by_cases ha : ls.all lenOk = true
    · rw [cntVal_ok ha] at h
      simp only [checkOf, if_neg hn, ha, if_true]
      exact check_cnt (cnt0_ok (by omega)) h
    · have ha' : ls.all lenOk = false := by simpa using ha
      rw [cntVal_bad ha'] at h
      simp only [checkOf, if_neg hn, ha']
      exact check_err zeros_ok rfl h

def mayOf (e : Int) : Int := if e = 12 then 0 else if e = 5 then 0 else e
theorem may_of {A : Option Addr} {n c : Nat} {r : Int} {w : World} (h : Calls Try.prog 41 #[.slice A n c] w fun e w' => e = .returned (.int .i64 r) ∧ Below w.heap.size w w') :
    Calls Try.prog 73 #[.slice A n c] w fun e w' => e = .returned (.int .i64 (mayOf r)) ∧ Below w.heap.size w w' := by
  have H := Sealed.mk h
  clear h
  by_cases h12 : r = 12
  · subst h12
    go_enter Try.func73, Try.ntmps73
    go_wp2_with (go_at_call 41; refine H.out.mono ?_; rintro e w1 ⟨rfl, hb⟩; have L1 := Sealed.mk hb; clear hb)
    go_ret
    exact ⟨rfl, L1.out⟩
  · by_cases h5 : r = 5
    · subst h5
      go_enter Try.func73, Try.ntmps73
      go_wp2_with (go_at_call 41; refine H.out.mono ?_; rintro e w1 ⟨rfl, hb⟩; have L1 := Sealed.mk hb; clear hb)
      go_ret
      exact ⟨rfl, L1.out⟩
    · have HV : Sealed (mayOf r = r) := ⟨by simp [mayOf, h12, h5]⟩
      have b1 : (r == 12) = false := by simpa using h12
      have b2 : (r == 5) = false := by simpa using h5
      clear h12 h5
      go_enter Try.func73, Try.ntmps73
      go_wp2_with (go_at_call 41; refine H.out.mono ?_; rintro e w1 ⟨rfl, hb⟩; have L1 := Sealed.mk hb; clear hb)
      go_ret
      exact ⟨ret_int' HV.out.symm, L1.out⟩
theorem may_any (A : Option Addr) (c : Nat) (ls : List Int) (w : World) (hr : Reads w .i64 A ls) :
    Calls Try.prog 73 #[.slice A ls.length c] w fun e w' => e = .returned (.int .i64 (mayOf (checkOf ls))) ∧ Below w.heap.size w w' :=
  may_of (check_any A c ls w hr)
end Go.Proofs.Ytmdlhbhdlhjakaa
