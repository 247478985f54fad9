/- The contracts of package codes: left, firsts, Check. The contracts of package codes: Check, may, Codes. -/
import Derived.Test.YtmdlhbhdlhjakaaM02
set_option linter.unusedVariables false
set_option linter.unusedSimpArgs false
namespace Go.Proofs.Ytmdlhbhdlhjakaa
open Go.RowKit

/-- What is left behind the lengths from n on, k of them. -/
def leftFrom (c : List Int) : Nat → Nat → Int → Int
  | 0, _, l => l
  | k + 1, n, l => if 2 * l - c.getD n 0 < 0 then -1 else leftFrom c k (n + 1) (2 * l - c.getD n 0)
def leftOf (c : List Int) : Int := leftFrom c 15 1 1
def CntOk (c : List Int) : Prop := c.length = 16 ∧ ∀ i, 0 ≤ c.getD i 0 ∧ c.getD i 0 ≤ 1000

set_option maxRecDepth 100000 in
theorem left_any (c : List Int) (w : World) (hc : CntOk c) :
    Calls Try.prog 75 #[.agg (nums .i64 c).toArray] w fun e w' => e = .returned (.int .i64 (leftOf c)) ∧ Below w.heap.size w w' := by
  have HCo := Sealed.mk hc
  clear hc
  go_enter Try.func75, Try.ntmps75
  go_wp2_with (first | ((with_reducible refine gate_dst (N := 1) rfl ?_); refine ev_box (cs := nums .i64 c) (t := 66) ?hg ?hr ?_; (case hg => rfl); (case hr => first | (go_simp; done) | (go_simp; rfl)); intro g1 w1 hg1 hb1 hB1 hs1; have B1 := Sealed.mk hb1; have L1 := Sealed.mk hB1; clear hg1 hb1 hB1 hs1))
  go_loopg [3, 4] 15 (fun k l n w' => ∃ (m : Nat) (x : Int), n = .int .i64 ((16 - m : Nat) : Int) ∧ l = .int .i64 x ∧ Sealed (k = m) ∧ m ≤ 15 ∧ 0 ≤ x ∧ x ≤ 2 ^ (15 - m) ∧ Sealed (leftFrom c m (16 - m) x = leftOf c) ∧ Sealed (IsBlk w' g1 (nums .i64 c) 66) ∧ Sealed (Below w.heap.size w w'))
  case atStart => exact ⟨15, 1, rfl, rfl, ⟨rfl⟩, by omega, by omega, by decide, ⟨rfl⟩, B1, L1⟩
  case round =>
    clear B1 L1
    obtain ⟨m, x, rfl, rfl, HK, hm, hx0, hx1, HE, HB, HL⟩ := hrel
    cases m with
    | zero =>
      go_wp2
      go_ret
      have he := HE.out
      simp only [leftFrom] at he
      rw [he]
      exact ⟨rfl, HL.out⟩
    | succ m =>
      have hp : (2 : Int) ^ (15 - (m + 1)) ≤ 2 ^ 14 := by
        have : (2 : Nat) ^ (15 - (m + 1)) ≤ 2 ^ 14 := Nat.pow_le_pow_right (by decide) (by omega)
        exact_mod_cast this
      have hx2 : x ≤ 16384 := by omega
      have hp2 : (2 : Int) ^ (15 - m) = 2 * 2 ^ (15 - (m + 1)) := by
        have : 15 - m = (15 - (m + 1)) + 1 := by omega
        rw [this, Int.pow_succ, Int.mul_comm]
      have hcb := HCo.out.2 (16 - (m + 1))
      have hl := HB.out.cell (16 - (m + 1)) (nums_get (k := .i64) (by rw [HCo.out.1]; omega))
      obtain ⟨n, hn⟩ : ∃ n, n = 16 - (m + 1) := ⟨_, rfl⟩
      have hn15 : n ≤ 15 := by omega
      have hE : leftFrom c (m + 1) n x = leftOf c := by rw [hn]; exact HE.out
      rw [← hn] at hcb hl
      obtain ⟨y, hy⟩ : ∃ y, y = c.getD n 0 := ⟨_, rfl⟩
      rw [← hy] at hcb hl
      have hn1 : (n : Int) + 1 = ((16 - m : Nat) : Int) := by omega
      have HN1 := Sealed.mk hn1
      have HN0 : Sealed (16 - m = n + 1) := ⟨by omega⟩
      simp only [leftFrom, ← hy] at hE
      have hx3 : x ≤ 2 ^ (15 - (m + 1)) := hx1
      have HX3 := Sealed.mk hx3
      have HP2 := Sealed.mk hp2
      have hy0 := hcb.1
      have hy1 := hcb.2
      clear hx1 hp hp2 hx3 hn1 hcb HE hy
      rw [← hn]
      clear hn
      by_cases hneg : 2 * x - y < 0
      · rw [if_pos hneg] at hE
        have HE := Sealed.mk hE
        have hd : decide (2 * x - y < 0) = true := decide_eq_true hneg
        clear hE
        go_wp2
        go_ret
        rw [← HE.out]
        exact ⟨rfl, HL.out⟩
      · rw [if_neg hneg] at hE
        have HE := Sealed.mk hE
        have hd : decide (2 * x - y < 0) = false := decide_eq_false hneg
        clear hE
        go_wp2
        go_roundg m
        case measure => have := HK.out; omega
        case rel =>
          refine ⟨m, 2 * x - y, by rw [HN1.out], rfl, ⟨rfl⟩, by omega, by omega, ?_, ⟨by rw [HN0.out]; exact HE.out⟩, HB, HL⟩
          have := HX3.out
          rw [HP2.out]
          omega

/-! ### the first number of each length -/
def firstAt (c : List Int) : Nat → Int
  | 0 => 0
  | n + 1 => 2 * (firstAt c n + c.getD n 0)
theorem firstAt_bd {c : List Int} (hc : CntOk c) : ∀ n, 0 ≤ firstAt c n ∧ firstAt c n ≤ 1000 * (2 ^ (n + 1) - 2)
  | 0 => by simp [firstAt]
  | n + 1 => by
    have h1 := firstAt_bd hc n
    have h2 := hc.2 n
    have h3 : (2 : Int) ^ (n + 1 + 1) = 2 * 2 ^ (n + 1) := by rw [Int.pow_succ, Int.mul_comm]
    rw [firstAt, h3]
    omega
theorem firstAt_le {c : List Int} (hc : CntOk c) {n : Nat} (hn : n ≤ 16) : 0 ≤ firstAt c n ∧ firstAt c n ≤ 200000000 := by
  have h := firstAt_bd hc n
  have hp : (2 : Int) ^ (n + 1) ≤ 2 ^ 17 := by
    have : (2 : Nat) ^ (n + 1) ≤ 2 ^ 17 := Nat.pow_le_pow_right (by decide) (by omega)
    exact_mod_cast this
  omega
def firstsUpto (c : List Int) (m : Nat) : List Int := (List.range 16).map fun i => if i < m then firstAt c i else 0
def firstsOf (c : List Int) : List Int := firstsUpto c 16
theorem firstsUpto_len (c : List Int) (m : Nat) : (firstsUpto c m).length = 16 := by simp [firstsUpto]
theorem firstsUpto_get (c : List Int) (m i : Nat) (h : i < 16) : (firstsUpto c m).getD i 0 = if i < m then firstAt c i else 0 := by
  simp [firstsUpto, List.getD_eq_getElem?_getD, h]
theorem firstsUpto_step (c : List Int) (m : Nat) : (firstsUpto c m).set m (firstAt c m) = firstsUpto c (m + 1) := by
  apply List.ext_getElem?
  intro i
  rw [List.getElem?_set, firstsUpto_len]
  by_cases h : m = i
  · subst h
    by_cases h16 : m < 16
    · simp [firstsUpto, h16]
    · simp [firstsUpto, h16]
  · by_cases h16 : i < 16
    · have : (i < m + 1) = (i < m) := by simp; omega
      simp [h, firstsUpto, h16, this]
    · simp [h, firstsUpto, h16]
theorem firstsUpto_one (c : List Int) : firstsUpto c 1 = zeros16 := by rfl

theorem results_cell {fn : Func} {p : Tmp} {ty : TypeId} (h : fn.results = #[.cell p ty]) (tmps : Array Value) {w : World} {g : Nat} {cs : List Value} {t : TypeId} (hp : tmps.getD p undef = .pointer (some ⟨g, 0, none⟩)) (hb : IsBlk w g cs t)
    {P : Program} {d : TypeDesc} (hu : P.underlying ty = some d) (hd : isRowDesc d = true) (hi : (P.info? ty).map (·.size) = some cs.length) : (results fn tmps).run P w = .ok (.agg cs.toArray) w := by
  have hp' : tmps[p]?.getD undef = .pointer (some ⟨g, 0, none⟩) := by simpa using hp
  simp [results, h, hp', asAddr, hb.loadVar ty hu hd hi]

set_option maxRecDepth 100000 in
theorem firsts_any (c : List Int) (w : World) (hc : CntOk c) :
    Calls Try.prog 74 #[.agg (nums .i64 c).toArray] w fun e w' => e = .returned (.agg (nums .i64 (firstsOf c)).toArray) ∧ Below w.heap.size w w' := by
  have HCo := Sealed.mk hc
  clear hc
  go_enter Try.func74, Try.ntmps74
  go_wp2_with (first | ((with_reducible refine gate_dst (N := 1) rfl ?_); refine ev_box (cs := nums .i64 c) (t := 66) ?hg ?hr ?_; (case hg => rfl); (case hr => first | (go_simp; done) | (go_simp; rfl)); intro g1 w1 hg1 hb1 hB1 hs1; have G1 := Sealed.mk hg1; have S1 := Sealed.mk hs1; have B1 := Sealed.mk hb1; have L1 := Sealed.mk hB1; clear hg1 hb1 hB1 hs1) | ((with_reducible refine gate_dst (N := 2) rfl ?_); refine ev_box (cs := nums .i64 zeros16) (t := 66) ?hg ?hr ?_; (case hg => rfl); (case hr => first | (go_simp; done) | (go_simp; rfl)); intro g2 w2 hg2 hb2 hB2 hs2; have G2 := Sealed.mk hg2; have S2 := Sealed.mk hs2; have B2 := Sealed.mk hb2; have L2 := Sealed.mk hB2; clear hg2 hb2 hB2 hs2) | ((with_reducible refine gate_dst (N := 3) rfl ?_); refine ev_box (cs := nums .i64 zeros16) (t := 66) ?hg ?hr ?_; (case hg => rfl); (case hr => first | (go_simp; done) | (go_simp; rfl)); intro g3 w3 hg3 hb3 hB3 hs3; have G3 := Sealed.mk hg3; have B3 := Sealed.mk hb3; have L3 := Sealed.mk hB3; clear hg3 hb3 hB3 hs3))
  have h13 : g1 ≠ g3 := by have := G1.out; have := G3.out; have := S1.out; have := L2.out.size; omega
  have h23 : g2 ≠ g3 := by have := G2.out; have := G3.out; have := S2.out; omega
  have GE2 : w.heap.size ≤ g2 := by rw [G2.out]; exact L1.out.size
  have GE3 : w.heap.size ≤ g3 := by rw [G3.out]; exact Nat.le_trans L1.out.size L2.out.size
  have C3 : Sealed (Chg w.heap.size [] w w3) := ⟨(((Chg.refl w.heap.size [] w).below_step L1.out).below_step L2.out).below_step L3.out⟩
  have B13 := Sealed.mk ((B1.out.below' L2.out).below' L3.out)
  have B23 := Sealed.mk (B2.out.below' L3.out)
  clear G1 G2 G3 S1 S2 B1 B2 L1 L2 L3
  go_loopg [4] 15 (fun k n w' => ∃ (m : Nat), n = .int .i64 ((m + 1 : Nat) : Int) ∧ Sealed (k = 15 - m) ∧ m ≤ 15 ∧ Sealed (IsBlk w' g3 (nums .i64 (firstsUpto c (m + 1))) 66) ∧ Sealed (IsBlk w' g1 (nums .i64 c) 66) ∧ Sealed (IsBlk w' g2 (nums .i64 zeros16) 66) ∧ Sealed (Chg w.heap.size [] w w'))
  case atStart => exact ⟨0, rfl, ⟨rfl⟩, by omega, ⟨by rw [firstsUpto_one]; exact B3.out⟩, B13, B23, C3⟩
  case round =>
    clear B3 B13 B23 C3
    obtain ⟨m, rfl, HK, hm, HB3, HB1, HB2, HC⟩ := hrel
    by_cases hlt : m < 15
    · have hx := HB3.out.cell m (nums_get (k := .i64) (by rw [firstsUpto_len]; omega))
      have hy := HB1.out.cell m (nums_get (k := .i64) (by rw [HCo.out.1]; omega))
      have hz := HB3.out.cell (m + 1) (nums_get (k := .i64) (by rw [firstsUpto_len]; omega))
      have hf := HB3.out.free (m + 1)
      rw [firstsUpto_get _ _ _ (by omega), if_pos (by omega)] at hx
      have hb1 := HCo.out.2 m
      have hb2 := firstAt_le HCo.out (n := m) (by omega)
      obtain ⟨x, hxe⟩ : ∃ x, x = firstAt c m := ⟨_, rfl⟩
      obtain ⟨y, hye⟩ : ∃ y, y = c.getD m 0 := ⟨_, rfl⟩
      obtain ⟨z, hze⟩ : ∃ z, z = (firstsUpto c (m + 1)).getD (m + 1) 0 := ⟨_, rfl⟩
      rw [← hxe] at hx hb2
      rw [← hye] at hy hb1
      rw [← hze] at hz
      have hN : firstAt c (m + 1) = 2 * (x + y) := by rw [firstAt, ← hxe, ← hye]
      have HN := Sealed.mk hN
      have hx0 := hb2.1
      have hx1 := hb2.2
      have hy0 := hb1.1
      have hy1 := hb1.2
      have e1 : ((m + 1 : Nat) : Int) - 1 = (m : Int) := by omega
      clear hN hze hye hxe hb1 hb2
      go_wp2
      go_region
      go_wp2
      go_roundg (15 - (m + 1))
      case measure => have := HK.out; omega
      case rel =>
        have hb := HB3.out.set (m + 1) (.int .i64 (2 * (x + y)))
        rw [nums_set, ← HN.out, firstsUpto_step] at hb
        rw [← HN.out]
        exact ⟨m + 1, by go_num, ⟨rfl⟩, by omega, ⟨hb⟩, ⟨HB1.out.far h13 _⟩, ⟨HB2.out.far h23 _⟩, ⟨HC.out.drew.set_new GE3 _⟩⟩
    · have hm15 : m = 15 := by omega
      subst hm15
      clear hlt hm
      go_wp2_with (first | ((with_reducible refine gate_dst (N := 21) rfl ?_); refine wp_load_arr rfl _ _ rfl rfl HB3.out Try.underlying66 rfl (by rw [nums_length, firstsUpto_len]; exact info_counts) ?_) | ((with_reducible refine gate_store (p := 2) rfl ?_); refine wp_store_arr rfl _ _ _ rfl (cells := nums .i64 (firstsUpto c (15 + 1))) rfl rfl HB2.out (by rw [nums_length, firstsUpto_len]; exact info_counts) (by rw [nums_length, nums_length, firstsUpto_len]; rfl) (nums_all _ _) ?_; intro w3 hb3 hc3 hk3 hs3; have B3 := Sealed.mk hb3; have C3 := Sealed.mk hc3; clear hb3 hc3 hk3 hs3))
      refine bodyPost_ret (results_cell rfl _ rfl B3.out Try.underlying66 rfl (by rw [nums_length, firstsUpto_len]; exact info_counts)) rfl ⟨rfl, ?_⟩
      exact (HC.out.one_new C3.out GE2).to_below
end Go.Proofs.Ytmdlhbhdlhjakaa

namespace Go.Proofs.Ytmdlhbhdlhjakaa
open Go.RowKit

theorem info_int : (Try.prog.info? 3).map (·.size) = some 1 := by kernel_rfl
def cnt0 (ls : List Int) : List Int := (cntsOf ls).set 0 0
theorem cnt0_ok {ls : List Int} (h : ls.length ≤ 320) : CntOk (cnt0 ls) := by
  refine ⟨by simp [cnt0, cntsOf_len], fun i => ?_⟩
  have h1 := cnts_bd ls i
  simp only [cnt0, List.getD_eq_getElem?_getD, List.getElem?_set] at *
  split
  · split <;> simp
  · omega
theorem zeros_ok : CntOk zeros16 := ⟨rfl, fun i => by
  simp only [zeros16, List.getD_eq_getElem?_getD, List.getElem?_replicate]
  split <;> simp⟩
/-- Check, as a plain function. -/
def checkC (c : List Int) : Int := if c = zeros16 then 12 else if leftOf c < 0 then 7 else if leftOf c > 0 then 5 else 0
def checkOf (ls : List Int) : Int := if ls.length > 320 then 2 else if ls.all lenOk then checkC (cnt0 ls) else 3

theorem ret_int' {k : IntKind} {a b : Int} (h : a = b) : Ending.returned (.int k a) = .returned (.int k b) := by rw [h]
set_option maxRecDepth 100000 in
theorem check_err {A : Option Addr} {n cap : Nat} {c : List Int} {er : Int} {w : World} (hc : CntOk c) (he : (er != 0) = true)
    (h : Calls Try.prog 42 #[.slice A n cap] w fun e w' => e = .returned (.tuple #[.agg (nums .i64 c).toArray, .int .i64 er]) ∧ Below w.heap.size w w') :
    Calls Try.prog 41 #[.slice A n cap] w fun e w' => e = .returned (.int .i64 er) ∧ Below w.heap.size w w' := by
  have HCo := Sealed.mk hc
  have H := Sealed.mk h
  clear hc h
  go_enter Try.func41, Try.ntmps41
  go_wp2_with (first | (go_at_call 42; refine H.out.mono ?_; rintro e w1 ⟨rfl, hb⟩; have L1 := Sealed.mk hb; clear hb) | ((with_reducible refine gate_dst (N := 3) rfl ?_); refine ev_box (cs := nums .i64 zeros16) (t := 66) ?hg ?hr ?_; (case hg => rfl); (case hr => first | (go_simp; done) | (go_simp; rfl)); intro g1 w2 hg1 hb1 hB1 hs1; have G1 := Sealed.mk hg1; have B1 := Sealed.mk hb1; have L2 := Sealed.mk hB1; clear hg1 hb1 hB1 hs1) | ((with_reducible refine gate_store (p := 3) rfl ?_); refine wp_store_arr rfl _ _ _ rfl (cells := nums .i64 c) rfl rfl B1.out (by rw [nums_length, HCo.out.1]; exact info_counts) (by rw [nums_length, nums_length, HCo.out.1]; rfl) (nums_all _ _) ?_; intro w3 hb3 hc3 hk3 hs3; have B3 := Sealed.mk hb3; have C3 := Sealed.mk hc3; clear hb3 hc3 hk3 hs3) | ((with_reducible refine gate_dst (N := 11) rfl ?_); refine wp_load_arr rfl _ _ rfl rfl B3.out Try.underlying66 rfl (by rw [nums_length, HCo.out.1]; exact info_counts) ?_) | (go_at_call 75; refine (left_any c _ HCo.out).mono ?_; rintro e w4 ⟨rfl, hb⟩; have L4 := Sealed.mk hb; have B4 := Sealed.mk (B3.out.below' hb); clear hb) | ((with_reducible refine gate_dst (N := 18) rfl ?_); refine wp_load_arr rfl _ _ rfl rfl B4.out Try.underlying66 rfl (by rw [nums_length, HCo.out.1]; exact info_counts) ?_))
  go_ret
  refine ⟨rfl, ?_⟩
  exact (((((Chg.refl w.heap.size [] w).below_step L1.out).below_step L2.out).one_new C3.out (by rw [G1.out]; exact L1.out.size)).below_step L4.out).to_below

set_option maxRecDepth 100000 in
theorem check_cnt {A : Option Addr} {n cap : Nat} {c : List Int} {w : World} (hc : CntOk c)
    (h : Calls Try.prog 42 #[.slice A n cap] w fun e w' => e = .returned (.tuple #[.agg (nums .i64 c).toArray, .int .i64 0]) ∧ Below w.heap.size w w') :
    Calls Try.prog 41 #[.slice A n cap] w fun e w' => e = .returned (.int .i64 (checkC c)) ∧ Below w.heap.size w w' := by
  have HCo := Sealed.mk hc
  have H := Sealed.mk h
  have heq : ∀ wx : World, (binOp .eql 66 (.agg (nums .i64 c).toArray) (.agg #[.int .i64 0, .int .i64 0, .int .i64 0, .int .i64 0, .int .i64 0, .int .i64 0, .int .i64 0, .int .i64 0, .int .i64 0, .int .i64 0, .int .i64 0, .int .i64 0, .int .i64 0, .int .i64 0, .int .i64 0, .int .i64 0])).run Try.prog wx = .ok (.bool (decide (c = zeros16))) wx := fun wx => run_eql_ints (P := Try.prog) (w := wx) Try.underlying66 Try.underlying3 info_int c zeros16 HCo.out.1 rfl
  clear hc h
  have HX : True := trivial
  by_cases hz : c = zeros16
  · have hz' := Sealed.mk hz
    simp only [decide_eq_true hz] at heq
    clear hz
    have HV : Sealed (12 = checkC c) := ⟨by simp [checkC, hz'.out]⟩
    clear HX
    go_enter Try.func41, Try.ntmps41
    go_wp2_with (first | (go_at_call 42; refine H.out.mono ?_; rintro e w1 ⟨rfl, hb⟩; have L1 := Sealed.mk hb; clear hb) | ((with_reducible refine gate_dst (N := 3) rfl ?_); refine ev_box (cs := nums .i64 zeros16) (t := 66) ?hg ?hr ?_; (case hg => rfl); (case hr => first | (go_simp; done) | (go_simp; rfl)); intro g1 w2 hg1 hb1 hB1 hs1; have G1 := Sealed.mk hg1; have B1 := Sealed.mk hb1; have L2 := Sealed.mk hB1; clear hg1 hb1 hB1 hs1) | ((with_reducible refine gate_store (p := 3) rfl ?_); refine wp_store_arr rfl _ _ _ rfl (cells := nums .i64 c) rfl rfl B1.out (by rw [nums_length, HCo.out.1]; exact info_counts) (by rw [nums_length, nums_length, HCo.out.1]; rfl) (nums_all _ _) ?_; intro w3 hb3 hc3 hk3 hs3; have B3 := Sealed.mk hb3; have C3 := Sealed.mk hc3; clear hb3 hc3 hk3 hs3) | ((with_reducible refine gate_dst (N := 11) rfl ?_); refine wp_load_arr rfl _ _ rfl rfl B3.out Try.underlying66 rfl (by rw [nums_length, HCo.out.1]; exact info_counts) ?_) | (go_at_call 75; refine (left_any c _ HCo.out).mono ?_; rintro e w4 ⟨rfl, hb⟩; have L4 := Sealed.mk hb; have B4 := Sealed.mk (B3.out.below' hb); clear hb) | ((with_reducible refine gate_dst (N := 18) rfl ?_); refine wp_load_arr rfl _ _ rfl rfl B4.out Try.underlying66 rfl (by rw [nums_length, HCo.out.1]; exact info_counts) ?_))
    go_ret
    refine ⟨ret_int' HV.out, ?_⟩
    exact (((((Chg.refl w.heap.size [] w).below_step L1.out).below_step L2.out).one_new C3.out (by rw [G1.out]; exact L1.out.size)).below_step L4.out).to_below
  · have hz' := Sealed.mk hz
    simp only [decide_eq_false hz] at heq
    clear hz
    by_cases hl : leftOf c < 0
    · have hl' := Sealed.mk hl
      have hd : decide (leftOf c < 0) = true := decide_eq_true hl
      clear hl
      have HV : Sealed (7 = checkC c) := ⟨by simp [checkC, hz'.out, hl'.out]⟩
      clear HX
      go_enter Try.func41, Try.ntmps41
      go_wp2_with (first | (go_at_call 42; refine H.out.mono ?_; rintro e w1 ⟨rfl, hb⟩; have L1 := Sealed.mk hb; clear hb) | ((with_reducible refine gate_dst (N := 3) rfl ?_); refine ev_box (cs := nums .i64 zeros16) (t := 66) ?hg ?hr ?_; (case hg => rfl); (case hr => first | (go_simp; done) | (go_simp; rfl)); intro g1 w2 hg1 hb1 hB1 hs1; have G1 := Sealed.mk hg1; have B1 := Sealed.mk hb1; have L2 := Sealed.mk hB1; clear hg1 hb1 hB1 hs1) | ((with_reducible refine gate_store (p := 3) rfl ?_); refine wp_store_arr rfl _ _ _ rfl (cells := nums .i64 c) rfl rfl B1.out (by rw [nums_length, HCo.out.1]; exact info_counts) (by rw [nums_length, nums_length, HCo.out.1]; rfl) (nums_all _ _) ?_; intro w3 hb3 hc3 hk3 hs3; have B3 := Sealed.mk hb3; have C3 := Sealed.mk hc3; clear hb3 hc3 hk3 hs3) | ((with_reducible refine gate_dst (N := 11) rfl ?_); refine wp_load_arr rfl _ _ rfl rfl B3.out Try.underlying66 rfl (by rw [nums_length, HCo.out.1]; exact info_counts) ?_) | (go_at_call 75; refine (left_any c _ HCo.out).mono ?_; rintro e w4 ⟨rfl, hb⟩; have L4 := Sealed.mk hb; have B4 := Sealed.mk (B3.out.below' hb); clear hb) | ((with_reducible refine gate_dst (N := 18) rfl ?_); refine wp_load_arr rfl _ _ rfl rfl B4.out Try.underlying66 rfl (by rw [nums_length, HCo.out.1]; exact info_counts) ?_))
      go_ret
      refine ⟨ret_int' HV.out, ?_⟩
      exact (((((Chg.refl w.heap.size [] w).below_step L1.out).below_step L2.out).one_new C3.out (by rw [G1.out]; exact L1.out.size)).below_step L4.out).to_below
    · have hd : decide (leftOf c < 0) = false := decide_eq_false hl
      by_cases hg : leftOf c > 0
      · have hl' := Sealed.mk hl
        have hg' := Sealed.mk hg
        have hd2 : decide (0 < leftOf c) = true := decide_eq_true hg
        clear hl hg
        have HV : Sealed (5 = checkC c) := ⟨by simp [checkC, hz'.out, hl'.out, hg'.out]⟩
        clear HX
        go_enter Try.func41, Try.ntmps41
        go_wp2_with (first | (go_at_call 42; refine H.out.mono ?_; rintro e w1 ⟨rfl, hb⟩; have L1 := Sealed.mk hb; clear hb) | ((with_reducible refine gate_dst (N := 3) rfl ?_); refine ev_box (cs := nums .i64 zeros16) (t := 66) ?hg ?hr ?_; (case hg => rfl); (case hr => first | (go_simp; done) | (go_simp; rfl)); intro g1 w2 hg1 hb1 hB1 hs1; have G1 := Sealed.mk hg1; have B1 := Sealed.mk hb1; have L2 := Sealed.mk hB1; clear hg1 hb1 hB1 hs1) | ((with_reducible refine gate_store (p := 3) rfl ?_); refine wp_store_arr rfl _ _ _ rfl (cells := nums .i64 c) rfl rfl B1.out (by rw [nums_length, HCo.out.1]; exact info_counts) (by rw [nums_length, nums_length, HCo.out.1]; rfl) (nums_all _ _) ?_; intro w3 hb3 hc3 hk3 hs3; have B3 := Sealed.mk hb3; have C3 := Sealed.mk hc3; clear hb3 hc3 hk3 hs3) | ((with_reducible refine gate_dst (N := 11) rfl ?_); refine wp_load_arr rfl _ _ rfl rfl B3.out Try.underlying66 rfl (by rw [nums_length, HCo.out.1]; exact info_counts) ?_) | (go_at_call 75; refine (left_any c _ HCo.out).mono ?_; rintro e w4 ⟨rfl, hb⟩; have L4 := Sealed.mk hb; have B4 := Sealed.mk (B3.out.below' hb); clear hb) | ((with_reducible refine gate_dst (N := 18) rfl ?_); refine wp_load_arr rfl _ _ rfl rfl B4.out Try.underlying66 rfl (by rw [nums_length, HCo.out.1]; exact info_counts) ?_))
        go_ret
        refine ⟨ret_int' HV.out, ?_⟩
        exact (((((Chg.refl w.heap.size [] w).below_step L1.out).below_step L2.out).one_new C3.out (by rw [G1.out]; exact L1.out.size)).below_step L4.out).to_below
      · have hl' := Sealed.mk hl
        have hg' := Sealed.mk hg
        have hd2 : decide (0 < leftOf c) = false := decide_eq_false hg
        clear hl hg
        have HV : Sealed (0 = checkC c) := ⟨by simp [checkC, hz'.out, hl'.out, hg'.out]⟩
        clear HX
        go_enter Try.func41, Try.ntmps41
        go_wp2_with (first | (go_at_call 42; refine H.out.mono ?_; rintro e w1 ⟨rfl, hb⟩; have L1 := Sealed.mk hb; clear hb) | ((with_reducible refine gate_dst (N := 3) rfl ?_); refine ev_box (cs := nums .i64 zeros16) (t := 66) ?hg ?hr ?_; (case hg => rfl); (case hr => first | (go_simp; done) | (go_simp; rfl)); intro g1 w2 hg1 hb1 hB1 hs1; have G1 := Sealed.mk hg1; have B1 := Sealed.mk hb1; have L2 := Sealed.mk hB1; clear hg1 hb1 hB1 hs1) | ((with_reducible refine gate_store (p := 3) rfl ?_); refine wp_store_arr rfl _ _ _ rfl (cells := nums .i64 c) rfl rfl B1.out (by rw [nums_length, HCo.out.1]; exact info_counts) (by rw [nums_length, nums_length, HCo.out.1]; rfl) (nums_all _ _) ?_; intro w3 hb3 hc3 hk3 hs3; have B3 := Sealed.mk hb3; have C3 := Sealed.mk hc3; clear hb3 hc3 hk3 hs3) | ((with_reducible refine gate_dst (N := 11) rfl ?_); refine wp_load_arr rfl _ _ rfl rfl B3.out Try.underlying66 rfl (by rw [nums_length, HCo.out.1]; exact info_counts) ?_) | (go_at_call 75; refine (left_any c _ HCo.out).mono ?_; rintro e w4 ⟨rfl, hb⟩; have L4 := Sealed.mk hb; have B4 := Sealed.mk (B3.out.below' hb); clear hb) | ((with_reducible refine gate_dst (N := 18) rfl ?_); refine wp_load_arr rfl _ _ rfl rfl B4.out Try.underlying66 rfl (by rw [nums_length, HCo.out.1]; exact info_counts) ?_))
        go_ret
        refine ⟨ret_int' HV.out, ?_⟩
        exact (((((Chg.refl w.heap.size [] w).below_step L1.out).below_step L2.out).one_new C3.out (by rw [G1.out]; exact L1.out.size)).below_step L4.out).to_below

theorem check_long (A : Option Addr) (n c : Nat) (w : World) (hn : 320 < n) :
    Calls Try.prog 41 #[.slice A n c] w fun e w' => e = .returned (.int .i64 2) ∧ Below w.heap.size w w' :=
  check_err zeros_ok rfl (counted_long A n c w hn)
theorem check_any (A : Option Addr) (c : Nat) (ls : List Int) (w : World) (hr : Reads w .i64 A ls) :
    Calls Try.prog 41 #[.slice A ls.length c] w fun e w' => e = .returned (.int .i64 (checkOf ls)) ∧ Below w.heap.size w w' := by
  by_cases hn : ls.length > 320
  · simp only [checkOf, if_pos hn]
    exact check_long A ls.length c w hn
  · have h := counted_ok A c ls w hr (by omega)
    by_cases ha : ls.all lenOk = true
    · rw [cntVal_ok ha] at h
      simp only [checkOf, if_neg hn, ha, if_true]
      exact check_cnt (cnt0_ok (by omega)) h
    · have ha' : ls.all lenOk = false := by simpa using ha
      rw [cntVal_bad ha'] at h
      simp only [checkOf, if_neg hn, ha']
      exact check_err zeros_ok rfl h

def mayOf (e : Int) : Int := if e = 12 then 0 else if e = 5 then 0 else e
theorem may_of {A : Option Addr} {n c : Nat} {r : Int} {w : World} (h : Calls Try.prog 41 #[.slice A n c] w fun e w' => e = .returned (.int .i64 r) ∧ Below w.heap.size w w') :
    Calls Try.prog 73 #[.slice A n c] w fun e w' => e = .returned (.int .i64 (mayOf r)) ∧ Below w.heap.size w w' := by
  have H := Sealed.mk h
  clear h
  by_cases h12 : r = 12
  · subst h12
    go_enter Try.func73, Try.ntmps73
    go_wp2_with (go_at_call 41; refine H.out.mono ?_; rintro e w1 ⟨rfl, hb⟩; have L1 := Sealed.mk hb; clear hb)
    go_ret
    exact ⟨rfl, L1.out⟩
  · by_cases h5 : r = 5
    · subst h5
      go_enter Try.func73, Try.ntmps73
      go_wp2_with (go_at_call 41; refine H.out.mono ?_; rintro e w1 ⟨rfl, hb⟩; have L1 := Sealed.mk hb; clear hb)
      go_ret
      exact ⟨rfl, L1.out⟩
    · have HV : Sealed (mayOf r = r) := ⟨by simp [mayOf, h12, h5]⟩
      have b1 : (r == 12) = false := by simpa using h12
      have b2 : (r == 5) = false := by simpa using h5
      clear h12 h5
      go_enter Try.func73, Try.ntmps73
      go_wp2_with (go_at_call 41; refine H.out.mono ?_; rintro e w1 ⟨rfl, hb⟩; have L1 := Sealed.mk hb; clear hb)
      go_ret
      exact ⟨ret_int' HV.out.symm, L1.out⟩
theorem may_any (A : Option Addr) (c : Nat) (ls : List Int) (w : World) (hr : Reads w .i64 A ls) :
    Calls Try.prog 73 #[.slice A ls.length c] w fun e w' => e = .returned (.int .i64 (mayOf (checkOf ls))) ∧ Below w.heap.size w w' :=
  may_of (check_any A c ls w hr)
end Go.Proofs.Ytmdlhbhdlhjakaa
