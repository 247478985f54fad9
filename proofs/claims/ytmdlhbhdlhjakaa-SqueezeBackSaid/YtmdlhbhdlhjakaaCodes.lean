/- The contracts of package codes: counts, Check, Codes. -/
import Derived.Test.YtmdlhbhdlhjakaaBase
set_option linter.unusedVariables false
set_option linter.unusedSimpArgs false
namespace Go.Proofs.Ytmdlhbhdlhjakaa
open Go.RowKit

theorem info_counts : (Try.prog.info? 66).map (·.size) = some 16 := by kernel_rfl

/-! ### Lengths, as a plain function tells them -/
def cntStep (c : List Int) (n : Int) : List Int := c.set n.toNat (c.getD n.toNat 0 + 1)
def zeros16 : List Int := List.replicate 16 0
def cntsOf (ls : List Int) : List Int := ls.foldl cntStep zeros16
def lenOk (n : Int) : Bool := decide (0 ≤ n) && decide (n ≤ 15)
theorem cntsOf_len (ls : List Int) : (cntsOf ls).length = 16 := by
  have : ∀ (ls : List Int) (c : List Int), (ls.foldl cntStep c).length = c.length := by
    intro ls
    induction ls with
    | nil => intro c; rfl
    | cons x xs ih => intro c; rw [List.foldl_cons, ih]; simp [cntStep]
  rw [cntsOf, this]; rfl


theorem results_cell_tmp {fn : Func} {p q : Tmp} {ty : TypeId} (h : fn.results = #[.cell p ty, .tmp q]) (tmps : Array Value) {w : World} {g : Nat} {cs : List Value} {t : TypeId} (hp : tmps.getD p undef = .pointer (some ⟨g, 0, none⟩)) (hb : IsBlk w g cs t)
    {P : Program} {d : TypeDesc} (hu : P.underlying ty = some d) (hd : isRowDesc d = true) (hi : (P.info? ty).map (·.size) = some cs.length) : (results fn tmps).run P w = .ok (.tuple #[.agg cs.toArray, tmps.getD q undef]) w := by
  have hp' : tmps[p]?.getD undef = .pointer (some ⟨g, 0, none⟩) := by simpa using hp
  simp [results, h, hp', asAddr, hb.loadVar ty hu hd hi]

set_option maxRecDepth 100000 in
theorem counted_long (A : Option Addr) (n c : Nat) (w : World) (hn : 320 < n) :
    Calls Try.prog 42 #[.slice A n c] w fun e w' => e = .returned (.tuple #[.agg (nums .i64 zeros16).toArray, .int .i64 2]) ∧ Below w.heap.size w w' := by
  have hd : decide (320 < n) = true := decide_eq_true hn
  go_enter Try.func42, Try.ntmps42
  go_wp2_with (first | ((with_reducible refine gate_dst (N := 2) rfl ?_); refine ev_box (cs := nums .i64 zeros16) (t := 66) ?hg ?hr ?_; (case hg => rfl); (case hr => first | (go_simp; done) | (go_simp; rfl)); intro g1 w1 hg1 hb1 hB1 hs1; have G1 := Sealed.mk hg1; have B1 := Sealed.mk hb1; have L1 := Sealed.mk hB1; clear hg1 hb1 hB1) | ((with_reducible refine gate_dst (N := 4) rfl ?_); refine ev_box (cs := nums .i64 zeros16) (t := 66) ?hg ?hr ?_; (case hg => rfl); (case hr => first | (go_simp; done) | (go_simp; rfl)); intro g2 w2 hg2 hb2 hB2 hs2; have G2 := Sealed.mk hg2; have B2 := Sealed.mk hb2; have L2 := Sealed.mk hB2; clear hg2 hb2 hB2) | ((with_reducible refine gate_dst (N := 10) rfl ?_); refine wp_load_arr rfl _ _ rfl rfl B2.out Try.underlying66 rfl info_counts ?_) | ((with_reducible refine gate_store (p := 2) rfl ?_); refine wp_store_arr rfl _ _ _ rfl (cells := nums .i64 zeros16) rfl rfl (B1.out.below' L2.out) info_counts rfl (nums_all _ _) ?_; intro w3 hb3 hc3 hk3 hs3; have B3 := Sealed.mk hb3; have C3 := Sealed.mk hc3; clear hb3 hc3 hk3 hs3))
  refine bodyPost_ret (results_cell_tmp rfl _ rfl B3.out Try.underlying66 rfl info_counts) rfl ⟨rfl, ?_⟩
  exact (((Chg.refl w.heap.size [] w).below_step L1.out).below_step L2.out |>.one_new C3.out (by rw [G1.out]; exact Nat.le_refl _)).to_below

def cntVal (ls : List Int) : Value := .tuple #[.agg (nums .i64 (if ls.all lenOk then (cntsOf ls).set 0 0 else zeros16)).toArray, .int .i64 (if ls.all lenOk then 0 else 3)]
theorem cntVal_ok {ls : List Int} (h : ls.all lenOk = true) : cntVal ls = .tuple #[.agg (nums .i64 ((cntsOf ls).set 0 0)).toArray, .int .i64 0] := by simp only [cntVal, h, if_true]
theorem cntVal_bad {ls : List Int} (h : ls.all lenOk = false) : cntVal ls = .tuple #[.agg (nums .i64 zeros16).toArray, .int .i64 3] := by simp only [cntVal, h]; rfl
theorem take_snoc {ls : List Int} {i : Nat} (h : i < ls.length) : ls.take (i + 1) = ls.take i ++ [ls.getD i 0] := by
  rw [List.take_add_one, List.getElem?_eq_getElem h, List.getD_eq_getElem?_getD, List.getElem?_eq_getElem h]; rfl
theorem cntsOf_snoc (ls : List Int) (x : Int) : cntsOf (ls ++ [x]) = cntStep (cntsOf ls) x := by simp [cntsOf, List.foldl_append]
theorem all_snoc (ls : List Int) (x : Int) : (ls ++ [x]).all lenOk = (ls.all lenOk && lenOk x) := by simp
theorem all_take_bad {ls : List Int} {i : Nat} (h : i < ls.length) (hb : lenOk (ls.getD i 0) = false) : ls.all lenOk = false := by
  rw [List.all_eq_false]
  exact ⟨ls.getD i 0, by rw [List.getD_eq_getElem?_getD, List.getElem?_eq_getElem h]; simp, by rw [hb]; simp⟩

theorem cnts_bd (ls : List Int) : ∀ i, 0 ≤ (cntsOf ls).getD i 0 ∧ (cntsOf ls).getD i 0 ≤ ls.length := by
  have : ∀ (ls : List Int) (c : List Int) (b : Int), (∀ i, 0 ≤ c.getD i 0 ∧ c.getD i 0 ≤ b) → ∀ i, 0 ≤ (ls.foldl cntStep c).getD i 0 ∧ (ls.foldl cntStep c).getD i 0 ≤ b + ls.length := by
    intro ls
    induction ls with
    | nil => intro c b h i; simpa using h i
    | cons x xs ih =>
      intro c b h i
      have := ih (cntStep c x) (b + 1) (fun j => by
        have h1 := h j
        have h2 := h x.toNat
        simp only [cntStep, List.getD_eq_getElem?_getD, List.getElem?_set] at *
        split
        · split
          · simp; omega
          · simp; omega
        · omega) i
      rw [List.foldl_cons, List.length_cons]
      omega
  intro i
  have h := this ls zeros16 0 (fun j => by
    simp only [zeros16, List.getD_eq_getElem?_getD, List.getElem?_replicate]
    split <;> simp) i
  simpa [cntsOf] using h

set_option maxRecDepth 100000 in
set_option maxHeartbeats 1000000 in
theorem counted_ok (A : Option Addr) (c : Nat) (ls : List Int) (w : World) (hr : Reads w .i64 A ls) (hn : ls.length ≤ 320) :
    Calls Try.prog 42 #[.slice A ls.length c] w fun e w' =>
      e = .returned (cntVal ls) ∧ Below w.heap.size w w' := by
  have hd : decide (320 < ls.length) = false := decide_eq_false (by omega)
  have HR := Sealed.mk hr
  clear hr
  go_enter Try.func42, Try.ntmps42
  go_wp2_with (first | ((with_reducible refine gate_dst (N := 2) rfl ?_); refine ev_box (cs := nums .i64 zeros16) (t := 66) ?hg ?hr ?_; (case hg => rfl); (case hr => first | (go_simp; done) | (go_simp; rfl)); intro g1 w1 hg1 hb1 hB1 hs1; have G1 := Sealed.mk hg1; have B1 := Sealed.mk hb1; have L1 := Sealed.mk hB1; have S1 := Sealed.mk hs1; clear hg1 hb1 hB1 hs1) | ((with_reducible refine gate_dst (N := 4) rfl ?_); refine ev_box (cs := nums .i64 zeros16) (t := 66) ?hg ?hr ?_; (case hg => rfl); (case hr => first | (go_simp; done) | (go_simp; rfl)); intro g2 w2 hg2 hb2 hB2 hs2; have G2 := Sealed.mk hg2; have B2 := Sealed.mk hb2; have L2 := Sealed.mk hB2; clear hg2 hb2 hB2 hs2))
  have hne : g1 ≠ g2 := by have := G1.out; have := G2.out; have := S1.out; omega
  have GE1 : w.heap.size ≤ g1 := by rw [G1.out]; exact Nat.le_refl _
  have GE2 : w.heap.size ≤ g2 := by rw [G2.out]; exact L1.out.size
  have C2 : Sealed (Chg w.heap.size [] w w2) := ⟨((Chg.refl w.heap.size [] w).below_step L1.out).below_step L2.out⟩
  have B12 := Sealed.mk (B1.out.below' L2.out)
  clear G1 G2 S1 B1 L1 L2
  go_loopg [13] ls.length (fun k i w' => ∃ n : Nat, i = .int .i64 n ∧ Sealed (n ≤ ls.length) ∧ Sealed (k = ls.length - n) ∧ Sealed ((ls.take n).all lenOk = true) ∧ Sealed (IsBlk w' g2 (nums .i64 (cntsOf (ls.take n))) 66) ∧ Sealed (IsBlk w' g1 (nums .i64 zeros16) 66) ∧ Sealed (Chg w.heap.size [] w w'))
  case atStart => exact ⟨0, rfl, ⟨Nat.zero_le _⟩, ⟨by simp⟩, ⟨rfl⟩, ⟨B2.out⟩, B12, C2⟩
  case round =>
    clear C2 B12 B2
    obtain ⟨n, rfl, HN, HK, HA, HB, HB1, HC⟩ := hrel
    by_cases hlt : n < ls.length
    · obtain ⟨ad, rfl, hc0⟩ := HR.out.cell n hlt
      obtain ⟨x, hx⟩ : ∃ x, x = ls.getD n 0 := ⟨_, rfl⟩
      rw [← hx] at hc0
      have hc := cell_chg hc0 HC.out (World.block_lt_of_cell? w _ hc0)
      have HX := Sealed.mk hx
      clear hx hc0
      by_cases h0 : 0 ≤ x
      · by_cases h15 : x ≤ 15
        · have hcl : (cntsOf (ls.take n)).length = 16 := cntsOf_len _
          have hg := HB.out.cell x.toNat (nums_get (k := .i64) (show x.toNat < (cntsOf (ls.take n)).length by omega))
          have hf := HB.out.free x.toNat
          obtain ⟨y, hy⟩ : ∃ y, y = (cntsOf (ls.take n)).getD x.toNat 0 := ⟨_, rfl⟩
          rw [← hy] at hg
          have hy0 : 0 ≤ y := by rw [hy]; exact (cnts_bd _ _).1
          have hy1 : y ≤ 320 := by have h1 := (cnts_bd (ls.take n) x.toNat).2; have h2 := List.length_take_le n ls; have h3 := HN.out; omega
          have HY := Sealed.mk hy
          clear hy hcl
          go_wp2
          go_roundg (ls.length - (n + 1))
          case measure => have := HK.out; omega
          case rel =>
            have ht := take_snoc hlt
            rw [← HX.out] at ht
            have hb2 := HB.out.set x.toNat (.int .i64 (y + 1))
            rw [HY.out, nums_set] at hb2
            refine ⟨n + 1, by go_num, ⟨hlt⟩, ⟨rfl⟩, ⟨?_⟩, ⟨?_⟩, ⟨HB1.out.far hne _⟩, ⟨HC.out.set_new GE2 _⟩⟩
            · rw [ht, all_snoc, HA.out]; simp [lenOk, h0, h15]
            · rw [ht, cntsOf_snoc]; rw [HY.out]; exact hb2
        · have h15' : 15 < x := by omega
          have hall : ls.all lenOk = false := all_take_bad hlt (by rw [← HX.out]; simp [lenOk]; omega)
          have HALL := Sealed.mk hall
          have d0 : decide (x < 0) = false := decide_eq_false (by omega)
          have d1 : decide (15 < x) = true := decide_eq_true h15'
          clear hall h0 h15 h15'
          go_wp2_with ((with_reducible refine gate_store (p := 2) rfl ?_); refine wp_store_arr rfl _ _ _ rfl (cells := nums .i64 zeros16) rfl rfl HB1.out info_counts rfl (nums_all _ _) ?_; intro w3 hb3 hc3 hk3 hs3; have B3 := Sealed.mk hb3; have C3 := Sealed.mk hc3; clear hb3 hc3 hk3 hs3)
          refine bodyPost_ret (results_cell_tmp rfl _ rfl B3.out Try.underlying66 rfl info_counts) rfl ⟨by rw [cntVal_bad HALL.out]; rfl, ?_⟩
          exact (HC.out.one_new C3.out GE1).to_below
      · have h15' : x < 0 := by omega
        have hall : ls.all lenOk = false := all_take_bad hlt (by rw [← HX.out]; simp [lenOk]; omega)
        have HALL := Sealed.mk hall
        have d0 : decide (x < 0) = true := decide_eq_true h15'
        clear hall h0 h15'
        go_wp2_with ((with_reducible refine gate_store (p := 2) rfl ?_); refine wp_store_arr rfl _ _ _ rfl (cells := nums .i64 zeros16) rfl rfl HB1.out info_counts rfl (nums_all _ _) ?_; intro w3 hb3 hc3 hk3 hs3; have B3 := Sealed.mk hb3; have C3 := Sealed.mk hc3; clear hb3 hc3 hk3 hs3)
        refine bodyPost_ret (results_cell_tmp rfl _ rfl B3.out Try.underlying66 rfl info_counts) rfl ⟨by rw [cntVal_bad HALL.out]; rfl, ?_⟩
        exact (HC.out.one_new C3.out GE1).to_below
    · have hn' : n = ls.length := by have := HN.out; omega
      have hall : ls.all lenOk = true := by have h := HA.out; rwa [hn', List.take_length] at h
      have HB' : Sealed (IsBlk wr g2 (nums .i64 (cntsOf ls)) 66) := ⟨by have h := HB.out; rwa [hn', List.take_length] at h⟩
      have HALL := Sealed.mk hall
      have hg := HB'.out.cell 0 (nums_get (k := .i64) (show 0 < (cntsOf ls).length by rw [cntsOf_len]; omega))
      have hf := HB'.out.free 0
      have hlen : ((cntsOf ls).set 0 0).length = 16 := by simp [cntsOf_len]
      have HL := Sealed.mk hlen
      have HS : Sealed (IsBlk (wr.setCell ⟨g2, 0, none⟩ (.int .i64 0)) g2 (nums .i64 ((cntsOf ls).set 0 0)) 66) := ⟨by rw [← nums_set]; exact HB'.out.set 0 _⟩
      clear hn' hall hlen
      go_wp2_with (first | ((with_reducible refine gate_dst (N := 31) rfl ?_); refine wp_load_arr rfl _ _ rfl rfl HS.out Try.underlying66 rfl (by rw [nums_length, HL.out]; exact info_counts) ?_) | ((with_reducible refine gate_store (p := 2) rfl ?_); refine wp_store_arr rfl _ _ _ rfl (cells := nums .i64 ((cntsOf ls).set 0 0)) rfl rfl (HB1.out.far hne _) (by rw [nums_length, HL.out]; exact info_counts) (by rw [nums_length, nums_length, HL.out]; rfl) (nums_all _ _) ?_; intro w3 hb3 hc3 hk3 hs3; have B3 := Sealed.mk hb3; have C3 := Sealed.mk hc3; clear hb3 hc3 hk3 hs3))
      refine bodyPost_ret (results_cell_tmp rfl _ rfl B3.out Try.underlying66 rfl (by rw [nums_length, HL.out]; exact info_counts)) rfl ⟨by rw [cntVal_ok HALL.out]; rfl, ?_⟩
      exact ((HC.out.set_new GE2 _).one_new C3.out GE1).to_below
end Go.Proofs.Ytmdlhbhdlhjakaa
