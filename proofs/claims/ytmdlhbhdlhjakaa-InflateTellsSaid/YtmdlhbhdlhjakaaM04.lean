/- The contract of package codes' Codes. -/
import Derived.Test.YtmdlhbhdlhjakaaM03
set_option linter.unusedVariables false
set_option linter.unusedSimpArgs false
namespace Go.Proofs.Ytmdlhbhdlhjakaa
open Go.RowKit

theorem info_i64 : (Try.prog.info? 3).map (fun i => (i.zero, i.size, i.bytes)) = some (some (.int .i64 0), 1, 8) := by kernel_rfl
def codeStep (st : List Int × List Int) (x : Int) : List Int × List Int :=
  if 0 < x then (st.1.set x.toNat (st.1.getD x.toNat 0 + 1), st.2 ++ [st.1.getD x.toNat 0]) else (st.1, st.2 ++ [0])
def codeSt (f : List Int) (ls : List Int) : List Int × List Int := ls.foldl codeStep (f, [])
def codesOf (ls : List Int) : List Int := (codeSt (firstsOf (cnt0 ls)) ls).2
theorem codeSt_snoc (f ls : List Int) (x : Int) : codeSt f (ls ++ [x]) = codeStep (codeSt f ls) x := by simp [codeSt, List.foldl_append]
theorem codeStep_len (st : List Int × List Int) (x : Int) : (codeStep st x).1.length = st.1.length ∧ (codeStep st x).2.length = st.2.length + 1 := by
  unfold codeStep; split <;> simp
theorem codeSt_len (f ls : List Int) : (codeSt f ls).1.length = f.length ∧ (codeSt f ls).2.length = ls.length := by
  have : ∀ (ls : List Int) (st : List Int × List Int), (ls.foldl codeStep st).1.length = st.1.length ∧ (ls.foldl codeStep st).2.length = st.2.length + ls.length := by
    intro ls
    induction ls with
    | nil => intro st; simp
    | cons x xs ih =>
      intro st
      have h := ih (codeStep st x)
      have h2 := codeStep_len st x
      rw [List.foldl_cons, List.length_cons]
      omega
  have h := this ls (f, [])
  simpa [codeSt] using h
theorem codeSt_bd {f : List Int} {b : Int} (hf : ∀ i, 0 ≤ f.getD i 0 ∧ f.getD i 0 ≤ b) (ls : List Int) : ∀ i, 0 ≤ (codeSt f ls).1.getD i 0 ∧ (codeSt f ls).1.getD i 0 ≤ b + ls.length := by
  have : ∀ (ls : List Int) (st : List Int × List Int) (b : Int), (∀ i, 0 ≤ st.1.getD i 0 ∧ st.1.getD i 0 ≤ b) → ∀ i, 0 ≤ (ls.foldl codeStep st).1.getD i 0 ∧ (ls.foldl codeStep st).1.getD i 0 ≤ b + ls.length := by
    intro ls
    induction ls with
    | nil => intro st b h i; simpa using h i
    | cons x xs ih =>
      intro st b h i
      have := ih (codeStep st x) (b + 1) (fun j => by
        have h1 := h j
        have h2 := h x.toNat
        unfold codeStep
        split
        · simp only [List.getD_eq_getElem?_getD, List.getElem?_set] at *
          split
          · split
            · simp; omega
            · simp; omega
          · omega
        · simp only; omega) i
      rw [List.foldl_cons, List.length_cons]
      omega
  exact this ls (f, []) b hf
theorem set_mid (done : List Int) (m : Nat) (y : Int) (hm : 0 < m) : (done ++ List.replicate m 0).set done.length y = (done ++ [y]) ++ List.replicate (m - 1) 0 := by
  obtain ⟨q, rfl⟩ : ∃ q, m = q + 1 := ⟨m - 1, by omega⟩
  rw [List.set_append_right _ _ (Nat.le_refl _)]
  simp [List.replicate_succ]

set_option maxRecDepth 100000 in
theorem codes_err {A : Option Addr} {n cap : Nat} {er : Int} {w : World} (he : (er != 0) = true)
    (h : Calls Try.prog 73 #[.slice A n cap] w fun e w' => e = .returned (.int .i64 er) ∧ Below w.heap.size w w') :
    Calls Try.prog 39 #[.slice A n cap] w fun e w' => e = .returned (.tuple #[.slice none 0 0, .int .i64 er]) ∧ Below w.heap.size w w' := by
  have H := Sealed.mk h
  clear h
  go_enter Try.func39, Try.ntmps39
  go_wp2_with (go_at_call 73; refine H.out.mono ?_; rintro e w1 ⟨rfl, hb⟩; have L1 := Sealed.mk hb; clear hb)
  go_ret2
  exact ⟨rfl, L1.out⟩

set_option maxRecDepth 100000 in
set_option maxHeartbeats 1000000 in
theorem codes_good {A : Option Addr} {cap : Nat} {ls : List Int} {w : World} (hr : Reads w .i64 A ls) (hn : ls.length ≤ 320) (ha : ls.all lenOk = true) (hm : mayOf (checkOf ls) = 0) :
    Calls Try.prog 39 #[.slice A ls.length cap] w fun e w' => ∃ g, e = .returned (.tuple #[.slice (some ⟨g, 0, none⟩) ls.length ls.length, .int .i64 0]) ∧ IsBlk w' g (nums .i64 (codesOf ls)) 3 ∧ w.heap.size ≤ g ∧ Below w.heap.size w w' := by
  have h1 := may_any A cap ls w hr
  rw [hm] at h1
  have H1 := Sealed.mk h1
  have HR := Sealed.mk hr
  have HCo := Sealed.mk (cnt0_ok hn)
  have HA := Sealed.mk ha
  clear h1 hr hm ha
  go_enter Try.func39, Try.ntmps39
  go_wp2_with (first
    | (go_at_call 73; refine H1.out.mono ?_; rintro e w1 ⟨rfl, hb⟩; have L1 := Sealed.mk hb; have HR1 := Sealed.mk (HR.out.below hb); clear hb)
    | (go_at_call 42; refine (counted_ok A cap ls _ HR1.out hn).mono ?_; rw [cntVal_ok HA.out]; rintro e w2 ⟨rfl, hb⟩; have L2 := Sealed.mk hb; clear hb)
    | ((with_reducible refine gate_dst (N := 5) rfl ?_); refine ev_box (cs := nums .i64 zeros16) (t := 66) ?hg ?hr ?_; (case hg => rfl); (case hr => first | (go_simp; done) | (go_simp; rfl)); intro g1 w3 hg1 hb1 hB1 hs1; have G1 := Sealed.mk hg1; have B1 := Sealed.mk hb1; have L3 := Sealed.mk hB1; clear hg1 hb1 hB1 hs1)
    | ((with_reducible refine gate_store (p := 5) rfl ?_); refine wp_store_arr rfl _ _ _ rfl (cells := nums .i64 (cnt0 ls)) rfl rfl B1.out (by rw [nums_length, HCo.out.1]; exact info_counts) (by rw [nums_length, nums_length, HCo.out.1]; rfl) (nums_all _ _) ?_; intro w4 hb3 hc3 hk3 hs3; have B4 := Sealed.mk hb3; have C4 := Sealed.mk hc3; clear hb3 hc3 hk3 hs3)
    | ((with_reducible refine gate_dst (N := 21) rfl ?_); refine wp_load_arr rfl _ _ rfl rfl B4.out Try.underlying66 rfl (by rw [nums_length, HCo.out.1]; exact info_counts) ?_)
    | (go_at_call 74; refine (firsts_any (cnt0 ls) _ HCo.out).mono ?_; rintro e w5 ⟨rfl, hb⟩; have L5 := Sealed.mk hb; clear hb)
    | ((with_reducible refine gate_dst (N := 7) rfl ?_); refine ev_box (cs := nums .i64 zeros16) (t := 66) ?hg ?hr ?_; (case hg => rfl); (case hr => first | (go_simp; done) | (go_simp; rfl)); intro g2 w6 hg1 hb1 hB1 hs1; have G2 := Sealed.mk hg1; have B6 := Sealed.mk hb1; have L6 := Sealed.mk hB1; clear hg1 hb1 hB1 hs1)
    | ((with_reducible refine gate_store (p := 7) rfl ?_); refine wp_store_arr rfl _ _ _ rfl (cells := nums .i64 (firstsOf (cnt0 ls))) rfl rfl B6.out (by rw [nums_length]; exact info_counts) (by rw [nums_length, nums_length]; rfl) (nums_all _ _) ?_; intro w7 hb3 hc3 hk3 hs3; have B7 := Sealed.mk hb3; have C7 := Sealed.mk hc3; have S7 := Sealed.mk hs3; clear hb3 hc3 hk3 hs3)
    | ((with_reducible refine gate_dst (N := 25) rfl ?_); refine ev_make rfl rfl (m := ls.length) (bytes := 8) Try.underlying22 info_i64 rfl rfl (by decide) (by omega) ?_; intro g3 w8 hg1 hb1 hB1 hs1; have G3 := Sealed.mk hg1; have B8 := Sealed.mk hb1; have L8 := Sealed.mk hB1; clear hg1 hb1 hB1 hs1))
  have S6 : g1 = g1 := rfl
  have h23 : g2 ≠ g3 := (B7.out.below' L8.out).ne B8.out (by decide)
  have GE2 : w.heap.size ≤ g2 := by
    rw [G2.out]
    exact Nat.le_trans (Nat.le_trans (Nat.le_trans (Nat.le_trans L1.out.size L2.out.size) L3.out.size) C4.out.size) L5.out.size
  have c7 : Chg w.heap.size [] w w7 := ((((((((Chg.refl w.heap.size [] w).below_step L1.out).below_step L2.out).below_step L3.out).one_new C4.out (by rw [G1.out]; exact Nat.le_trans L1.out.size L2.out.size)).below_step L5.out).below_step L6.out).one_new C7.out GE2)
  have GE3 : w.heap.size ≤ g3 := by rw [G3.out]; exact c7.size
  have C8 := Sealed.mk (c7.below_step L8.out)
  have B78 := Sealed.mk (B7.out.below' L8.out)
  clear c7 B7 B6 B4 B1 G1 G2 G3 L1 L2 L3 L5 L6 L8 C4 C7 S7 HR1 H1
  obtain ⟨f, hf⟩ : ∃ f, f = firstsOf (cnt0 ls) := ⟨_, rfl⟩
  rw [← hf] at B78
  have hfb : ∀ i, 0 ≤ f.getD i 0 ∧ f.getD i 0 ≤ 200000000 := by
    intro i
    rw [hf]
    by_cases hi : i < 16
    · rw [firstsOf, firstsUpto_get _ _ _ hi, if_pos hi]
      exact firstAt_le HCo.out (by omega)
    · rw [List.getD_eq_getElem?_getD, List.getElem?_eq_none (by rw [firstsOf, firstsUpto_len]; omega)]
      simp
  have hfl : f.length = 16 := by rw [hf]; exact firstsUpto_len _ _
  have HF := Sealed.mk hf
  have HFB := Sealed.mk hfb
  have HFL := Sealed.mk hfl
  clear hf hfb hfl
  go_loopg [28] ls.length (fun k i w' => ∃ n : Nat, i = .int .i64 n ∧ Sealed (n ≤ ls.length) ∧ Sealed (k = ls.length - n) ∧ Sealed (IsBlk w' g2 (nums .i64 (codeSt f (ls.take n)).1) 66) ∧ Sealed (IsBlk w' g3 (nums .i64 ((codeSt f (ls.take n)).2 ++ List.replicate (ls.length - n) 0)) 3) ∧ Sealed (Chg w.heap.size [] w w'))
  case atStart => exact ⟨0, rfl, ⟨Nat.zero_le _⟩, ⟨by simp⟩, B78, B8, C8⟩
  case round =>
    clear B78 B8 C8
    obtain ⟨n, rfl, HN, HK, HB2, HB3, HC⟩ := hrel
    by_cases hlt : n < ls.length
    · obtain ⟨ad, rfl, hc0⟩ := HR.out.cell n hlt
      have hok : lenOk (ls.getD n 0) = true := (List.all_eq_true.1 HA.out) _ (by rw [List.getD_eq_getElem?_getD, List.getElem?_eq_getElem hlt]; simp)
      have ht := take_snoc hlt
      obtain ⟨x, hx⟩ : ∃ x, x = ls.getD n 0 := ⟨_, rfl⟩
      rw [← hx] at hc0 hok ht
      have hc := cell_chg hc0 HC.out (World.block_lt_of_cell? w _ hc0)
      have hx0 : 0 ≤ x := by simp [lenOk] at hok; omega
      have hx15 : x ≤ 15 := by simp [lenOk] at hok; omega
      obtain ⟨st, hst⟩ : ∃ st, st = codeSt f (ls.take n) := ⟨_, rfl⟩
      have hsl := codeSt_len f (ls.take n)
      have hsb := codeSt_bd HFB.out (ls.take n) x.toNat
      rw [List.length_take] at hsl hsb
      rw [← hst] at hsl hsb HB2 HB3
      have HT : Sealed (codeSt f (ls.take (n + 1)) = codeStep st x) := ⟨by rw [ht, codeSt_snoc, hst]⟩
      have hnx := HB2.out.cell x.toNat (nums_get (k := .i64) (by rw [hsl.1, HFL.out]; omega))
      have hnf := HB2.out.free x.toNat
      have hon : n < (st.2 ++ List.replicate (ls.length - n) (0 : Int)).length := by simp; omega
      have hoc := HB3.out.cell n (nums_get (k := .i64) hon)
      have hof := HB3.out.free n
      have h3n : ∀ v, (wr.setCell ⟨g3, n, none⟩ v).cell? ⟨g2, x.toNat, none⟩ = some (.int .i64 (st.1.getD x.toNat 0)) := fun v => (HB2.out.far h23 v).cell x.toNat (nums_get (k := .i64) (by rw [hsl.1, HFL.out]; omega))
      have h3f : ∀ v, (wr.setCell ⟨g3, n, none⟩ v).frozen? ⟨g2, x.toNat, none⟩ = false := fun v => (HB2.out.far h23 v).free x.toNat
      obtain ⟨y, hy⟩ : ∃ y, y = st.1.getD x.toNat 0 := ⟨_, rfl⟩
      obtain ⟨z, hz⟩ : ∃ z, z = (st.2 ++ List.replicate (ls.length - n) (0 : Int)).getD n 0 := ⟨_, rfl⟩
      rw [← hy] at hnx hsb
      simp only [← hy] at h3n
      rw [← hz] at hoc
      have hy0 := hsb.1
      have hy1 : y ≤ 200000320 := by omega
      have HSL := Sealed.mk hsl
      have HY := Sealed.mk hy
      clear hsb hsl hy hz hst hx ht hc0 hok hon
      by_cases hp : 0 < x
      · have hd : decide (0 < x) = true := decide_eq_true hp
        go_wp2
        go_roundg (ls.length - (n + 1))
        case measure => have := HK.out; omega
        case rel =>
          have e1 : codeStep st x = (st.1.set x.toNat (y + 1), st.2 ++ [y]) := by simp only [codeStep, if_pos hp, ← HY.out]
          have hb3 := HB3.out.set n (.int .i64 y)
          have hl2 : st.2.length = n := by have := HSL.out.2; have := HN.out; omega
          have hb2 := ((HB2.out.far h23 (p := ⟨g3, n, none⟩) (.int .i64 y)).set x.toNat (.int .i64 (y + 1)))
          rw [nums_set] at hb3 hb2
          have e2 := set_mid st.2 (ls.length - n) y (by omega)
          rw [hl2] at e2
          rw [e2] at hb3
          have e3 : ls.length - n - 1 = ls.length - (n + 1) := by omega
          rw [e3] at hb3
          refine ⟨n + 1, by go_num, ⟨hlt⟩, ⟨rfl⟩, ⟨?_⟩, ⟨?_⟩, ⟨(HC.out.set_new GE3 _).set_new GE2 _⟩⟩
          · rw [HT.out, e1]; exact hb2
          · rw [HT.out, e1]; exact hb3.far (Ne.symm h23) _
      · have hx00 : x = 0 := by omega
        have hd : decide (0 < x) = false := decide_eq_false hp
        clear hx0 hx15
        have HX00 := Sealed.mk hx00
        clear hx00 hp
        go_wp2
        go_roundg (ls.length - (n + 1))
        case measure => have := HK.out; omega
        case rel =>
          have e1 : codeStep st x = (st.1, st.2 ++ [0]) := by simp only [codeStep, HX00.out]; rfl
          have e4 : ls.length - n = (ls.length - (n + 1)) + 1 := by omega
          have hb3 := HB3.out
          rw [e4, List.replicate_succ, List.append_cons] at hb3
          refine ⟨n + 1, by go_num, ⟨hlt⟩, ⟨rfl⟩, ⟨?_⟩, ⟨?_⟩, HC⟩
          · rw [HT.out, e1]; exact HB2.out
          · rw [HT.out, e1]; exact hb3
    · have hn' : n = ls.length := by have := HN.out; omega
      have HE : Sealed (IsBlk wr g3 (nums .i64 (codesOf ls)) 3) := ⟨by
        have h := HB3.out
        rw [hn', List.take_length, Nat.sub_self, HF.out] at h
        simpa [codesOf] using h⟩
      clear hn'
      go_wp2
      go_ret2
      exact ⟨g3, rfl, HE.out, GE3, HC.out.to_below⟩
end Go.Proofs.Ytmdlhbhdlhjakaa
