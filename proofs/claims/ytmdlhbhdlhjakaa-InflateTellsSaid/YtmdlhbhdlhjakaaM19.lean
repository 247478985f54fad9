/- The contract of the document's answer for codes: Codes. The contract of the document's answer for codes: Read. -/
import Derived.Test.YtmdlhbhdlhjakaaM18
set_option linter.unusedVariables false
set_option linter.unusedSimpArgs false
namespace Go.Proofs.Ytmdlhbhdlhjakaa
open Go.RowKit

def refAt (ls : List Int) (n : Int) (i j : Nat) : Int := if 1 ≤ ls.getD j 0 ∧ (ls.getD j 0 < n ∨ (ls.getD j 0 = n ∧ j < i)) then (codesOf ls).getD j 0 else 0
def refOut (ls : List Int) (n : Int) (i : Nat) : List Int := (List.range ls.length).map (refAt ls n i)
theorem refOut_len (ls : List Int) (n : Int) (i : Nat) : (refOut ls n i).length = ls.length := by simp [refOut]
theorem refOut_congr {ls : List Int} {n m : Int} {i k : Nat} (h : ∀ j, j < ls.length → refAt ls n i j = refAt ls m k j) : refOut ls n i = refOut ls m k :=
  List.map_congr_left fun j hj => h j (List.mem_range.1 hj)
theorem refOut_start (ls : List Int) : refOut ls 1 0 = List.replicate ls.length 0 := by
  have : refOut ls 1 0 = (List.range ls.length).map (fun _ => (0 : Int)) := List.map_congr_left fun j hj => by
    unfold refAt
    rw [if_neg (by omega)]
  rw [this, List.map_const', List.length_range]
theorem refOut_no {ls : List Int} {n : Int} {i : Nat} (h : ls.getD i 0 ≠ n) : refOut ls n (i + 1) = refOut ls n i :=
  refOut_congr fun j hj => by
    unfold refAt
    have : (ls.getD j 0 = n ∧ j < i + 1) ↔ (ls.getD j 0 = n ∧ j < i) := by
      constructor
      · rintro ⟨a, b⟩
        refine ⟨a, ?_⟩
        rcases Nat.lt_or_eq_of_le (Nat.lt_succ_iff.1 b) with h1 | h1
        · exact h1
        · subst h1; exact absurd a h
      · rintro ⟨a, b⟩; exact ⟨a, by omega⟩
    simp only [this]
theorem refOut_yes {ls : List Int} {n : Int} {i : Nat} (hi : i < ls.length) (hn : 1 ≤ n) (h : ls.getD i 0 = n) : (refOut ls n i).set i ((codesOf ls).getD i 0) = refOut ls n (i + 1) := by
  apply List.ext_getElem?
  intro j
  rw [List.getElem?_set, refOut_len]
  by_cases hj : j < ls.length
  · have e : ∀ k, (refOut ls n k)[j]? = some (refAt ls n k j) := fun k => by simp [refOut, hj]
    rw [e, e]
    by_cases hij : i = j
    · subst hij
      rw [if_pos rfl, if_pos hi]
      congr 1
      unfold refAt
      rw [if_pos ⟨by omega, .inr ⟨h, by omega⟩⟩]
    · rw [if_neg hij]
      congr 1
      unfold refAt
      have : (j < i + 1) = (j < i) := by simp; omega
      simp only [this]
  · have e : ∀ k, (refOut ls n k)[j]? = none := fun k => List.getElem?_eq_none (by rw [refOut_len]; omega)
    rw [e, e, if_neg (by omega)]
theorem refOut_next (ls : List Int) (n : Int) : refOut ls n ls.length = refOut ls (n + 1) 0 :=
  refOut_congr fun j hj => by
    unfold refAt
    have : (ls.getD j 0 < n ∨ (ls.getD j 0 = n ∧ j < ls.length)) ↔ (ls.getD j 0 < n + 1 ∨ (ls.getD j 0 = n + 1 ∧ j < 0)) := by omega
    simp only [this]
theorem codesOf_zero {ls : List Int} {k : Nat} (hk : k < ls.length) (h0 : ls.getD k 0 = 0) : (codesOf ls).getD k 0 = 0 := by
  have h1 := codeSt_old (firstsOf (cnt0 ls)) ls k ls.length hk (Nat.le_refl _)
  rw [List.take_length] at h1
  unfold codesOf
  rw [h1, take_snoc hk, codeSt_snoc, h0]
  have h2 := (codeSt_len (firstsOf (cnt0 ls)) (ls.take k)).2
  rw [List.length_take] at h2
  have h4 : (codeSt (firstsOf (cnt0 ls)) (ls.take k)).2.length = k := by omega
  unfold codeStep
  rw [if_neg (by omega)]
  simp [List.getD_eq_getElem?_getD, List.getElem?_append_right, h4]
theorem refOut_end {ls : List Int} (ha : ls.all lenOk = true) : refOut ls 16 0 = codesOf ls := by
  have hl : (codesOf ls).length = ls.length := (codeSt_len _ _).2
  apply List.ext_getElem?
  intro j
  by_cases hj : j < ls.length
  · have e : (refOut ls 16 0)[j]? = some (refAt ls 16 0 j) := by simp [refOut, hj]
    have e2 : (codesOf ls)[j]? = some ((codesOf ls).getD j 0) := by rw [List.getD_eq_getElem?_getD, List.getElem?_eq_getElem (by omega)]; rfl
    rw [e, e2]
    congr 1
    have hx := lenOk_at ha hj
    unfold refAt
    split
    · rfl
    · rename_i h
      exact (codesOf_zero hj (by omega)).symm
  · rw [List.getElem?_eq_none (by rw [refOut_len]; omega), List.getElem?_eq_none (by omega)]
theorem taken_bd {c : List Int} (hc : CntOk c) {n : Nat} (h : n ≤ 16) : 0 ≤ taken c n ∧ taken c n ≤ 200001000 := by
  have h1 := firstAt_le hc h
  have h2 := hc.2 n
  unfold taken; omega
theorem own_form {w : World} {base n : Nat} {e : TypeId} {A : Option Addr} {c size : Nat} {xs : List Value} (h : w.ownsRow base e size (.slice A n c) n xs) (hn : 0 < n) : ∃ g, A = some ⟨g, 0, none⟩ ∧ base ≤ g ∧ Typed w g e := by
  rcases h.2 with ⟨hv, h0⟩ | ⟨g, cap, cur, hv, hb, hh, _⟩
  · omega
  · injection hv with hv _ _
    exact ⟨g, hv, hb, _, _, hh⟩

set_option maxRecDepth 100000 in
theorem rcodes_err {A : Option Addr} {cap : Nat} {ls : List Int} {w : World} (hr : Reads w .i64 A ls) (he : (mayOf (checkOf ls) != 0) = true) :
    Calls Try.prog 16 #[.slice A ls.length cap] w fun e w' => e = .returned (.tuple #[.slice none 0 0, .int .i64 (mayOf (checkOf ls))]) ∧ Below w.heap.size w w' := by
  have H := Sealed.mk (refused_any A cap ls w hr)
  obtain ⟨r, hre⟩ : ∃ r, r = mayOf (checkOf ls) := ⟨_, rfl⟩
  rw [← hre] at H he ⊢
  clear hr hre
  go_enter Try.func16, Try.ntmps16
  go_wp2_with (go_at_call 43; refine H.out.mono ?_; rintro e w1 ⟨rfl, hb⟩; have L1 := Sealed.mk hb; clear hb)
  go_ret2
  exact ⟨rfl, L1.out⟩

set_option maxRecDepth 100000 in
set_option maxHeartbeats 1000000 in
theorem rcodes_good {A : Option Addr} {cap : Nat} {ls : List Int} {w : World} (hr : Reads w .i64 A ls) (hn : ls.length ≤ 320) (ha : ls.all lenOk = true) (hm : mayOf (checkOf ls) = 0) :
    Calls Try.prog 16 #[.slice A ls.length cap] w fun e w' => ∃ v, e = .returned (.tuple #[v, .int .i64 0]) ∧ w'.ownsRow w.heap.size 3 1 v ls.length (nums .i64 (codesOf ls)) ∧ Below w.heap.size w w' := by
  have h1 := refused_any A cap ls w hr
  rw [hm] at h1
  have H := Sealed.mk h1
  have HX := Sealed.mk hr
  have HCo := Sealed.mk (cnt0_ok hn)
  have HA := Sealed.mk ha
  clear h1 hr hm ha
  go_enter Try.func16, Try.ntmps16
  go_wp2_with (first
    | (go_at_call 43; refine H.out.mono ?_; rintro e w1 ⟨rfl, hb⟩; have L1 := Sealed.mk hb; clear hb)
    | ((with_reducible refine gate_dst (N := 15) rfl ?_); refine ev_lit (cs := []) (t := 3) (n := 0) ?hg ?hr ?_; (case hg => rfl); (case hr => first | (go_simp; done) | (go_simp; rfl)); intro g1 w2 hg1 hb1 hB1 hs1; have G1 := Sealed.mk hg1; have B1 := Sealed.mk hb1; have L2 := Sealed.mk hB1; clear hg1 hb1 hB1 hs1))
  have HO : Sealed (w2.ownsRow w.heap.size 3 1 (.slice (some ⟨g1, 0, none⟩) 0 0) 0 (nums .i64 (List.replicate 0 0))) := ⟨B1.out.owns (by rw [G1.out]; exact L1.out.size) (by decide)⟩
  have HC : Sealed (Chg w.heap.size [3] w w2) := ⟨(Chg.of_below L1.out).below_step L2.out⟩
  clear B1 G1 L1 L2 H
  go_loopg [5, 6] ls.length (fun k s5 s6 w' => ∃ i : Nat, s6 = .int .i64 i ∧ Sealed (k = ls.length - i) ∧ Sealed (i ≤ ls.length) ∧ Sealed (w'.ownsRow w.heap.size 3 1 s5 i (nums .i64 (List.replicate i 0))) ∧ Sealed (Chg w.heap.size [3] w w'))
  case atStart => exact ⟨0, rfl, ⟨rfl⟩, ⟨Nat.zero_le _⟩, HO, HC⟩
  case round =>
    clear HO HC
    obtain ⟨i, rfl, HK, HI, HO, HC⟩ := hrel
    by_cases hlt : i < ls.length
    · have HS : Sealed (w.heap.size ≤ wr.heap.size) := ⟨HC.out.size⟩
      go_wp2_with ((with_reducible refine gate_dst (N := 24) rfl ?_); refine wp_app1 w.heap.size rfl (.tmp 22) (.tmp 23) 22 3 (.int .i64 0) 8 rfl Try.underlying22 info_i64 rfl (by decide) _ i _ _ rfl rfl rfl HO.out HS.out (by omega) ?_; intro v4 w4 ho4 hg4; have HO4 := Sealed.mk ho4; have HG4 := Sealed.mk hg4; clear ho4 hg4)
      go_roundg (ls.length - (i + 1))
      case measure => have := HK.out; omega
      case rel =>
        have ho := HO4.out
        rw [← nums_snoc, ← List.replicate_succ'] at ho
        exact ⟨i + 1, by go_num, ⟨rfl⟩, ⟨hlt⟩, ⟨ho⟩, ⟨HC.out.grown HO.out (Nat.le_refl _) (by simp) HG4.out⟩⟩
    · have hi : i = ls.length := by have := HI.out; omega
      have HO1 : Sealed (wr.ownsRow w.heap.size 3 1 u5 ls.length (nums .i64 (refOut ls 1 0))) := ⟨by have h := HO.out; rw [hi] at h; rw [refOut_start]; exact h⟩
      have hdn : decide (i < ls.length) = false := decide_eq_false hlt
      obtain ⟨A5, c5, hv5⟩ := own_slice HO1.out
      subst hv5
      obtain ⟨cs, hcs⟩ : ∃ cs, cs = cnt0 ls := ⟨_, rfl⟩
      have HCS := Sealed.mk hcs
      rw [← hcs] at HCo
      clear hi hlt HO HI HK hcs
      go_wp2
      go_loopg [7, 8] 15 (fun k s7 s8 w' => ∃ (m : Nat) (N x : Int), s7 = .int .i64 x ∧ s8 = .int .i64 N ∧ Sealed (N = ((m + 1 : Nat) : Int)) ∧ 1 ≤ N ∧ N ≤ 16 ∧ Sealed (k = 15 - m) ∧ 0 ≤ x ∧ x ≤ 200001000 ∧ Sealed (x = taken cs m) ∧ Sealed (w'.ownsRow w.heap.size 3 1 (.slice A5 ls.length c5) ls.length (nums .i64 (refOut ls N 0))) ∧ Sealed (Chg w.heap.size [3] w w'))
      case atStart => exact ⟨0, 1, 0, rfl, rfl, ⟨rfl⟩, by omega, by omega, ⟨rfl⟩, by omega, by omega, ⟨by
        have hc0 : (cnt0 ls).getD 0 0 = 0 := by rw [cnt0, getD_set_eq (by rw [cntsOf_len]; omega)]
        rw [HCS.out, taken, hc0]; rfl⟩, HO1, HC⟩
      case round =>
        clear HO1 HC
        obtain ⟨m, N, x, rfl, rfl, HNN, hN1, hN16, HK, hx0, hx1, HXT, HO, HC⟩ := hrel
        by_cases hlt : N ≤ 15
        · have hf := firstAt_le HCo.out (n := m + 1) (by have := HNN.out; omega)
          have hfx : 2 * x = firstAt cs (m + 1) := by rw [firstAt, HXT.out, taken]
          have HFX := Sealed.mk hfx
          clear hf hfx
          go_wp2
          go_loopg [7, 9] ls.length (fun k s7 s9 w' => ∃ (i : Nat) (y : Int), s7 = .int .i64 y ∧ s9 = .int .i64 i ∧ Sealed (k = ls.length - i) ∧ Sealed (i ≤ ls.length) ∧ 0 ≤ y ∧ y ≤ 400003000 ∧ Sealed (y = firstAt cs (m + 1) + ((idxPart ls N i).length : Int)) ∧ Sealed (w'.ownsRow w.heap.size 3 1 (.slice A5 ls.length c5) ls.length (nums .i64 (refOut ls N i))) ∧ Sealed (Chg w.heap.size [3] w w'))
          case atStart => exact ⟨0, 2 * x, rfl, rfl, ⟨rfl⟩, ⟨Nat.zero_le _⟩, by omega, by omega, ⟨by rw [HFX.out]; simp [idxPart]⟩, HO, HC⟩
          case round =>
            clear HO HC
            obtain ⟨i, y, rfl, rfl, HK2, HI, hy0, hy1, HY, HO, HC⟩ := hrel
            by_cases hli : i < ls.length
            · obtain ⟨ad, rfl, hc0⟩ := HX.out.cell i hli
              obtain ⟨z, hz⟩ : ∃ z, z = ls.getD i 0 := ⟨_, rfl⟩
              rw [← hz] at hc0
              have hc := cell_chg hc0 HC.out (World.block_lt_of_cell? w _ hc0)
              obtain ⟨g5, rfl, hg5, ht5⟩ := own_form HO.out (by omega)
              have HT5 := Sealed.mk ht5
              have HZ := Sealed.mk hz
              have hil := idxPart_le ls N i
              have hyb : y ≤ 200000400 := by
                have := firstAt_le HCo.out (n := m + 1) (by have := HNN.out; omega)
                rw [HY.out]; omega
              clear hc0 hz ht5 hil
              by_cases he : z = N
              · have hb : (z == N) = true := by simpa using he
                have hoc := HO.out.cellAt i (by omega)
                rw [nums_get (by rw [refOut_len]; exact hli)] at hoc
                have hof := HO.out.frozenAt i
                have hst := HO.out.stored i (.int .i64 y)
                have hcode : (codesOf ls).getD i 0 = y := by
                  rw [codesOf_at HA.out hli (L := m + 1) (by rw [← HZ.out, he, HNN.out]) (by omega), HY.out, HCS.out, HNN.out]
                have HST : Sealed ((wr.setCell ⟨g5, i, none⟩ (.int .i64 y)).ownsRow w.heap.size 3 1 (.slice (some ⟨g5, 0, none⟩) ls.length c5) ls.length (nums .i64 (refOut ls N (i + 1)))) := ⟨by
                  rw [← refOut_yes hli hN1 (by rw [← HZ.out]; exact he), hcode, ← nums_set]; exact hst.1⟩
                have HE : Sealed (ls.getD i 0 = N) := ⟨by rw [← HZ.out]; exact he⟩
                obtain ⟨old, hold⟩ : ∃ old, old = (refOut ls N i).getD i 0 := ⟨_, rfl⟩
                rw [← hold] at hoc
                clear he hst hcode hold
                go_wp2
                go_roundg (ls.length - (i + 1))
                case measure => have := HK2.out; omega
                case rel =>
                  refine ⟨i + 1, y + 1, rfl, by go_num, ⟨rfl⟩, ⟨hli⟩, by omega, by omega, ⟨?_⟩, HST, ⟨HC.out.set_old hg5 (by simp) HT5.out _⟩⟩
                  rw [idxPart_yes HE.out, List.length_append, HY.out]; simp; omega
              · have hb : (z == N) = false := by simpa using he
                have HE : Sealed (ls.getD i 0 ≠ N) := ⟨by rw [← HZ.out]; exact he⟩
                clear he
                go_wp2
                go_roundg (ls.length - (i + 1))
                case measure => have := HK2.out; omega
                case rel =>
                  refine ⟨i + 1, y, rfl, by go_num, ⟨rfl⟩, ⟨hli⟩, hy0, hy1, ⟨?_⟩, ⟨?_⟩, HC⟩
                  · rw [idxPart_no HE.out]; exact HY.out
                  · rw [refOut_no HE.out]; exact HO.out
            · have hi : i = ls.length := by have := HI.out; omega
              have hdn2 : decide (i < ls.length) = false := decide_eq_false hli
              have HO2 : Sealed (wr.ownsRow w.heap.size 3 1 (.slice A5 ls.length c5) ls.length (nums .i64 (refOut ls (N + 1) 0))) := ⟨by have h := HO.out; rw [hi, refOut_next] at h; exact h⟩
              have hyt : y = taken cs (m + 1) := by
                have hl := idxOf_len HA.out (n := m + 1) (by omega) (by have := HNN.out; omega)
                rw [HY.out, hi, HNN.out, taken, HCS.out, ← hl]; rfl
              have HYT := Sealed.mk hyt
              have hyb := taken_bd HCo.out (n := m + 1) (by have := HNN.out; omega)
              rw [← hyt] at hyb
              have hyb1 := hyb.2
              clear hi hli hyt hyb
              go_wp2
              go_roundg (15 - (m + 1))
              case measure => have := HK.out; have := HNN.out; omega
              case rel => exact ⟨m + 1, N + 1, y, rfl, by go_num, ⟨by rw [HNN.out]; omega⟩, by omega, by omega, ⟨rfl⟩, hy0, hyb1, HYT, HO2, HC⟩
        · have hN : N = 16 := by omega
          have HO2 : Sealed (wr.ownsRow w.heap.size 3 1 (.slice A5 ls.length c5) ls.length (nums .i64 (codesOf ls))) := ⟨by have h := HO.out; rw [hN, refOut_end HA.out] at h; exact h⟩
          clear hN
          go_wp2
          go_ret2
          exact ⟨_, rfl, HO2.out, HC.out.to_below⟩
end Go.Proofs.Ytmdlhbhdlhjakaa

namespace Go.Proofs.Ytmdlhbhdlhjakaa
open Go.RowKit

theorem symsUpto_nn (ls : List Int) : ∀ n, ∀ x ∈ symsUpto ls n, 0 ≤ x
  | 0, x, h => by simp [symsUpto] at h
  | n + 1, x, h => by
    rw [symsUpto, List.mem_append] at h
    rcases h with h | h
    · exact symsUpto_nn ls n x h
    · simp only [idxOf, idxPart, List.mem_map] at h
      obtain ⟨i, _, rfl⟩ := h
      show (0 : Int) ≤ ((i : Nat) : Int)
      omega
theorem symsOf_nn (ls : List Int) (i : Nat) : 0 ≤ (symsOf ls).getD i 0 := by
  by_cases h : i < (symsOf ls).length
  · refine symsUpto_nn ls 15 _ ?_
    rw [List.getD_eq_getElem?_getD, List.getElem?_eq_getElem h]
    exact List.getElem_mem h
  · rw [List.getD_eq_getElem?_getD, List.getElem?_eq_none (by omega)]; simp
theorem ret_three {a b c a' b' c' : Int} (h1 : a = a') (h2 : b = b') (h3 : c = c') : Ending.returned (Value.tuple #[.int .i64 a, .int .i64 b, .int .i64 c]) = Ending.returned (Value.tuple #[.int .i64 a', .int .i64 b', .int .i64 c']) := by subst h1 h2 h3; rfl

set_option maxRecDepth 100000 in
set_option maxHeartbeats 1000000 in
theorem rread_any {A0 A1 A2 : Option Addr} {c0 c1 c2 : Nat} {ls bs : List Int} {f : Nat → Nat} {w : World} (p : Nat) (hr0 : Reads w .i64 A0 ls) (hr1 : Reads w .i64 A1 (codesOf ls)) (hr2 : Reads w .i64 A2 bs) (hf : ∀ i, f i ≤ 1) (hb : ∀ i, i < bs.length → bs.getD i 0 = (f i : Int)) (hs : bs.length ≤ 1000000000) (hp : p ≤ bs.length) (hn : ls.length ≤ 320) (ha : ls.all lenOk = true) :
    Calls Try.prog 20 #[.slice A0 ls.length c0, .slice A1 ls.length c1, .slice A2 bs.length c2, .int .i64 p] w fun e w' => e = .returned (.tuple #[.int .i64 (readOf ls f bs.length p).1, .int .i64 (readOf ls f bs.length p).2.2, .int .i64 (readOf ls f bs.length p).2.1]) ∧ Below w.heap.size w w' := by
  have HX := Sealed.mk hr0
  have HY := Sealed.mk hr1
  have HZ := Sealed.mk hr2
  have HFB := Sealed.mk hf
  have HB := Sealed.mk hb
  have HA := Sealed.mk ha
  have HCo := Sealed.mk (cnt0_ok hn)
  have HLN := Sealed.mk (rlong_eq ha)
  obtain ⟨R, hR⟩ : ∃ R, R = readOf ls f bs.length p := ⟨_, rfl⟩
  rw [← hR]
  have HR := Sealed.mk hR
  have hlong := longUpto_le ls 15
  obtain ⟨L, hL⟩ : ∃ L : Nat, longOf ls = (L : Int) := ⟨(longOf ls).toNat, by unfold longOf; omega⟩
  have hL15 : L ≤ 15 := by unfold longOf at hL; omega
  have HL := Sealed.mk hL
  have HLC : Sealed ((codesOf ls).length = ls.length) := ⟨(codeSt_len _ _).2⟩
  have HG := Sealed.mk (longest_any A0 c0 ls w hr0 (by omega))
  clear hr0 hr1 hr2 hf hb ha hR hlong hL
  go_enter Try.func20, Try.ntmps20
  go_wp2_with (go_at_call 45; refine HG.out.mono ?_; rw [HLN.out, HL.out]; rintro e w1 ⟨rfl, hb⟩; have L1 := Sealed.mk hb; clear hb)
  go_loopg [3, 11, 13] L (fun k s3 s11 s13 w' => ∃ (n q a : Nat) (c fi : Int), s3 = .int .i64 q ∧ s11 = .int .i64 c ∧ s13 = .int .i64 n ∧ Sealed (n + k = L + 1) ∧ 1 ≤ n ∧ n ≤ 16 ∧ 0 ≤ fi ∧ fi ≤ c ∧ Sealed (c < 2 ^ (n - 1)) ∧ Sealed (a = (symsUpto ls (n - 1)).length) ∧ Sealed (2 * fi = firstAt (cnt0 ls) n) ∧ q ≤ bs.length ∧ Sealed (Below w.heap.size w w') ∧ Sealed (readFrom ls f bs.length k n q c fi a = R))
  case atStart =>
    refine ⟨1, p, 0, 0, 0, rfl, rfl, rfl, ⟨by omega⟩, by omega, by omega, by omega, by omega, ⟨by decide⟩, ⟨rfl⟩, ⟨?_⟩, hp, L1, ⟨?_⟩⟩
    · have hc0 : (cnt0 ls).getD 0 0 = 0 := by rw [cnt0, getD_set_eq (by rw [cntsOf_len]; omega)]
      rw [firstAt, hc0]; rfl
    · rw [HR.out, readOf, HL.out]; rfl
  case round =>
    clear L1 hp
    obtain ⟨n, q, a, c, fi, rfl, rfl, rfl, HK, hn1, hn16, hf0, hfc, HC2, HAA, HFI, hqb, HC, HE⟩ := hrel
    cases gk with
    | zero =>
      have hd : decide (n ≤ L) = false := decide_eq_false (by have := HK.out; omega)
      have he := HE.out
      simp only [readFrom] at he
      have HE2 := Sealed.mk he
      clear he
      go_wp2
      go_ret3
      rw [← HE2.out]
      exact ⟨rfl, HC.out⟩
    | succ k =>
      have hnL : n ≤ L := by have := HK.out; omega
      have hd : decide (n ≤ L) = true := decide_eq_true hnL
      by_cases hq : bs.length ≤ q
      · have he := HE.out
        rw [readFrom, if_pos hq] at he
        have HE2 := Sealed.mk he
        have hdq : decide (bs.length ≤ q) = true := decide_eq_true hq
        clear he
        go_wp2
        go_ret3
        rw [← HE2.out]
        exact ⟨rfl, HC.out⟩
      · have hq' : q < bs.length := by omega
        have hdq : decide (bs.length ≤ q) = false := decide_eq_false hq
        have he := HE.out
        rw [readFrom, if_neg hq] at he
        have hbq := HFB.out q
        obtain ⟨ad, rfl, hx0⟩ := HZ.out.cell q hq'
        have hx := (HC.out.cell (World.block_lt_of_cell? w _ hx0)).trans hx0
        rw [HB.out q hq'] at hx
        obtain ⟨b, hbe⟩ : ∃ b, b = f q := ⟨_, rfl⟩
        obtain ⟨m, hme⟩ : ∃ m, m = (cnt0 ls).getD n 0 := ⟨_, rfl⟩
        have hn15 : n ≤ 15 := by omega
        have hlm := idxOf_len HA.out hn1 hn15
        rw [← hme] at hlm
        rw [← hbe, ← hme] at he
        rw [← hbe] at hx hbq
        have hmb := HCo.out.2 n
        rw [← hme] at hmb
        have hm0 := hmb.1
        have hsy : (symsUpto ls n).length = a + m.toNat := by
          obtain ⟨n', rfl⟩ : ∃ n', n = n' + 1 := ⟨n - 1, by omega⟩
          rw [symsUpto, List.length_append, HAA.out]
          simp only [Nat.add_sub_cancel]
          omega
        have hp2 : (2 : Int) ^ (n - 1) ≤ 2 ^ 14 := by
          have : (2 : Nat) ^ (n - 1) ≤ 2 ^ 14 := Nat.pow_le_pow_right (by decide) (by omega)
          exact_mod_cast this
        have hc14 : c < 16384 := by have := HC2.out; omega
        have hcb : 2 * c + (b : Int) < 2 ^ n := by
          have e : (2 : Int) ^ n = 2 * 2 ^ (n - 1) := by
            have : n = (n - 1) + 1 := by omega
            rw [this, Int.pow_succ, Nat.add_sub_cancel, Int.mul_comm]
          have := HC2.out
          rw [e]; omega
        have hfn : fi * 2 + m = taken (cnt0 ls) n := by rw [taken, ← HFI.out, ← hme]; omega
        have hrf := rfind_code HA.out hn1 hn15 (code := 2 * c + (b : Int)) (by rw [← HFI.out]; omega)
        rw [← hme, ← HFI.out, ← HAA.out] at hrf
        have hfind := find_any A0 A1 c0 c1 ls (codesOf ls) (n : Int) (2 * c + (b : Int)) wr (HX.out.below HC.out) (HY.out.below HC.out) HLC.out (by omega) (by omega)
        have HF := Sealed.mk hfind
        have HRF := Sealed.mk hrf
        have HFN := Sealed.mk hfn
        have hb1 : b ≤ 1 := by omega
        have HSY := Sealed.mk hsy
        have HCB := Sealed.mk hcb
        have HE1 := Sealed.mk he
        clear hlm hmb hsy hp2 hcb hbe hme he hbq hq HE hx0 hrf hfn hfind
        by_cases hm : m ≤ (2 * c + (b : Int)) - fi * 2
        · have he := HE1.out
          simp only [if_pos hm] at he
          have HE2 := Sealed.mk he
          have hrf := HRF.out
          rw [if_pos (by omega)] at hrf
          have HF1 := Sealed.mk hrf
          have HM := Sealed.mk hm
          clear he HE1 hrf HRF hm
          go_wp2_with (go_at_call 46; refine HF.out.mono ?_; rw [HF1.out]; rintro e w1 ⟨rfl, hb⟩; have L2 := Sealed.mk hb; clear hb)
          go_roundg k
          case measure => omega
          case rel =>
            have hc2 := HCB.out
            have h7 := HFN.out
            refine ⟨n + 1, q + 1, a + m.toNat, 2 * c + (b : Int), fi * 2 + m, by go_num, rfl, by go_num, ⟨by have := HK.out; omega⟩, by omega, by omega, by omega, by have := HM.out; omega, ⟨hc2⟩, ⟨HSY.out.symm⟩, ⟨by rw [firstAt, h7, taken]⟩, by omega, ⟨?_⟩, HE2⟩
            have h1 : Chg w.heap.size [] w wr := Chg.of_below HC.out
            exact (h1.below_step L2.out).to_below
        · have he := HE1.out
          simp only [if_neg hm] at he
          have hrf := HRF.out
          rw [if_neg (by omega)] at hrf
          have h9 : (2 * c + (b : Int) - fi * 2) = (2 * c + (b : Int) - 2 * fi) := by omega
          rw [h9] at he
          have h0 := symsOf_nn ls (a + (2 * c + (b : Int) - 2 * fi).toNat)
          obtain ⟨K, hK⟩ : ∃ K, K = (symsOf ls).getD (a + (2 * c + (b : Int) - 2 * fi).toNat) 0 := ⟨_, rfl⟩
          rw [← hK] at he hrf h0
          have HE2 := Sealed.mk he
          have HF1 := Sealed.mk hrf
          clear he HE1 hrf HRF hm h9 hK
          go_wp2_with (go_at_call 46; refine HF.out.mono ?_; rw [HF1.out]; rintro e w1 ⟨rfl, hb⟩; have L2 := Sealed.mk hb; clear hb)
          go_ret3
          rw [← HE2.out]
          have h1 : Chg w.heap.size [] w wr := Chg.of_below HC.out
          exact ⟨ret_three rfl (by simp) rfl, (h1.below_step L2.out).to_below⟩
end Go.Proofs.Ytmdlhbhdlhjakaa
