/- The contract of the document's answer's far. The contracts of the document's answer's Order, heads. -/
import Derived.Test.YtmdlhbhdlhjakaaM31
import Derived.Test.YtmdlhbhdlhjakaaM18
import Derived.Test.YtmdlhbhdlhjakaaM25
set_option linter.unusedVariables false
set_option linter.unusedSimpArgs false
namespace Go.Proofs.Ytmdlhbhdlhjakaa
open Go.RowKit

theorem partOf_ok {x : Int} (h : lenOk x = true) : 0 ≤ partOf x ∧ (partOf x = 0 → x = 0) := by
  simp only [lenOk, Bool.and_eq_true, decide_eq_true_eq] at h
  have t : ∀ n : Nat, n ≤ 15 → 0 ≤ partOf (n : Int) ∧ (partOf (n : Int) = 0 → (n : Int) = 0) := by decide
  obtain ⟨n, rfl⟩ : ∃ n : Nat, x = (n : Int) := ⟨x.toNat, by omega⟩
  exact t n (by omega)
theorem rsum_zero : ∀ (k : Nat) (l : List Nat), l.length = k → (castL l).all lenOk = true → 0 ≤ rsum (castL l) ∧ (rsum (castL l) = 0 → sumL l = 0)
  | 0, l, h, _ => by
    obtain rfl := List.eq_nil_of_length_eq_zero h
    exact ⟨by decide, fun _ => rfl⟩
  | k + 1, l, h, ha => by
    obtain ⟨l', x, rfl⟩ : ∃ l' x, l = l' ++ [x] := ⟨l.dropLast, l.getLast (by intro e; subst e; simp at h), (List.dropLast_concat_getLast _).symm⟩
    have e : castL (l' ++ [x]) = castL l' ++ [(x : Int)] := by simp [castL]
    rw [e, all_snoc, Bool.and_eq_true] at ha
    obtain ⟨h1, h2⟩ := rsum_zero k l' (by simpa using h) ha.1
    obtain ⟨p1, p2⟩ := partOf_ok ha.2
    rw [e, rsum_snoc, sumL_snoc]
    exact ⟨by omega, fun h0 => by have := h2 (by omega); have := p2 (by omega); omega⟩
def farB (l : List Nat) : Bool := decide (checkOf (castL l) = 0) || decide (checkOf (castL l) = 12) || (decide (checkOf (castL l) = 5) && decide (sumL l = 1))
theorem far_eq {l : List Nat} (hl : l.length ≤ 320) : farB l = reachB l := by
  have hlen : (castL l).length = l.length := by simp [castL]
  unfold farB reachB
  by_cases hs : sumL l < 2
  · obtain ⟨h1, h2⟩ := rsum_le_one l.length l rfl hs
    have hc : checkOf (castL l) = if sumL l = 0 then 12 else 5 := by
      rw [← rcheck_eq]
      unfold rcheckOf
      rw [if_neg (by omega), if_pos h2, h1]
      rcases Nat.lt_or_ge (sumL l) 1 with hx | hx
      · rw [show sumL l = 0 by omega]; decide
      · rw [show sumL l = 1 by omega]; decide
    rw [hc]
    rcases Nat.lt_or_ge (sumL l) 1 with hx | hx
    · rw [show sumL l = 0 by omega]; decide
    · rw [show sumL l = 1 by omega]; decide
  · have h12 : checkOf (castL l) ≠ 12 := by
      intro h
      rw [← rcheck_eq] at h
      unfold rcheckOf at h
      rw [if_neg (by omega)] at h
      split at h
      · rename_i ha
        split at h
        · rename_i h0
          have := (rsum_zero l.length l rfl ha).2 h0
          omega
        · split at h
          · omega
          · split at h <;> omega
      · omega
    rw [decide_eq_false hs, decide_eq_false h12, decide_eq_false (show ¬ sumL l = 1 by omega)]
    simp
set_option maxRecDepth 100000 in
theorem rfar_any {w : World} {A : Option Addr} {cap : Nat} (l : List Nat) (hr : Reads w .i64 A (castL l)) (hl : l.length ≤ 320) (hb : ∀ x ∈ l, x ≤ 100) {N : Nat} (hN : N = l.length) :
    Calls Try.prog 98 #[.slice A N cap] w fun e w' => e = .returned (.bool (reachB l)) ∧ Below w.heap.size w w' := by
  subst hN
  rw [← far_eq hl]
  have HCK : Sealed (Calls Try.prog 76 #[.slice A l.length cap] w fun e w' => e = .returned (.int .i64 (checkOf (castL l))) ∧ Below w.heap.size w w') := ⟨by
    have h1 := rcheck_any A cap (castL l) w hr
    rw [show (castL l).length = l.length by simp [castL]] at h1
    exact h1⟩
  have HRW : Sealed (∀ w', Below w.heap.size w w' → Reads w' .i64 A (castL l)) := ⟨fun w' h => hr.below h⟩
  have HB := Sealed.mk hb
  obtain ⟨R, hR⟩ : ∃ R, R = farB l := ⟨_, rfl⟩
  rw [← hR]
  unfold farB at hR
  obtain ⟨ck, hck⟩ : ∃ ck, ck = checkOf (castL l) := ⟨_, rfl⟩
  rw [← hck] at HCK hR
  have HR2 := Sealed.mk hR
  clear hr hb hR hck
  by_cases h0 : ck = 0
  · subst h0
    have HRE : Sealed (R = true) := ⟨by rw [HR2.out]; simp⟩
    go_enter Try.func98, Try.ntmps98
    go_wp2_with fail
    refine HCK.out.mono ?_
    rintro e w2 ⟨rfl, hb⟩
    have B2 := Sealed.mk hb
    clear hb
    go_wp2
    go_ret
    exact ⟨ret_bool HRE.out.symm, B2.out⟩
  by_cases h12 : ck = 12
  · subst h12
    have HRE : Sealed (R = true) := ⟨by rw [HR2.out]; simp⟩
    clear h0
    go_enter Try.func98, Try.ntmps98
    go_wp2_with fail
    refine HCK.out.mono ?_
    rintro e w2 ⟨rfl, hb⟩
    have B2 := Sealed.mk hb
    clear hb
    go_wp2
    go_ret
    exact ⟨ret_bool HRE.out.symm, B2.out⟩
  have b0 : (ck == 0) = false := beq_eq_false_iff_ne.2 h0
  have b12 : (ck == 12) = false := beq_eq_false_iff_ne.2 h12
  have HRE : Sealed (R = (decide (ck = 5) && decide (sumL l = 1))) := ⟨by rw [HR2.out, decide_eq_false h0, decide_eq_false h12]; simp⟩
  clear h0 h12
  go_enter Try.func98, Try.ntmps98
  go_wp2_with fail
  refine HCK.out.mono ?_
  rintro e w2 ⟨rfl, hbl⟩
  have B2 := Sealed.mk hbl
  have HR := Sealed.mk (HRW.out _ hbl)
  clear hbl HCK
  go_wp2
  go_loopg [4, 5] l.length (fun k s4 s5 w' => ∃ (i S : Nat), s4 = .int .i64 S ∧ s5 = .int .i64 i ∧ i ≤ l.length ∧ Sealed (k = l.length - i) ∧ S ≤ 100000 ∧ Sealed (S = sumL (l.take i)) ∧ w' = w2)
  case atStart => exact ⟨0, 0, rfl, rfl, by omega, ⟨rfl⟩, by omega, ⟨rfl⟩, rfl⟩
  case round =>
    obtain ⟨i, S, rfl, rfl, hi, HK, hS, HS, rfl⟩ := hrel
    by_cases hlt : i < l.length
    · have hlt' : decide (i < l.length) = true := decide_eq_true hlt
      obtain ⟨ad, rfl, hc⟩ := HR.out.cell i (by simpa [castL] using hlt)
      rw [castL_getD] at hc
      have hs : sumL (l.take (i + 1)) ≤ 100000 := by
        have := sumL_le (l.take (i + 1)).length (l.take (i + 1)) rfl (fun x hx => HB.out x (List.mem_of_mem_take hx))
        have h2 : (l.take (i + 1)).length ≤ i + 1 := List.length_take_le _ _
        omega
      have HN : Sealed (S + l.getD i 0 = sumL (l.take (i + 1))) := ⟨by rw [takeN_succ hlt, sumL_snoc, HS.out]⟩
      have hsb : S + l.getD i 0 ≤ 100000 := by rw [HN.out]; exact hs
      clear hs
      generalize l.getD i 0 = x at *
      go_wp2
      go_roundg (l.length - (i + 1))
      case measure => have := HK.out; omega
      case rel => exact ⟨i + 1, S + x, by go_num, by go_num, hlt, ⟨rfl⟩, hsb, HN, rfl⟩
    · obtain rfl : i = l.length := by omega
      have hlt' : decide (l.length < l.length) = false := decide_eq_false hlt
      have HS2 : Sealed (S = sumL l) := ⟨by rw [HS.out, List.take_length]⟩
      clear hlt HS HK
      by_cases h5 : ck = 5
      · subst h5
        by_cases h1 : S = 1
        · have HE : Sealed (R = true) := ⟨by rw [HRE.out, ← HS2.out, h1]; rfl⟩
          subst h1
          go_wp2
          go_ret
          exact ⟨ret_bool HE.out.symm, B2.out⟩
        · have HE : Sealed (R = false) := ⟨by rw [HRE.out, ← HS2.out, decide_eq_false h1]; rfl⟩
          have hd : ((S : Int) == 1) = false := beq_eq_false_iff_ne.2 (by omega)
          clear h1
          go_wp2
          go_ret
          exact ⟨ret_bool HE.out.symm, B2.out⟩
      · have HE : Sealed (R = false) := ⟨by rw [HRE.out, decide_eq_false h5]; rfl⟩
        have hd : (ck == 5) = false := beq_eq_false_iff_ne.2 h5
        clear h5
        go_wp2
        go_ret
        exact ⟨ret_bool HE.out.symm, B2.out⟩
end Go.Proofs.Ytmdlhbhdlhjakaa

namespace Go.Proofs.Ytmdlhbhdlhjakaa
open Go.RowKit

set_option maxRecDepth 100000 in
theorem rorder_any (w : World) : Calls Try.prog 120 #[] w fun e w' => ∃ g, e = .returned (.slice (some ⟨g, 0, none⟩) 19 19) ∧ w.heap.size ≤ g ∧ IsBlk w' g (nums .i64 orderI) 3 ∧ Below w.heap.size w w' := by
  go_enter Try.func120, Try.ntmps120
  go_wp2_with ((with_reducible refine gate_dst (N := 1) rfl ?_); refine ev_lit (cs := nums .i64 orderI) (t := 3) (n := 19) ?hg ?hr ?_; (case hg => rfl); (case hr => first | (go_simp; done) | (go_simp; rfl)); intro g1 w1 hg1 hb1 hB1 hs1; have G1 := Sealed.mk hg1; have B1 := Sealed.mk hb1; have L1 := Sealed.mk hB1; clear hg1 hb1 hB1 hs1)
  go_ret
  exact ⟨_, rfl, by rw [G1.out]; exact Nat.le_refl _, B1.out, L1.out⟩
/-- What the loop of 'heads' comes to: the place, the error, the lengths. -/
def headT (s : ByteArray) : Nat → Nat → Nat → Nat → List Int → Nat × Nat × List Int
  | 0, _, p, c, l => (p, c, l)
  | k + 1, i, p, c, l => headT s k (i + 1) (bitsR s p c 3).1 (bitsR s p c 3).2.1 (l.set (orderL.getD i 0) ((bitsR s p c 3).2.2 : Nat))
theorem headT_err {s : ByteArray} : ∀ {k i p c : Nat} {l : List Int}, c ≠ 0 → (headT s k i p c l).2.1 = c
  | 0, i, p, c, l, h => rfl
  | k + 1, i, p, c, l, h => by rw [headT, bitsR_err h]; exact headT_err h
theorem headT_ok {s : ByteArray} : ∀ {k i p q : Nat} {l l' : List Int}, headFrom s k i p l = .ok (l', q) → headT s k i p 0 l = (q, 0, l')
  | 0, i, p, q, l, l', h => by
    rw [headFrom] at h; injection h with h; injection h with h1 h2; subst h1 h2; rfl
  | k + 1, i, p, q, l, l', h => by
    rw [headFrom] at h
    cases h1 : getS s p 3 with
    | error e => rw [h1] at h; cases h
    | ok r =>
      obtain ⟨n, q1⟩ := r
      rw [h1] at h
      rw [headT, bitsR_ok h1]
      exact headT_ok h
theorem headT_bad {s : ByteArray} : ∀ {k i p e : Nat} {l : List Int}, headFrom s k i p l = .error e → (headT s k i p 0 l).2.1 = e
  | 0, i, p, e, l, h => by rw [headFrom] at h; cases h
  | k + 1, i, p, e, l, h => by
    rw [headFrom] at h
    cases h1 : getS s p 3 with
    | error e1 =>
      rw [h1] at h
      injection h with h
      subst h
      rw [headT, bitsR_bad h1]
      have h5 := getS_err h1
      exact headT_err (c := e1) (by omega)
    | ok r =>
      obtain ⟨n, q1⟩ := r
      rw [h1] at h
      rw [headT, bitsR_ok h1]
      exact headT_bad h
set_option maxRecDepth 100000 in
set_option maxHeartbeats 2000000 in
theorem rheads10 (x : RS) (p code many : Nat) {w : World} (hs : x.s.size ≤ 1000000) (hp : p ≤ 8 * x.s.size) (hmany : many ≤ 19) {Z M : Int} (hZ : Z = (code : Int)) (hM : M = (many : Int)) :
    Calls Try.prog 96 #[x.v p Z, .int .i64 M] w fun e w' => ∃ g, e = .returned (.tuple #[x.v (headT x.s many 0 p code (List.replicate 19 0)).1 (headT x.s many 0 p code (List.replicate 19 0)).2.1, .slice (some ⟨g, 0, none⟩) 19 19]) ∧ IsBlk w' g (nums .i64 (headT x.s many 0 p code (List.replicate 19 0)).2.2) 3 ∧ Below w.heap.size w w' := by
  subst hZ hM
  obtain ⟨R, hR⟩ : ∃ R, R = headT x.s many 0 p code (List.replicate 19 0) := ⟨_, rfl⟩
  rw [← hR]
  have HR := Sealed.mk hR
  have HBT : Sealed (∀ (p c : Nat) (w : World), p ≤ 8 * x.s.size → Calls Try.prog 63 #[x.v p c, .int .i64 3] w fun e w' => e = .returned (.tuple #[x.v (bitsR x.s p c 3).1 (bitsR x.s p c 3).2.1, .int .i64 (bitsR x.s p c 3).2.2]) ∧ Below w.heap.size w w') := ⟨fun p c w hp => rbits_tot x p c 3 (by omega) hp (by omega) w rfl rfl⟩
  obtain ⟨s, AB, nB, cB, AO, nO, cO, most⟩ := x
  simp only at HBT hs hp HR ⊢
  clear hR
  go_enter Try.func96, Try.ntmps96
  go_wp2_with (first
    | ((with_reducible refine gate_dst (N := 2) rfl ?_); refine ev_box (cs := [.string s, .slice AB nB cB, .int .i64 p, .slice AO nO cO, .int .i64 most, .int .i64 code]) (t := 101) ?hg ?hr ?_; (case hg => rfl); (case hr => first | (go_simp; done) | (go_simp; rfl)); intro g1 w1 hg1 hb1 hB1 hs1; have GE1 : w.heap.size ≤ g1 := (by rw [hg1]; exact Nat.le_refl _); have B1 := Sealed.mk hb1; have L1 := Sealed.mk hB1; clear hg1 hb1 hB1 hs1)
    | ((with_reducible refine gate_dst (N := 4) rfl ?_); refine ev_box (cs := zeroSt) (t := 101) ?hg ?hr ?_; (case hg => rfl); (case hr => first | (go_simp; done) | (go_simp; rfl)); intro g2 w2 hg2 hb2 hB2 hs2; have HNE : g1 ≠ g2 := (by have := B1.out.lt; omega); have GE2 : w.heap.size ≤ g2 := (by rw [hg2]; exact L1.out.size); have B2 := Sealed.mk hb2; have D1 := Sealed.mk (B1.out.below' hB2); have C2 : Sealed (Chg w.heap.size [] w w2) := ⟨(Chg.of_below L1.out).below_step hB2⟩; have x5 := D1.out.cell 5 rfl; have x0 := D1.out.cell 0 rfl; have x1 := D1.out.cell 1 rfl; have x2 := D1.out.cell 2 rfl; have f5 := D1.out.free 5; clear hg2 hb2 hB2 hs2 B1 L1)
    | ((with_reducible refine gate_dst (N := 11) rfl ?_); refine ev_make rfl rfl (m := 19) (bytes := 8) Try.underlying22 info_i64 rfl rfl (by decide) (by omega) ?_; intro g3 w3 hg3 hb3 hB3 hs3; have GE3 : w.heap.size ≤ g3 := (by rw [hg3]; exact C2.out.size); have N13 : g1 ≠ g3 := (by have := D1.out.lt; omega); have N23 : g2 ≠ g3 := (by have := B2.out.lt; omega); have B3 := Sealed.mk hb3; have D3 := Sealed.mk (D1.out.below' hB3); have E3 := Sealed.mk (B2.out.below' hB3); have C3 := Sealed.mk (C2.out.below_step hB3); clear hg3 hb3 hB3 hs3 D1 B2 C2 x5 x0 x1 x2 f5))
  refine (rorder_any _).mono ?_
  rintro e w4 ⟨g4, rfl, hge, hb4, hb⟩
  have HS3 : Sealed (g3 < w3.heap.size) := ⟨B3.out.lt⟩
  have N34 : g3 ≠ g4 := by have := HS3.out; omega
  have GE4 : w.heap.size ≤ g4 := Nat.le_trans C3.out.size hge
  have N14 : g1 ≠ g4 := by have := D3.out.lt; omega
  have N24 : g2 ≠ g4 := by have := E3.out.lt; omega
  have B4 := Sealed.mk hb4
  have D4 := Sealed.mk (D3.out.below' hb)
  have E4 := Sealed.mk (E3.out.below' hb)
  have L4 := Sealed.mk (B3.out.below' hb)
  have C4 := Sealed.mk (C3.out.below_step hb)
  clear hb hb4 hge HS3 D3 E3 B3 C3
  go_wp2
  go_loopg [8, 9, 10] many (fun k s8 s9 s10 w' => ∃ (i P c : Nat) (l : List Int), s8 = .int .i64 i ∧ i ≤ many ∧ Sealed (k = many - i) ∧ Sealed (P ≤ 8 * s.size) ∧ Sealed (l.length = 19) ∧ Sealed (headT s (many - i) i P c l = R) ∧ Sealed (IsBlk w' g1 [.string s, .slice AB nB cB, .int .i64 P, .slice AO nO cO, .int .i64 most, .int .i64 c] 101) ∧ Sealed (IsBlk w' g2 zeroSt 101) ∧ Sealed (IsBlk w' g3 (nums .i64 l) 3) ∧ Sealed (IsBlk w' g4 (nums .i64 orderI) 3) ∧ Sealed (Chg w.heap.size [] w w'))
  case atStart => exact ⟨0, p, code, List.replicate 19 0, rfl, by omega, ⟨rfl⟩, ⟨hp⟩, ⟨rfl⟩, ⟨HR.out.symm⟩, D4, E4, L4, B4, C4⟩
  case round =>
    clear D4 E4 L4 B4 C4
    obtain ⟨i, P, c, l, rfl, hi, HK, HPB, HL, HE, HD, HZ, HX, HOR, HC⟩ := hrel
    by_cases hlt : i < many
    · have hlt' : decide (i < many) = true := decide_eq_true hlt
      have hi19 : i < 19 := by omega
      have hi19' : decide ((i : Int) < 19) = true := decide_eq_true (by omega)
      have hiI : (i : Int) < 19 := by omega
      have hmi : many - i = (many - (i + 1)) + 1 := by omega
      have he := HE.out
      rw [hmi, headT] at he
      have hPB2 := bitsR_le (code := c) (d := 3) HPB.out
      have HCL := Sealed.mk (HBT.out P c)
      obtain ⟨P', c', V, hbr⟩ : ∃ P' c' V, bitsR s P c 3 = (P', c', V) := ⟨_, _, _, rfl⟩
      rw [hbr] at he hPB2
      simp only [hbr] at HCL
      have HE2 := Sealed.mk he
      have HP2 := Sealed.mk hPB2
      have hK19 := order_lt i hi19
      have hor : orderI.getD i 0 = ((orderL.getD i 0 : Nat) : Int) := (by decide : ∀ i, i < 19 → orderI.getD i 0 = ((orderL.getD i 0 : Nat) : Int)) i hi19
      obtain ⟨K, hK⟩ : ∃ K, K = orderL.getD i 0 := ⟨_, rfl⟩
      rw [← hK] at HE2 hK19 hor
      have hKI : (K : Int) < 19 := by omega
      have HORI := Sealed.mk hor
      clear hmi he hbr hPB2 HE hK hor
      go_wp2_with (first
    | ((with_reducible refine gate_dst (N := 23) rfl ?_); refine wp_load_arr rfl _ _ rfl rfl HD.out Try.underlying101 rfl info_state ?_))
      refine (HCL.out _ HPB.out).mono ?_
      rintro e w5 ⟨rfl, hb⟩
      have D5 := Sealed.mk (HD.out.below' hb)
      have Z5 := Sealed.mk (HZ.out.below' hb)
      have X5 := Sealed.mk (HX.out.below' hb)
      have O5 := Sealed.mk (HOR.out.below' hb)
      have C5 := Sealed.mk (HC.out.below_step hb)
      clear hb HD HZ HX HOR HC HCL
      go_wp2_with (first
        | ((with_reducible refine gate_dst (N := 9) rfl ?_); refine ev_box (cs := zeroSt) (t := 101) ?hg ?hr ?_; (case hg => rfl); (case hr => first | (go_simp; done) | (go_simp; rfl)); intro g9 w6 hg9 hb9 hB9 hs9; have N19 : g1 ≠ g9 := (by have := D5.out.lt; omega); have N29 : g2 ≠ g9 := (by have := Z5.out.lt; omega); have N39 : g3 ≠ g9 := (by have := X5.out.lt; omega); have N49 : g4 ≠ g9 := (by have := O5.out.lt; omega); have GE9 : w.heap.size ≤ g9 := (by rw [hg9]; exact C5.out.size); have B6 := Sealed.mk hb9; have D6 := Sealed.mk (D5.out.below' hB9); have Z6 := Sealed.mk (Z5.out.below' hB9); have X6 := Sealed.mk (X5.out.below' hB9); have O6 := Sealed.mk (O5.out.below' hB9); have C6 := Sealed.mk (C5.out.below_step hB9); clear hg9 hb9 hB9 hs9)
        | ((with_reducible refine gate_store (p := 9) rfl ?_); refine wp_store_arr rfl _ _ _ rfl (cells := [.string s, .slice AB nB cB, .int .i64 P', .slice AO nO cO, .int .i64 most, .int .i64 c']) rfl rfl B6.out info_state rfl rfl ?_; intro w7 hb7 hc7 hk7 hs7; have B7 := Sealed.mk hb7; have D7 := Sealed.mk (D6.out.kept hk7 N19); have Z7 := Sealed.mk (Z6.out.kept hk7 N29); have X7 := Sealed.mk (X6.out.kept hk7 N39); have O7 := Sealed.mk (O6.out.kept hk7 N49); have C7 := Sealed.mk (C6.out.one_new hc7 GE9); clear hb7 hc7 hk7 hs7)
        | ((with_reducible refine gate_dst (N := 27) rfl ?_); refine wp_load_arr rfl _ _ rfl rfl B7.out Try.underlying101 rfl info_state ?_)
        | ((with_reducible refine gate_store (p := 2) rfl ?_); refine wp_store_arr rfl _ _ _ rfl (cells := [.string s, .slice AB nB cB, .int .i64 P', .slice AO nO cO, .int .i64 most, .int .i64 c']) rfl rfl D7.out info_state rfl rfl ?_; intro w8 hb8 hc8 hk8 hs8; have D8 := Sealed.mk hb8; have Z8 := Sealed.mk (Z7.out.kept hk8 (fun h => HNE h.symm)); have X8 := Sealed.mk (X7.out.kept hk8 (fun h => N13 h.symm)); have O8 := Sealed.mk (O7.out.kept hk8 (fun h => N14 h.symm)); have C8 := Sealed.mk (C7.out.one_new hc8 GE1); have xo := O8.out.cell i (nums_get (k := .i64) (by show i < 19; exact hi19)); rw [HORI.out] at xo; obtain ⟨y, hy⟩ : ∃ y, y = l.getD K 0 := ⟨_, rfl⟩; have xk := X8.out.cell K (nums_get (k := .i64) (by rw [HL.out]; exact hK19)); rw [← hy] at xk; clear hy; have fk := X8.out.free K; clear hb8 hc8 hk8 hs8))
      go_roundg (many - (i + 1))
      case measure => have := HK.out; omega
      case rel => exact ⟨i + 1, P', c', l.set K (V : Int), by go_num, hlt, ⟨rfl⟩, HP2, ⟨by rw [List.length_set]; exact HL.out⟩, HE2, ⟨D8.out.far N13 _⟩, ⟨Z8.out.far N23 _⟩, ⟨by rw [← nums_set]; exact X8.out.set K _⟩, ⟨O8.out.far (fun h => N34 h.symm) _⟩, ⟨C8.out.set_new GE3 _⟩⟩
    · obtain rfl : i = many := by omega
      have hlt' : decide (i < i) = false := decide_eq_false hlt
      have he := HE.out
      rw [Nat.sub_self, headT] at he
      have HE2 := Sealed.mk he
      clear he HE hlt HR
      go_wp2_with (first
    | ((with_reducible refine gate_dst (N := 35) rfl ?_); refine wp_load_arr rfl _ _ rfl rfl HD.out Try.underlying101 rfl info_state ?_)
    | ((with_reducible refine gate_store (p := 4) rfl ?_); refine wp_store_arr rfl _ _ _ rfl (cells := [.string s, .slice AB nB cB, .int .i64 P, .slice AO nO cO, .int .i64 most, .int .i64 c]) rfl rfl HZ.out info_state rfl rfl ?_; intro w9 hb9 hc9 hk9 hs9; have B9 := Sealed.mk hb9; have C9 := Sealed.mk hc9; have K9 := Sealed.mk hk9; clear hb9 hc9 hk9 hs9))
      refine bodyPost_ret (results_cell_tmp rfl _ rfl B9.out Try.underlying101 rfl info_state) rfl ?_
      rw [← HE2.out]
      exact ⟨g3, rfl, HX.out.kept K9.out (fun h => N23 h.symm), (HC.out.one_new C9.out GE2).to_below⟩
end Go.Proofs.Ytmdlhbhdlhjakaa
