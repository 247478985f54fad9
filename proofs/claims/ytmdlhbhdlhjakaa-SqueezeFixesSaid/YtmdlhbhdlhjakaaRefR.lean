/- The contract of the document's answer for codes: Read. -/
import Derived.Test.YtmdlhbhdlhjakaaRefU
set_option linter.unusedVariables false
set_option linter.unusedSimpArgs false
namespace Go.Proofs.Ytmdlhbhdlhjakaa
open Go.RowKit

theorem symsUpto_nn (ls : List Int) : ∀ n, ∀ x ∈ symsUpto ls n, 0 ≤ x
  | 0, x, h => by simp [symsUpto] at h
  | n + 1, x, h => by
    rw [symsUpto, List.mem_append] at h
    rcases h with h | h
    · exact symsUpto_nn ls n x h
    · simp only [idxOf, idxPart, List.mem_map] at h
      obtain ⟨i, _, rfl⟩ := h
      show (0 : Int) ≤ ((i : Nat) : Int)
      omega
theorem symsOf_nn (ls : List Int) (i : Nat) : 0 ≤ (symsOf ls).getD i 0 := by
  by_cases h : i < (symsOf ls).length
  · refine symsUpto_nn ls 15 _ ?_
    rw [List.getD_eq_getElem?_getD, List.getElem?_eq_getElem h]
    exact List.getElem_mem h
  · rw [List.getD_eq_getElem?_getD, List.getElem?_eq_none (by omega)]; simp
theorem ret_three {a b c a' b' c' : Int} (h1 : a = a') (h2 : b = b') (h3 : c = c') : Ending.returned (Value.tuple #[.int .i64 a, .int .i64 b, .int .i64 c]) = Ending.returned (Value.tuple #[.int .i64 a', .int .i64 b', .int .i64 c']) := by subst h1 h2 h3; rfl

set_option maxRecDepth 100000 in
set_option maxHeartbeats 1000000 in
theorem rread_any {A0 A1 A2 : Option Addr} {c0 c1 c2 : Nat} {ls bs : List Int} {f : Nat → Nat} {w : World} (p : Nat) (hr0 : Reads w .i64 A0 ls) (hr1 : Reads w .i64 A1 (codesOf ls)) (hr2 : Reads w .i64 A2 bs) (hf : ∀ i, f i ≤ 1) (hb : ∀ i, i < bs.length → bs.getD i 0 = (f i : Int)) (hs : bs.length ≤ 1000000000) (hp : p ≤ bs.length) (hn : ls.length ≤ 320) (ha : ls.all lenOk = true) :
    Calls Try.prog 20 #[.slice A0 ls.length c0, .slice A1 ls.length c1, .slice A2 bs.length c2, .int .i64 p] w fun e w' => e = .returned (.tuple #[.int .i64 (readOf ls f bs.length p).1, .int .i64 (readOf ls f bs.length p).2.2, .int .i64 (readOf ls f bs.length p).2.1]) ∧ Below w.heap.size w w' := by
  have HX := Sealed.mk hr0
  have HY := Sealed.mk hr1
  have HZ := Sealed.mk hr2
  have HFB := Sealed.mk hf
  have HB := Sealed.mk hb
  have HA := Sealed.mk ha
  have HCo := Sealed.mk (cnt0_ok hn)
  have HLN := Sealed.mk (rlong_eq ha)
  obtain ⟨R, hR⟩ : ∃ R, R = readOf ls f bs.length p := ⟨_, rfl⟩
  rw [← hR]
  have HR := Sealed.mk hR
  have hlong := longUpto_le ls 15
  obtain ⟨L, hL⟩ : ∃ L : Nat, longOf ls = (L : Int) := ⟨(longOf ls).toNat, by unfold longOf; omega⟩
  have hL15 : L ≤ 15 := by unfold longOf at hL; omega
  have HL := Sealed.mk hL
  have HLC : Sealed ((codesOf ls).length = ls.length) := ⟨(codeSt_len _ _).2⟩
  have HG := Sealed.mk (longest_any A0 c0 ls w hr0 (by omega))
  clear hr0 hr1 hr2 hf hb ha hR hlong hL
  go_enter Try.func20, Try.ntmps20
  go_wp2_with (go_at_call 45; refine HG.out.mono ?_; rw [HLN.out, HL.out]; rintro e w1 ⟨rfl, hb⟩; have L1 := Sealed.mk hb; clear hb)
  go_loopg [3, 11, 13] L (fun k s3 s11 s13 w' => ∃ (n q a : Nat) (c fi : Int), s3 = .int .i64 q ∧ s11 = .int .i64 c ∧ s13 = .int .i64 n ∧ Sealed (n + k = L + 1) ∧ 1 ≤ n ∧ n ≤ 16 ∧ 0 ≤ fi ∧ fi ≤ c ∧ Sealed (c < 2 ^ (n - 1)) ∧ Sealed (a = (symsUpto ls (n - 1)).length) ∧ Sealed (2 * fi = firstAt (cnt0 ls) n) ∧ q ≤ bs.length ∧ Sealed (Below w.heap.size w w') ∧ Sealed (readFrom ls f bs.length k n q c fi a = R))
  case atStart =>
    refine ⟨1, p, 0, 0, 0, rfl, rfl, rfl, ⟨by omega⟩, by omega, by omega, by omega, by omega, ⟨by decide⟩, ⟨rfl⟩, ⟨?_⟩, hp, L1, ⟨?_⟩⟩
    · have hc0 : (cnt0 ls).getD 0 0 = 0 := by rw [cnt0, getD_set_eq (by rw [cntsOf_len]; omega)]
      rw [firstAt, hc0]; rfl
    · rw [HR.out, readOf, HL.out]; rfl
  case round =>
    clear L1 hp
    obtain ⟨n, q, a, c, fi, rfl, rfl, rfl, HK, hn1, hn16, hf0, hfc, HC2, HAA, HFI, hqb, HC, HE⟩ := hrel
    cases gk with
    | zero =>
      have hd : decide (n ≤ L) = false := decide_eq_false (by have := HK.out; omega)
      have he := HE.out
      simp only [readFrom] at he
      have HE2 := Sealed.mk he
      clear he
      go_wp2
      go_ret3
      rw [← HE2.out]
      exact ⟨rfl, HC.out⟩
    | succ k =>
      have hnL : n ≤ L := by have := HK.out; omega
      have hd : decide (n ≤ L) = true := decide_eq_true hnL
      by_cases hq : bs.length ≤ q
      · have he := HE.out
        rw [readFrom, if_pos hq] at he
        have HE2 := Sealed.mk he
        have hdq : decide (bs.length ≤ q) = true := decide_eq_true hq
        clear he
        go_wp2
        go_ret3
        rw [← HE2.out]
        exact ⟨rfl, HC.out⟩
      · have hq' : q < bs.length := by omega
        have hdq : decide (bs.length ≤ q) = false := decide_eq_false hq
        have he := HE.out
        rw [readFrom, if_neg hq] at he
        have hbq := HFB.out q
        obtain ⟨ad, rfl, hx0⟩ := HZ.out.cell q hq'
        have hx := (HC.out.cell (World.block_lt_of_cell? w _ hx0)).trans hx0
        rw [HB.out q hq'] at hx
        obtain ⟨b, hbe⟩ : ∃ b, b = f q := ⟨_, rfl⟩
        obtain ⟨m, hme⟩ : ∃ m, m = (cnt0 ls).getD n 0 := ⟨_, rfl⟩
        have hn15 : n ≤ 15 := by omega
        have hlm := idxOf_len HA.out hn1 hn15
        rw [← hme] at hlm
        rw [← hbe, ← hme] at he
        rw [← hbe] at hx hbq
        have hmb := HCo.out.2 n
        rw [← hme] at hmb
        have hm0 := hmb.1
        have hsy : (symsUpto ls n).length = a + m.toNat := by
          obtain ⟨n', rfl⟩ : ∃ n', n = n' + 1 := ⟨n - 1, by omega⟩
          rw [symsUpto, List.length_append, HAA.out]
          simp only [Nat.add_sub_cancel]
          omega
        have hp2 : (2 : Int) ^ (n - 1) ≤ 2 ^ 14 := by
          have : (2 : Nat) ^ (n - 1) ≤ 2 ^ 14 := Nat.pow_le_pow_right (by decide) (by omega)
          exact_mod_cast this
        have hc14 : c < 16384 := by have := HC2.out; omega
        have hcb : 2 * c + (b : Int) < 2 ^ n := by
          have e : (2 : Int) ^ n = 2 * 2 ^ (n - 1) := by
            have : n = (n - 1) + 1 := by omega
            rw [this, Int.pow_succ, Nat.add_sub_cancel, Int.mul_comm]
          have := HC2.out
          rw [e]; omega
        have hfn : fi * 2 + m = taken (cnt0 ls) n := by rw [taken, ← HFI.out, ← hme]; omega
        have hrf := rfind_code HA.out hn1 hn15 (code := 2 * c + (b : Int)) (by rw [← HFI.out]; omega)
        rw [← hme, ← HFI.out, ← HAA.out] at hrf
        have hfind := find_any A0 A1 c0 c1 ls (codesOf ls) (n : Int) (2 * c + (b : Int)) wr (HX.out.below HC.out) (HY.out.below HC.out) HLC.out (by omega) (by omega)
        have HF := Sealed.mk hfind
        have HRF := Sealed.mk hrf
        have HFN := Sealed.mk hfn
        have hb1 : b ≤ 1 := by omega
        have HSY := Sealed.mk hsy
        have HCB := Sealed.mk hcb
        have HE1 := Sealed.mk he
        clear hlm hmb hsy hp2 hcb hbe hme he hbq hq HE hx0 hrf hfn hfind
        by_cases hm : m ≤ (2 * c + (b : Int)) - fi * 2
        · have he := HE1.out
          simp only [if_pos hm] at he
          have HE2 := Sealed.mk he
          have hrf := HRF.out
          rw [if_pos (by omega)] at hrf
          have HF1 := Sealed.mk hrf
          have HM := Sealed.mk hm
          clear he HE1 hrf HRF hm
          go_wp2_with (go_at_call 46; refine HF.out.mono ?_; rw [HF1.out]; rintro e w1 ⟨rfl, hb⟩; have L2 := Sealed.mk hb; clear hb)
          go_roundg k
          case measure => omega
          case rel =>
            have hc2 := HCB.out
            have h7 := HFN.out
            refine ⟨n + 1, q + 1, a + m.toNat, 2 * c + (b : Int), fi * 2 + m, by go_num, rfl, by go_num, ⟨by have := HK.out; omega⟩, by omega, by omega, by omega, by have := HM.out; omega, ⟨hc2⟩, ⟨HSY.out.symm⟩, ⟨by rw [firstAt, h7, taken]⟩, by omega, ⟨?_⟩, HE2⟩
            have h1 : Chg w.heap.size [] w wr := Chg.of_below HC.out
            exact (h1.below_step L2.out).to_below
        · have he := HE1.out
          simp only [if_neg hm] at he
          have hrf := HRF.out
          rw [if_neg (by omega)] at hrf
          have h9 : (2 * c + (b : Int) - fi * 2) = (2 * c + (b : Int) - 2 * fi) := by omega
          rw [h9] at he
          have h0 := symsOf_nn ls (a + (2 * c + (b : Int) - 2 * fi).toNat)
          obtain ⟨K, hK⟩ : ∃ K, K = (symsOf ls).getD (a + (2 * c + (b : Int) - 2 * fi).toNat) 0 := ⟨_, rfl⟩
          rw [← hK] at he hrf h0
          have HE2 := Sealed.mk he
          have HF1 := Sealed.mk hrf
          clear he HE1 hrf HRF hm h9 hK
          go_wp2_with (go_at_call 46; refine HF.out.mono ?_; rw [HF1.out]; rintro e w1 ⟨rfl, hb⟩; have L2 := Sealed.mk hb; clear hb)
          go_ret3
          rw [← HE2.out]
          have h1 : Chg w.heap.size [] w wr := Chg.of_below HC.out
          exact ⟨ret_three rfl (by simp) rfl, (h1.below_step L2.out).to_below⟩
end Go.Proofs.Ytmdlhbhdlhjakaa
