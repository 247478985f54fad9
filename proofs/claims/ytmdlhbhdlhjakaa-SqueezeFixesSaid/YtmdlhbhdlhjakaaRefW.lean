/- The contracts of the document's answer for codes. -/
import Derived.Test.YtmdlhbhdlhjakaaRefP
import Derived.Test.YtmdlhbhdlhjakaaBack
set_option linter.unusedVariables false
set_option linter.unusedSimpArgs false
namespace Go.Proofs.Ytmdlhbhdlhjakaa
open Go.RowKit

theorem rsum_bd (ls : List Int) : 0 ≤ rsum ls ∧ rsum ls ≤ 32768 * ls.length := by
  have hp : ∀ x, 0 ≤ partOf x ∧ partOf x ≤ 32768 := by
    intro x
    unfold partOf
    split
    · have h : (2 : Nat) ^ (15 - x.toNat) ≤ 2 ^ 15 := Nat.pow_le_pow_right (by decide) (by omega)
      have h2 : (2 : Int) ^ (15 - x.toNat) = ((2 ^ (15 - x.toNat) : Nat) : Int) := by simp
      have h3 : (0 : Int) < 2 ^ (15 - x.toNat) := Int.pow_pos (by decide)
      omega
    · omega
  have : ∀ (ls : List Int) (s : Int), s ≤ ls.foldl (fun s x => s + partOf x) s ∧ ls.foldl (fun s x => s + partOf x) s ≤ s + 32768 * ls.length := by
    intro ls
    induction ls with
    | nil => intro s; simp
    | cons x xs ih =>
      intro s
      have h1 := ih (s + partOf x)
      have h2 := hp x
      rw [List.foldl_cons, List.length_cons]
      omega
  have h := this ls 0
  unfold rsum
  omega

set_option maxRecDepth 100000 in
set_option maxHeartbeats 1000000 in
theorem rcheck_any (A : Option Addr) (c : Nat) (ls : List Int) (w : World) (hr : Reads w .i64 A ls) :
    Calls Try.prog 76 #[.slice A ls.length c] w fun e w' => e = .returned (.int .i64 (checkOf ls)) ∧ Below w.heap.size w w' := by
  rw [← rcheck_eq]
  by_cases hn : ls.length > 320
  · have hn' : 320 < ls.length := hn
    simp only [rcheckOf, if_pos hn]
    generalize ls.length = n at *
    clear hr hn
    go_enter Try.func76, Try.ntmps76
    go_wp2
    go_ret
    exact ⟨rfl, Below.refl _ _⟩
  · have hn' : ls.length ≤ 320 := by omega
    obtain ⟨R, hR⟩ : ∃ R, R = rcheckOf ls := ⟨_, rfl⟩
    rw [← hR]
    simp only [rcheckOf, if_neg hn] at hR
    have HR := Sealed.mk hR
    have HX := Sealed.mk hr
    clear hR hn hr
    go_enter Try.func76, Try.ntmps76
    go_wp2
    go_loopg [3, 4] ls.length (fun k s3 s4 w' => ∃ (n : Nat) (s : Int), s3 = .int .i64 s ∧ s4 = .int .i64 n ∧ 0 ≤ s ∧ s ≤ 20000000 ∧ Sealed (s = rsum (ls.take n)) ∧ Sealed (k = ls.length - n) ∧ Sealed (n ≤ ls.length) ∧ Sealed ((ls.take n).all lenOk = true) ∧ Sealed (Below w.heap.size w w'))
    case atStart => exact ⟨0, 0, rfl, rfl, by omega, by omega, ⟨rfl⟩, ⟨rfl⟩, ⟨Nat.zero_le _⟩, ⟨rfl⟩, ⟨Below.refl _ _⟩⟩
    case round =>
      obtain ⟨n, s, rfl, rfl, hs0, hs1, HS, HK, HN, HA, HB⟩ := hrel
      by_cases hlt : n < ls.length
      · obtain ⟨ad, rfl, hc0⟩ := HX.out.cell n hlt
        obtain ⟨x, hx⟩ : ∃ x, x = ls.getD n 0 := ⟨_, rfl⟩
        have ht := take_snoc hlt
        rw [← hx] at hc0 ht
        have hc := (HB.out.cell (World.block_lt_of_cell? w _ hc0)).trans hc0
        have HXX := Sealed.mk hx
        have HT := Sealed.mk ht
        clear hx ht hc0
        by_cases h0 : 0 ≤ x
        · by_cases h15 : x ≤ 15
          · have hb := rsum_bd (ls.take (n + 1))
            rw [List.length_take] at hb
            have hsn : rsum (ls.take (n + 1)) = s + partOf x := by rw [HT.out, rsum_snoc, HS.out]
            have HSN := Sealed.mk hsn
            have HSB : Sealed (0 ≤ s + partOf x ∧ s + partOf x ≤ 20000000) := ⟨by rw [← hsn]; omega⟩
            clear hb hsn
            go_wp2
            go_loopg [5, 6] 15 (fun k s5 s6 w' => ∃ (m : Nat) (p : Int), s5 = .int .i64 p ∧ s6 = .int .i64 m ∧ 0 ≤ p ∧ p ≤ 32768 ∧ Sealed (p = 2 ^ (15 - m)) ∧ Sealed ((m : Int) ≤ x) ∧ Sealed (k = 15 - m) ∧ Sealed (Below w.heap.size w w'))
            case atStart => exact ⟨0, 32768, rfl, rfl, by omega, by omega, ⟨rfl⟩, ⟨by omega⟩, ⟨rfl⟩, HB⟩
            case round =>
              obtain ⟨m, p, rfl, rfl, hp0, hp1, HP, HM, HK2, HB2⟩ := hrel
              have hc2 : wr.cell? (ad.add n) = some (.int .i64 x) := by
                have h := (HX.out.cell n hlt)
                obtain ⟨ad', e', h'⟩ := h
                injection e' with e'
                rw [← e', ← HXX.out] at h'
                exact (HB2.out.cell (World.block_lt_of_cell? w _ h')).trans h'
              by_cases hm : (m : Int) < x
              · have hmd : decide ((m : Int) < x) = true := decide_eq_true hm
                go_wp2
                go_roundg (15 - (m + 1))
                case measure => have := HK2.out; omega
                case rel =>
                  have e1 : (2 : Int) ^ (15 - m) = 2 * 2 ^ (15 - (m + 1)) := by
                    rw [show 15 - m = (15 - (m + 1)) + 1 by omega, Int.pow_succ, Int.mul_comm]
                  refine ⟨m + 1, p / 2, rfl, by go_num, by omega, by omega, ⟨?_⟩, ⟨by omega⟩, ⟨rfl⟩, HB2⟩
                  rw [HP.out, e1]; omega
              · have hmd : decide ((m : Int) < x) = false := decide_eq_false hm
                have hmx : (m : Int) = x := by have := HM.out; omega
                have hpp : partOf x = if 0 < x then p else 0 := by
                  unfold partOf
                  rw [HP.out, ← hmx]; simp
                have HPP := Sealed.mk hpp
                clear hmx hpp
                by_cases hpos : 0 < x
                · have hsb : s + p ≤ 20000000 := by have h1 := HSB.out; rw [HPP.out, if_pos hpos] at h1; omega
                  have hpd : decide (0 < x) = true := decide_eq_true hpos
                  go_wp2
                  go_roundg (ls.length - (n + 1))
                  case measure => have := HK.out; omega
                  case rel =>
                    refine ⟨n + 1, s + p, rfl, by go_num, by omega, hsb, ⟨by rw [HSN.out, HPP.out, if_pos hpos]⟩, ⟨rfl⟩, ⟨hlt⟩, ⟨?_⟩, HB2⟩
                    rw [HT.out, all_snoc, HA.out]; simp [lenOk, h0, h15]
                · have hpd : decide (0 < x) = false := decide_eq_false hpos
                  have HNP := Sealed.mk hpos
                  clear hpos
                  go_wp2
                  go_roundg (ls.length - (n + 1))
                  case measure => have := HK.out; omega
                  case rel =>
                    refine ⟨n + 1, s, rfl, by go_num, by omega, hs1, ⟨by rw [HSN.out, HPP.out, if_neg (show ¬ 0 < x by have := HNP.out; omega)]; omega⟩, ⟨rfl⟩, ⟨hlt⟩, ⟨?_⟩, HB2⟩
                    rw [HT.out, all_snoc, HA.out]; simp [lenOk, h0, h15]
          · have hall : ls.all lenOk = false := all_take_bad hlt (by rw [← HXX.out]; simp [lenOk]; omega)
            have HE : Sealed (R = 3) := ⟨by rw [HR.out, hall]; rfl⟩
            have d0 : decide (x < 0) = false := decide_eq_false (by omega)
            have d1 : decide (15 < x) = true := decide_eq_true (by omega)
            clear hall h0 h15
            go_wp2
            go_ret
            exact ⟨ret_int HE.out.symm, HB.out⟩
        · have hall : ls.all lenOk = false := all_take_bad hlt (by rw [← HXX.out]; simp [lenOk]; omega)
          have HE : Sealed (R = 3) := ⟨by rw [HR.out, hall]; rfl⟩
          have d0 : decide (x < 0) = true := decide_eq_true (by omega)
          clear hall h0
          go_wp2
          go_ret
          exact ⟨ret_int HE.out.symm, HB.out⟩
      · have hnl : n = ls.length := by have := HN.out; omega
        have hall : ls.all lenOk = true := by have h := HA.out; rwa [hnl, List.take_length] at h
        have hse : s = rsum ls := by have h := HS.out; rwa [hnl, List.take_length] at h
        have hdn : decide (n < ls.length) = false := decide_eq_false hlt
        have HE : Sealed (R = if s = 0 then 12 else if s > 32768 then 7 else if s < 32768 then 5 else 0) := ⟨by rw [HR.out, hall, hse]; rfl⟩
        clear hnl hall hse hlt
        by_cases e0 : s = 0
        · have HV : Sealed (12 = R) := ⟨by rw [HE.out, if_pos e0]⟩
          have hb : (s == 0) = true := by simpa using e0
          clear e0
          go_wp2
          go_ret
          exact ⟨ret_int HV.out, HB.out⟩
        · have hb : (s == 0) = false := by simpa using e0
          by_cases e1 : s > 32768
          · have HV : Sealed (7 = R) := ⟨by rw [HE.out, if_neg e0, if_pos e1]⟩
            have hb1 : decide (32768 < s) = true := decide_eq_true e1
            clear e0 e1
            go_wp2
            go_ret
            exact ⟨ret_int HV.out, HB.out⟩
          · have hb1 : decide (32768 < s) = false := decide_eq_false e1
            by_cases e2 : s < 32768
            · have HV : Sealed (5 = R) := ⟨by rw [HE.out, if_neg e0, if_neg e1, if_pos e2]⟩
              have hb2 : decide (s < 32768) = true := decide_eq_true e2
              clear e0 e1 e2
              go_wp2
              go_ret
              exact ⟨ret_int HV.out, HB.out⟩
            · have HV : Sealed (0 = R) := ⟨by rw [HE.out, if_neg e0, if_neg e1, if_neg e2]⟩
              have hb2 : decide (s < 32768) = false := decide_eq_false e2
              clear e0 e1 e2
              go_wp2
              go_ret
              exact ⟨ret_int HV.out, HB.out⟩
end Go.Proofs.Ytmdlhbhdlhjakaa
