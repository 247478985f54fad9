/- The contracts of the document's answer for codes. The contracts of the document's answer for codes: Refused, Longest, Find, Bits. -/
import Derived.Test.YtmdlhbhdlhjakaaM17
import Derived.Test.YtmdlhbhdlhjakaaM09
set_option linter.unusedVariables false
set_option linter.unusedSimpArgs false
namespace Go.Proofs.Ytmdlhbhdlhjakaa
open Go.RowKit

theorem rsum_bd (ls : List Int) : 0 ≤ rsum ls ∧ rsum ls ≤ 32768 * ls.length := by
  have hp : ∀ x, 0 ≤ partOf x ∧ partOf x ≤ 32768 := by
    intro x
    unfold partOf
    split
    · have h : (2 : Nat) ^ (15 - x.toNat) ≤ 2 ^ 15 := Nat.pow_le_pow_right (by decide) (by omega)
      have h2 : (2 : Int) ^ (15 - x.toNat) = ((2 ^ (15 - x.toNat) : Nat) : Int) := by simp
      have h3 : (0 : Int) < 2 ^ (15 - x.toNat) := Int.pow_pos (by decide)
      omega
    · omega
  have : ∀ (ls : List Int) (s : Int), s ≤ ls.foldl (fun s x => s + partOf x) s ∧ ls.foldl (fun s x => s + partOf x) s ≤ s + 32768 * ls.length := by
    intro ls
    induction ls with
    | nil => intro s; simp
    | cons x xs ih =>
      intro s
      have h1 := ih (s + partOf x)
      have h2 := hp x
      rw [List.foldl_cons, List.length_cons]
      omega
  have h := this ls 0
  unfold rsum
  omega

set_option maxRecDepth 100000 in
set_option maxHeartbeats 1000000 in
theorem rcheck_any (A : Option Addr) (c : Nat) (ls : List Int) (w : World) (hr : Reads w .i64 A ls) :
    Calls Try.prog 76 #[.slice A ls.length c] w fun e w' => e = .returned (.int .i64 (checkOf ls)) ∧ Below w.heap.size w w' := by
  rw [← rcheck_eq]
  by_cases hn : ls.length > 320
  · have hn' : 320 < ls.length := hn
    simp only [rcheckOf, if_pos hn]
    generalize ls.length = n at *
    clear hr hn
    go_enter Try.func76, Try.ntmps76
    go_wp2
    go_ret
    exact ⟨rfl, Below.refl _ _⟩
  · have hn' : ls.length ≤ 320 := by omega
    obtain ⟨R, hR⟩ : ∃ R, R = rcheckOf ls := ⟨_, rfl⟩
    rw [← hR]
    simp only [rcheckOf, if_neg hn] at hR
    have HR := Sealed.mk hR
    have HX := Sealed.mk hr
    clear hR hn hr
    go_enter Try.func76, Try.ntmps76
    go_wp2
    go_loopg [3, 4] ls.length (fun k s3 s4 w' => ∃ (n : Nat) (s : Int), s3 = .int .i64 s ∧ s4 = .int .i64 n ∧ 0 ≤ s ∧ s ≤ 20000000 ∧ Sealed (s = rsum (ls.take n)) ∧ Sealed (k = ls.length - n) ∧ Sealed (n ≤ ls.length) ∧ Sealed ((ls.take n).all lenOk = true) ∧ Sealed (Below w.heap.size w w'))
    case atStart => exact ⟨0, 0, rfl, rfl, by omega, by omega, ⟨rfl⟩, ⟨rfl⟩, ⟨Nat.zero_le _⟩, ⟨rfl⟩, ⟨Below.refl _ _⟩⟩
    case round =>
      obtain ⟨n, s, rfl, rfl, hs0, hs1, HS, HK, HN, HA, HB⟩ := hrel
      by_cases hlt : n < ls.length
      · obtain ⟨ad, rfl, hc0⟩ := HX.out.cell n hlt
        obtain ⟨x, hx⟩ : ∃ x, x = ls.getD n 0 := ⟨_, rfl⟩
        have ht := take_snoc hlt
        rw [← hx] at hc0 ht
        have hc := (HB.out.cell (World.block_lt_of_cell? w _ hc0)).trans hc0
        have HXX := Sealed.mk hx
        have HT := Sealed.mk ht
        clear hx ht hc0
        by_cases h0 : 0 ≤ x
        · by_cases h15 : x ≤ 15
          · have hb := rsum_bd (ls.take (n + 1))
            rw [List.length_take] at hb
            have hsn : rsum (ls.take (n + 1)) = s + partOf x := by rw [HT.out, rsum_snoc, HS.out]
            have HSN := Sealed.mk hsn
            have HSB : Sealed (0 ≤ s + partOf x ∧ s + partOf x ≤ 20000000) := ⟨by rw [← hsn]; omega⟩
            clear hb hsn
            go_wp2
            go_loopg [5, 6] 15 (fun k s5 s6 w' => ∃ (m : Nat) (p : Int), s5 = .int .i64 p ∧ s6 = .int .i64 m ∧ 0 ≤ p ∧ p ≤ 32768 ∧ Sealed (p = 2 ^ (15 - m)) ∧ Sealed ((m : Int) ≤ x) ∧ Sealed (k = 15 - m) ∧ Sealed (Below w.heap.size w w'))
            case atStart => exact ⟨0, 32768, rfl, rfl, by omega, by omega, ⟨rfl⟩, ⟨by omega⟩, ⟨rfl⟩, HB⟩
            case round =>
              obtain ⟨m, p, rfl, rfl, hp0, hp1, HP, HM, HK2, HB2⟩ := hrel
              have hc2 : wr.cell? (ad.add n) = some (.int .i64 x) := by
                have h := (HX.out.cell n hlt)
                obtain ⟨ad', e', h'⟩ := h
                injection e' with e'
                rw [← e', ← HXX.out] at h'
                exact (HB2.out.cell (World.block_lt_of_cell? w _ h')).trans h'
              by_cases hm : (m : Int) < x
              · have hmd : decide ((m : Int) < x) = true := decide_eq_true hm
                go_wp2
                go_roundg (15 - (m + 1))
                case measure => have := HK2.out; omega
                case rel =>
                  have e1 : (2 : Int) ^ (15 - m) = 2 * 2 ^ (15 - (m + 1)) := by
                    rw [show 15 - m = (15 - (m + 1)) + 1 by omega, Int.pow_succ, Int.mul_comm]
                  refine ⟨m + 1, p / 2, rfl, by go_num, by omega, by omega, ⟨?_⟩, ⟨by omega⟩, ⟨rfl⟩, HB2⟩
                  rw [HP.out, e1]; omega
              · have hmd : decide ((m : Int) < x) = false := decide_eq_false hm
                have hmx : (m : Int) = x := by have := HM.out; omega
                have hpp : partOf x = if 0 < x then p else 0 := by
                  unfold partOf
                  rw [HP.out, ← hmx]; simp
                have HPP := Sealed.mk hpp
                clear hmx hpp
                by_cases hpos : 0 < x
                · have hsb : s + p ≤ 20000000 := by have h1 := HSB.out; rw [HPP.out, if_pos hpos] at h1; omega
                  have hpd : decide (0 < x) = true := decide_eq_true hpos
                  go_wp2
                  go_roundg (ls.length - (n + 1))
                  case measure => have := HK.out; omega
                  case rel =>
                    refine ⟨n + 1, s + p, rfl, by go_num, by omega, hsb, ⟨by rw [HSN.out, HPP.out, if_pos hpos]⟩, ⟨rfl⟩, ⟨hlt⟩, ⟨?_⟩, HB2⟩
                    rw [HT.out, all_snoc, HA.out]; simp [lenOk, h0, h15]
                · have hpd : decide (0 < x) = false := decide_eq_false hpos
                  have HNP := Sealed.mk hpos
                  clear hpos
                  go_wp2
                  go_roundg (ls.length - (n + 1))
                  case measure => have := HK.out; omega
                  case rel =>
                    refine ⟨n + 1, s, rfl, by go_num, by omega, hs1, ⟨by rw [HSN.out, HPP.out, if_neg (show ¬ 0 < x by have := HNP.out; omega)]; omega⟩, ⟨rfl⟩, ⟨hlt⟩, ⟨?_⟩, HB2⟩
                    rw [HT.out, all_snoc, HA.out]; simp [lenOk, h0, h15]
          · have hall : ls.all lenOk = false := all_take_bad hlt (by rw [← HXX.out]; simp [lenOk]; omega)
            have HE : Sealed (R = 3) := ⟨by rw [HR.out, hall]; rfl⟩
            have d0 : decide (x < 0) = false := decide_eq_false (by omega)
            have d1 : decide (15 < x) = true := decide_eq_true (by omega)
            clear hall h0 h15
            go_wp2
            go_ret
            exact ⟨ret_int HE.out.symm, HB.out⟩
        · have hall : ls.all lenOk = false := all_take_bad hlt (by rw [← HXX.out]; simp [lenOk]; omega)
          have HE : Sealed (R = 3) := ⟨by rw [HR.out, hall]; rfl⟩
          have d0 : decide (x < 0) = true := decide_eq_true (by omega)
          clear hall h0
          go_wp2
          go_ret
          exact ⟨ret_int HE.out.symm, HB.out⟩
      · have hnl : n = ls.length := by have := HN.out; omega
        have hall : ls.all lenOk = true := by have h := HA.out; rwa [hnl, List.take_length] at h
        have hse : s = rsum ls := by have h := HS.out; rwa [hnl, List.take_length] at h
        have hdn : decide (n < ls.length) = false := decide_eq_false hlt
        have HE : Sealed (R = if s = 0 then 12 else if s > 32768 then 7 else if s < 32768 then 5 else 0) := ⟨by rw [HR.out, hall, hse]; rfl⟩
        clear hnl hall hse hlt
        by_cases e0 : s = 0
        · have HV : Sealed (12 = R) := ⟨by rw [HE.out, if_pos e0]⟩
          have hb : (s == 0) = true := by simpa using e0
          clear e0
          go_wp2
          go_ret
          exact ⟨ret_int HV.out, HB.out⟩
        · have hb : (s == 0) = false := by simpa using e0
          by_cases e1 : s > 32768
          · have HV : Sealed (7 = R) := ⟨by rw [HE.out, if_neg e0, if_pos e1]⟩
            have hb1 : decide (32768 < s) = true := decide_eq_true e1
            clear e0 e1
            go_wp2
            go_ret
            exact ⟨ret_int HV.out, HB.out⟩
          · have hb1 : decide (32768 < s) = false := decide_eq_false e1
            by_cases e2 : s < 32768
            · have HV : Sealed (5 = R) := ⟨by rw [HE.out, if_neg e0, if_neg e1, if_pos e2]⟩
              have hb2 : decide (s < 32768) = true := decide_eq_true e2
              clear e0 e1 e2
              go_wp2
              go_ret
              exact ⟨ret_int HV.out, HB.out⟩
            · have HV : Sealed (0 = R) := ⟨by rw [HE.out, if_neg e0, if_neg e1, if_neg e2]⟩
              have hb2 : decide (s < 32768) = false := decide_eq_false e2
              clear e0 e1 e2
              go_wp2
              go_ret
              exact ⟨ret_int HV.out, HB.out⟩
end Go.Proofs.Ytmdlhbhdlhjakaa

namespace Go.Proofs.Ytmdlhbhdlhjakaa
open Go.RowKit

theorem refused_any (A : Option Addr) (c : Nat) (ls : List Int) (w : World) (hr : Reads w .i64 A ls) :
    Calls Try.prog 43 #[.slice A ls.length c] w fun e w' => e = .returned (.int .i64 (mayOf (checkOf ls))) ∧ Below w.heap.size w w' := by
  have H := Sealed.mk (rcheck_any A c ls w hr)
  obtain ⟨r, hre⟩ : ∃ r, r = checkOf ls := ⟨_, rfl⟩
  rw [← hre] at H ⊢
  clear hr hre
  by_cases h12 : r = 12
  · subst h12
    go_enter Try.func43, Try.ntmps43
    go_wp2_with (go_at_call 76; refine H.out.mono ?_; rintro e w1 ⟨rfl, hb⟩; have L1 := Sealed.mk hb; clear hb)
    go_ret
    exact ⟨rfl, L1.out⟩
  · by_cases h5 : r = 5
    · subst h5
      go_enter Try.func43, Try.ntmps43
      go_wp2_with (go_at_call 76; refine H.out.mono ?_; rintro e w1 ⟨rfl, hb⟩; have L1 := Sealed.mk hb; clear hb)
      go_ret
      exact ⟨rfl, L1.out⟩
    · have HV : Sealed (mayOf r = r) := ⟨by simp [mayOf, h12, h5]⟩
      have b1 : (r == 12) = false := by simpa using h12
      have b2 : (r == 5) = false := by simpa using h5
      clear h12 h5
      go_enter Try.func43, Try.ntmps43
      go_wp2_with (go_at_call 76; refine H.out.mono ?_; rintro e w1 ⟨rfl, hb⟩; have L1 := Sealed.mk hb; clear hb)
      go_ret
      exact ⟨ret_int HV.out.symm, L1.out⟩

set_option maxRecDepth 100000 in
theorem longest_any (A : Option Addr) (c : Nat) (ls : List Int) (w : World) (hr : Reads w .i64 A ls) (hl : ls.length ≤ 1000000000000) :
    Calls Try.prog 45 #[.slice A ls.length c] w fun e w' => e = .returned (.int .i64 (rlong ls)) ∧ Below w.heap.size w w' := by
  obtain ⟨R, hR⟩ : ∃ R, R = rlong ls := ⟨_, rfl⟩
  rw [← hR]
  have HR := Sealed.mk hR
  have HX := Sealed.mk hr
  clear hR hr
  go_enter Try.func45, Try.ntmps45
  go_wp2
  go_loopg [3, 4] ls.length (fun k s3 s4 w' => ∃ (n : Nat) (s : Int), s3 = .int .i64 s ∧ s4 = .int .i64 n ∧ Sealed (s = rlong (ls.take n)) ∧ Sealed (k = ls.length - n) ∧ Sealed (n ≤ ls.length) ∧ Sealed (Below w.heap.size w w'))
  case atStart => exact ⟨0, 0, rfl, rfl, ⟨rfl⟩, ⟨rfl⟩, ⟨Nat.zero_le _⟩, ⟨Below.refl _ _⟩⟩
  case round =>
    obtain ⟨n, s, rfl, rfl, HS, HK, HN, HB⟩ := hrel
    by_cases hlt : n < ls.length
    · obtain ⟨ad, rfl, hc0⟩ := HX.out.cell n hlt
      obtain ⟨x, hx⟩ : ∃ x, x = ls.getD n 0 := ⟨_, rfl⟩
      have ht := take_snoc hlt
      rw [← hx] at hc0 ht
      have hc := (HB.out.cell (World.block_lt_of_cell? w _ hc0)).trans hc0
      have HT : Sealed (rlong (ls.take (n + 1)) = if s < x then x else s) := ⟨by rw [ht, rlong_snoc, HS.out]⟩
      clear hx ht hc0
      by_cases hsx : s < x
      · have HV : Sealed (rlong (ls.take (n + 1)) = x) := ⟨by rw [HT.out, if_pos hsx]⟩
        have hle : s ≤ x := by omega
        go_wp2
        go_roundg (ls.length - (n + 1))
        case measure => have := HK.out; omega
        case rel => exact ⟨n + 1, x, rfl, by go_num, ⟨HV.out.symm⟩, ⟨rfl⟩, ⟨hlt⟩, HB⟩
      · have HV : Sealed (rlong (ls.take (n + 1)) = s) := ⟨by rw [HT.out, if_neg hsx]⟩
        have hle : x ≤ s := by omega
        go_wp2
        go_roundg (ls.length - (n + 1))
        case measure => have := HK.out; omega
        case rel => exact ⟨n + 1, s, rfl, by go_num, ⟨HV.out.symm⟩, ⟨rfl⟩, ⟨hlt⟩, HB⟩
    · have hnl : n = ls.length := by have := HN.out; omega
      have hse : Sealed (s = R) := ⟨by rw [HR.out, HS.out, hnl, List.take_length]⟩
      have hdn : decide (n < ls.length) = false := decide_eq_false hlt
      clear hnl hlt
      go_wp2
      go_ret
      exact ⟨ret_int hse.out, HB.out⟩

set_option maxRecDepth 100000 in
set_option maxHeartbeats 1000000 in
theorem find_any (A0 A1 : Option Addr) (c0 c1 : Nat) (ls cs : List Int) (n code : Int) (w : World) (hr0 : Reads w .i64 A0 ls) (hr1 : Reads w .i64 A1 cs) (hlc : cs.length = ls.length) (hl : ls.length ≤ 1000000000000) (hn : 0 < n) :
    Calls Try.prog 46 #[.slice A0 ls.length c0, .slice A1 ls.length c1, .int .i64 n, .int .i64 code] w fun e w' => e = .returned (.int .i64 (rfind ls cs n code)) ∧ Below w.heap.size w w' := by
  obtain ⟨R, hR⟩ : ∃ R, R = rfind ls cs n code := ⟨_, rfl⟩
  rw [← hR]
  have HR := Sealed.mk hR
  have HX := Sealed.mk hr0
  have HY := Sealed.mk hr1
  have HLC := Sealed.mk hlc
  clear hR hr0 hr1 hlc
  go_enter Try.func46, Try.ntmps46
  go_wp2
  go_loopg [9] ls.length (fun k s9 w' => ∃ (i : Nat), s9 = .int .i64 i ∧ Sealed (k = ls.length - i) ∧ Sealed (i ≤ ls.length) ∧ Sealed (∀ j, j < i → isCode ls cs n code j = false) ∧ Sealed (Below w.heap.size w w'))
  case atStart => exact ⟨0, rfl, ⟨rfl⟩, ⟨Nat.zero_le _⟩, ⟨fun j hj => by omega⟩, ⟨Below.refl _ _⟩⟩
  case round =>
    obtain ⟨i, rfl, HK, HI, HN, HB⟩ := hrel
    by_cases hlt : i < ls.length
    · obtain ⟨ad, rfl, hc0⟩ := HX.out.cell i hlt
      obtain ⟨ad', rfl, hc1⟩ := HY.out.cell i (by have := HLC.out; omega)
      obtain ⟨x, hx⟩ : ∃ x, x = ls.getD i 0 := ⟨_, rfl⟩
      obtain ⟨y, hy⟩ : ∃ y, y = cs.getD i 0 := ⟨_, rfl⟩
      rw [← hx] at hc0
      rw [← hy] at hc1
      have hx0 := (HB.out.cell (World.block_lt_of_cell? w _ hc0)).trans hc0
      have hy0 := (HB.out.cell (World.block_lt_of_cell? w _ hc1)).trans hc1
      have hic : isCode ls cs n code i = ((x == n) && (y == code) && decide (0 < n)) := by rw [isCode, ← hx, ← hy]
      have hnext : isCode ls cs n code i = false → ∀ j, j < i + 1 → isCode ls cs n code j = false := by
        intro h j hj
        by_cases hji : j < i
        · exact HN.out j hji
        · obtain rfl : j = i := by omega
          exact h
      have HNX := Sealed.mk hnext
      have HIC := Sealed.mk hic
      clear hx hy hc0 hc1 hnext hic
      by_cases he : x = n
      · have hb0 : (x == n) = true := by simpa using he
        by_cases he2 : y = code
        · have hb1 : (y == code) = true := by simpa using he2
          have HV : Sealed (R = (i : Int)) := ⟨by rw [HR.out]; exact rfind_some hlt (by rw [HIC.out, hb0, hb1]; simp [hn]) HN.out⟩
          clear he he2
          go_wp2
          go_ret
          exact ⟨ret_int HV.out.symm, HB.out⟩
        · have hb1 : (y == code) = false := by simpa using he2
          have HF : Sealed (isCode ls cs n code i = false) := ⟨by rw [HIC.out, hb1]; simp⟩
          clear he he2
          go_wp2
          go_roundg (ls.length - (i + 1))
          case measure => have := HK.out; omega
          case rel => exact ⟨i + 1, by go_num, ⟨rfl⟩, ⟨hlt⟩, ⟨HNX.out HF.out⟩, HB⟩
      · have hb0 : (x == n) = false := by simpa using he
        have HF : Sealed (isCode ls cs n code i = false) := ⟨by rw [HIC.out, hb0]; simp⟩
        clear he
        go_wp2
        go_roundg (ls.length - (i + 1))
        case measure => have := HK.out; omega
        case rel => exact ⟨i + 1, by go_num, ⟨rfl⟩, ⟨hlt⟩, ⟨HNX.out HF.out⟩, HB⟩
    · have hil : i = ls.length := by have := HI.out; omega
      have HV : Sealed (R = -1) := ⟨by rw [HR.out]; exact rfind_none (by rw [← hil]; exact HN.out)⟩
      have hdn : decide (i < ls.length) = false := decide_eq_false hlt
      clear hil hlt
      go_wp2
      go_ret
      exact ⟨ret_int HV.out.symm, HB.out⟩

/-! ### the bits of bytes -/
def sbits (s : ByteArray) (n : Nat) : List Int := (List.range n).map fun p => ((bit s p : Nat) : Int)
theorem sbits_len (s : ByteArray) (n : Nat) : (sbits s n).length = n := by simp [sbits]
theorem sbits_succ (s : ByteArray) (n : Nat) : sbits s (n + 1) = sbits s n ++ [((bit s n : Nat) : Int)] := by simp [sbits, List.range_succ]
theorem sbits_get (s : ByteArray) {n i : Nat} (h : i < n) : (sbits s n).getD i 0 = ((bit s i : Nat) : Int) := by simp [sbits, List.getD_eq_getElem?_getD, h]

set_option maxRecDepth 100000 in
set_option maxHeartbeats 1000000 in
theorem bits_any (s : ByteArray) (w : World) (hs : s.size ≤ 1000000000) :
    Calls Try.prog 18 #[.string s] w fun e w' => ∃ v, e = .returned v ∧ w'.ownsRow w.heap.size 3 1 v (8 * s.size) (nums .i64 (sbits s (8 * s.size))) ∧ Below w.heap.size w w' := by
  go_enter Try.func18, Try.ntmps18
  go_wp2_with ((with_reducible refine gate_dst (N := 7) rfl ?_); refine ev_lit (cs := []) (t := 3) (n := 0) ?hg ?hr ?_; (case hg => rfl); (case hr => first | (go_simp; done) | (go_simp; rfl)); intro g1 w1 hg1 hb1 hB1 hs1; have G1 := Sealed.mk hg1; have B1 := Sealed.mk hb1; have L1 := Sealed.mk hB1; clear hg1 hb1 hB1 hs1)
  have HO : Sealed (w1.ownsRow w.heap.size 3 1 (.slice (some ⟨g1, 0, none⟩) 0 0) 0 (nums .i64 (sbits s (8 * 0)))) := ⟨B1.out.owns (by rw [G1.out]; exact Nat.le_refl _) (by decide)⟩
  clear B1 G1
  go_loopg [3, 4] s.size (fun k s3 s4 w' => ∃ (i : Nat), s4 = .int .i64 i ∧ Sealed (k = s.size - i) ∧ Sealed (i ≤ s.size) ∧ Sealed (w'.ownsRow w.heap.size 3 1 s3 (8 * i) (nums .i64 (sbits s (8 * i)))) ∧ Sealed (Below w.heap.size w w'))
  case atStart => exact ⟨0, rfl, ⟨rfl⟩, ⟨Nat.zero_le _⟩, HO, L1⟩
  case round =>
    clear HO L1
    obtain ⟨i, rfl, HK, HI, HO, HB⟩ := hrel
    by_cases hlt : i < s.size
    · have hlt1 : (i : Int) < (s.size : Int) := by omega
      have hb := byteAt_get s i hlt
      have hb255 := byteAt_lt s i
      obtain ⟨b, hbe⟩ : ∃ b, b = byteAt s i := ⟨_, rfl⟩
      rw [← hbe] at hb hb255
      have HBE := Sealed.mk hbe
      clear hbe
      go_wp2
      go_loopg [3, 5, 6] 8 (fun k s3 s5 s6 w' => ∃ (j q : Nat), s5 = .int .i64 q ∧ s6 = .int .i64 j ∧ Sealed (k = 8 - j) ∧ j ≤ 8 ∧ Sealed (q = b / 2 ^ j) ∧ q ≤ 255 ∧ Sealed (w'.ownsRow w.heap.size 3 1 s3 (8 * i + j) (nums .i64 (sbits s (8 * i + j)))) ∧ Sealed (Below w.heap.size w w'))
      case atStart => exact ⟨0, b, rfl, rfl, ⟨rfl⟩, by omega, ⟨by simp⟩, by omega, HO, HB⟩
      case round =>
        clear HO HB
        obtain ⟨j, q, rfl, rfl, HK2, hj8, HQ, hq, HO, HB⟩ := hrel
        have hdj : (j : Int) = (j : Int) := rfl
        by_cases hj : j < 8
        · have HE : Sealed (bit s (8 * i + j) = q % 2) := ⟨by
            rw [bit, show (8 * i + j) / 8 = i by omega, show (8 * i + j) % 8 = j by omega, HQ.out, HBE.out]⟩
          have HS : Sealed (w.heap.size ≤ wr.heap.size) := ⟨HB.out.size⟩
          have HQ2 : Sealed (q / 2 = b / 2 ^ (j + 1)) := ⟨by rw [HQ.out, Nat.div_div_eq_div_mul, ← Nat.pow_succ]⟩
          clear hdj
          go_wp2_with ((with_reducible refine gate_dst (N := 26) rfl ?_); refine wp_app1 w.heap.size rfl (.tmp 22) (.tmp 25) 22 3 (.int .i64 0) 8 rfl Try.underlying22 info_i64 rfl (by decide) _ (8 * i + j) _ _ rfl rfl rfl HO.out HS.out (by omega) ?_; intro v4 w4 ho4 hg4; have HO4 := Sealed.mk ho4; have HG4 := Sealed.mk hg4; clear ho4 hg4)
          go_roundg (8 - (j + 1))
          case measure => have := HK2.out; omega
          case rel =>
            have ho := HO4.out
            have e : ((q : Nat) : Int) % 2 = ((q % 2 : Nat) : Int) := by omega
            rw [e, ← HE.out, ← nums_snoc, ← sbits_succ] at ho
            have hb4 := (Chg.refl w.heap.size [3] wr).grown HO.out (Nat.le_refl _) (by simp) HG4.out
            have hbb : Below w.heap.size w w4 := by
              have h1 : Chg w.heap.size [3] w wr := Chg.of_below HB.out
              exact (h1.trans hb4).to_below
            exact ⟨j + 1, q / 2, by go_num, by go_num, ⟨rfl⟩, by omega, ⟨HQ2.out⟩, by omega, ⟨ho⟩, ⟨hbb⟩⟩
        · have hj' : j = 8 := by omega
          subst hj'
          go_wp2
          go_roundg (s.size - (i + 1))
          case measure => have := HK.out; omega
          case rel => exact ⟨i + 1, by go_num, ⟨rfl⟩, ⟨hlt⟩, HO, HB⟩
    · have hi : i = s.size := by have := HI.out; omega
      have HO2 : Sealed (wr.ownsRow w.heap.size 3 1 u3 (8 * s.size) (nums .i64 (sbits s (8 * s.size)))) := ⟨by have h := HO.out; rw [hi] at h; exact h⟩
      have hdn : decide (i < s.size) = false := decide_eq_false hlt
      obtain ⟨A3, c3, hv3⟩ := own_slice HO2.out
      subst hv3
      clear hi hlt HO
      go_wp2
      go_ret
      exact ⟨_, rfl, HO2.out, HB.out⟩
end Go.Proofs.Ytmdlhbhdlhjakaa
