/- The contract of package squeeze's Stored. -/
import Derived.Test.YtmdlhbhdlhjakaaStoreP
set_option linter.unusedVariables false
set_option linter.unusedSimpArgs false
namespace Go.Proofs.Ytmdlhbhdlhjakaa
open Go.RowKit

theorem put_at {B : Nat} {w : World} {g : Nat} {t : TypeId} {rest : List Value} {l : List Nat} (h : WrSt B w g t rest l) {N D : Int} (n d : Nat) (hN : N = (n : Int)) (hD : D = (d : Int)) (hd : d ≤ 16) (hn : n < 2 ^ d) (hl : l.length ≤ 1000000000000) :
    Calls Try.prog 47 #[.pointer (some ⟨g, 0, none⟩), .int .i64 N, .int .i64 D] w fun e w' => e = .returned (.int .i64 0) ∧ Chg B [t, 5] w w' ∧ WrSt B w' g t rest (l ++ numBits n d) := by
  subst hN hD
  exact put_ok h n d hd hn hl

set_option maxRecDepth 100000 in
set_option maxHeartbeats 1000000 in
theorem stored_ok (s : ByteArray) (K : Nat) (w : World) (hs : s.size ≤ 65535 * K) (hK : 1 ≤ K) (hK2 : K ≤ 1000) :
    Calls Try.prog 25 #[.string s] w fun e w' => e = .returned (.string (strOfNums (castL (storedL K s)))) ∧ Below w.heap.size w w' := by
  obtain ⟨R, hR⟩ : ∃ R, R = storedL K s := ⟨_, rfl⟩
  have hRl : ∀ x ∈ R, x < 256 := by rw [hR]; exact storedL_lt K s
  rw [← hR]
  have HR := Sealed.mk hR
  have HRL := Sealed.mk hRl
  clear hR hRl
  go_enter Try.func25, Try.ntmps25
  go_wp2_with ((with_reducible refine gate_dst (N := 3) rfl ?_); refine ev_box (cs := [.int .i64 0, .int .i64 0, .slice none 0 0]) (t := 43) ?hg ?hr ?_; (case hg => rfl); (case hr => first | (go_simp; done) | (go_simp; rfl)); intro gw w2 hg6 hb6 hB6 hs6; have GW := Sealed.mk hg6; have B6 := Sealed.mk hb6; have L6 := Sealed.mk hB6; clear hg6 hb6 hB6 hs6)
  have HW2 : Sealed (WrSt w.heap.size w2 gw 43 [] (byteBits [])) := ⟨WrSt.new B6.out (by rw [GW.out]; exact Nat.le_refl _) (by decide)⟩
  have HC2 : Sealed (Chg w.heap.size [43, 5] w w2) := ⟨Chg.of_below L6.out⟩
  clear L6 B6 GW
  go_simp
  go_loopg [0] K (fun k s0 w' => ∃ (t : ByteArray) (bs : List Nat), s0 = .string t ∧ Sealed (bs ++ storedL k t = R) ∧ Sealed (1 ≤ k) ∧ Sealed (t.size ≤ 65535 * k) ∧ Sealed (bs.length + t.size + 5 * k ≤ 100000000) ∧ Sealed (WrSt w.heap.size w' gw 43 [] (byteBits bs)) ∧ Sealed (Chg w.heap.size [43, 5] w w'))
  case atStart => exact ⟨s, [], rfl, ⟨by rw [HR.out]; rfl⟩, ⟨hK⟩, ⟨hs⟩, ⟨by simp; omega⟩, HW2, HC2⟩
  case round =>
    clear HW2 HC2 hs
    obtain ⟨t, bs, rfl, HE, HK1, HS, HL, HW, HC⟩ := hrel
    obtain ⟨k, rfl⟩ : ∃ k, gk = k + 1 := ⟨gk - 1, by have := HK1.out; omega⟩
    have hl8 := byteBits_len bs
    have hbl := HL.out
    have HLB : Sealed ((byteBits bs).length + 8 * t.size ≤ 900000000) := ⟨by omega⟩
    clear hl8 hbl
    by_cases hle : t.size ≤ 65535
    · have HX := Sealed.mk (bits_xor_block t.size hle)
      go_wp2_with fail
      refine (put_at HW.out 1 1 rfl rfl (by omega) (by omega) (by have := HLB.out; omega)).mono ?_
      rintro e wa ⟨rfl, hc, hw⟩
      have HCa := Sealed.mk (HC.out.trans hc)
      have HWa := Sealed.mk hw
      clear hc hw HW HC
      go_wp2_with fail
      refine (put_at HWa.out 0 2 rfl rfl (by omega) (by omega) (by have := HLB.out; simp only [List.length_append, numBits_length]; omega)).mono ?_
      rintro e wb ⟨rfl, hc, hw⟩
      have HCb := Sealed.mk (HCa.out.trans hc)
      have HWb := Sealed.mk hw
      clear hc hw HWa HCa
      go_wp2_with fail
      refine (align_ok HWb.out (by have := HLB.out; simp only [List.length_append, numBits_length]; omega)).mono ?_
      rintro e wc ⟨rfl, hc, hw⟩
      have HCc := Sealed.mk (HCb.out.trans hc)
      have HWc := Sealed.mk hw
      clear hc hw HWb HCb
      go_wp2_with fail
      refine (put_at HWc.out t.size 16 rfl rfl (by omega) (by omega) (by have := HLB.out; simp only [List.length_append, numBits_length, alignZeros]; omega)).mono ?_
      rintro e wd ⟨rfl, hc, hw⟩
      have HCd := Sealed.mk (HCc.out.trans hc)
      have HWd := Sealed.mk hw
      clear hc hw HWc HCc
      go_wp2_with fail
      refine (put_at HWd.out (65535 - t.size) 16 HX.out rfl (by omega) (by omega) (by have := HLB.out; simp only [List.length_append, numBits_length, alignZeros]; omega)).mono ?_
      rintro e we ⟨rfl, hc, hw⟩
      have HCe := Sealed.mk (HCd.out.trans hc)
      rw [blk_bits (by omega)] at hw
      have HWe := Sealed.mk hw
      clear hc hw HWd HCd
      go_wp2
      go_loopg [6, 24] t.size (fun j s6 s24 w' => ∃ i : Nat, s24 = .int .i64 i ∧ Sealed (j = t.size - i) ∧ i ≤ t.size ∧ Sealed (WrSt w.heap.size w' gw 43 [] (byteBits (bs ++ blkOf 1 t.size ++ bytesOf t i))) ∧ Sealed (Chg w.heap.size [43, 5] w w'))
      case atStart => exact ⟨0, rfl, ⟨rfl⟩, by omega, ⟨by simpa [bytesOf] using HWe.out⟩, HCe⟩
      case round =>
        clear HWe HCe
        obtain ⟨i, rfl, HJ, hi, HW, HC⟩ := hrel
        by_cases hlt : i < t.size
        · have hltz : i < t.size := by omega
          have hlt1 : (i : Int) < (t.size : Int) := by omega
          have hdl : decide (i < t.size) = true := decide_eq_true hlt
          have hb := byteAt_get t i hltz
          have hb255 := byteAt_lt t i
          have HSU := Sealed.mk (bytesOf_succ t i)
          have HIL : Sealed ((byteBits (bs ++ blkOf 1 t.size ++ bytesOf t i)).length ≤ 1000000000000) := ⟨by
            have := HL.out
            rw [byteBits_len]; simp only [List.length_append, bytesOf_len]; simp [blkOf]; omega⟩
          obtain ⟨b, hbe⟩ : ∃ b, b = byteAt t i := ⟨_, rfl⟩
          rw [← hbe] at hb hb255 HSU
          clear hbe
          go_wp2_with fail
          refine (put_at HW.out b 8 rfl rfl (by omega) (by omega) HIL.out).mono ?_
          rintro e wf ⟨rfl, hc, hw⟩
          have HCf := Sealed.mk (HC.out.trans hc)
          rw [← byteBits_one, ← byteBits_append, List.append_assoc _ (bytesOf t i), ← HSU.out] at hw
          have HWf := Sealed.mk hw
          clear hc hw HW HC
          go_wp2
          go_roundg (t.size - (i + 1))
          case measure => have := HJ.out; omega
          case rel => exact ⟨i + 1, by go_num, ⟨rfl⟩, by omega, HWf, HCf⟩
        · have hi2 : i = t.size := by omega
          have hdl : decide (i < t.size) = false := decide_eq_false hlt
          have he := HE.out
          rw [storedL, if_pos hle, ← List.append_assoc] at he
          rw [hi2, he] at HW
          have HRB : Sealed ((byteBits R).length ≤ 1000000000000) := ⟨by
            rw [← he, byteBits_len]; have := HL.out; simp only [List.length_append, bytesOf_len]; simp [blkOf]; omega⟩
          clear hi2 hlt he
          go_wp2_with fail
          refine (text_ok HW.out HRB.out).mono ?_
          rw [textOf_bytes R HRL.out]
          rintro e wf ⟨rfl, hb⟩
          have HCf := Sealed.mk (HC.out.below_step hb)
          clear hb
          go_wp2
          go_ret
          exact ⟨rfl, HCf.out.to_below⟩
    · have hgt : 65535 < t.size := by omega
      have HX := Sealed.mk (bits_xor_block 65535 (by omega))
      have hne : ((65535 : Int) == (t.size : Int)) = false := by simp; omega
      clear hle
      go_wp2_with fail
      refine (put_at HW.out 0 1 rfl rfl (by omega) (by omega) (by have := HLB.out; omega)).mono ?_
      rintro e wa ⟨rfl, hc, hw⟩
      have HCa := Sealed.mk (HC.out.trans hc)
      have HWa := Sealed.mk hw
      clear hc hw HW HC
      go_wp2_with fail
      refine (put_at HWa.out 0 2 rfl rfl (by omega) (by omega) (by have := HLB.out; simp only [List.length_append, numBits_length]; omega)).mono ?_
      rintro e wb ⟨rfl, hc, hw⟩
      have HCb := Sealed.mk (HCa.out.trans hc)
      have HWb := Sealed.mk hw
      clear hc hw HWa HCa
      go_wp2_with fail
      refine (align_ok HWb.out (by have := HLB.out; simp only [List.length_append, numBits_length]; omega)).mono ?_
      rintro e wc ⟨rfl, hc, hw⟩
      have HCc := Sealed.mk (HCb.out.trans hc)
      have HWc := Sealed.mk hw
      clear hc hw HWb HCb
      go_wp2_with fail
      refine (put_at HWc.out 65535 16 rfl rfl (by omega) (by omega) (by have := HLB.out; simp only [List.length_append, numBits_length, alignZeros]; omega)).mono ?_
      rintro e wd ⟨rfl, hc, hw⟩
      have HCd := Sealed.mk (HCc.out.trans hc)
      have HWd := Sealed.mk hw
      clear hc hw HWc HCc
      go_wp2_with fail
      refine (put_at HWd.out (65535 - 65535) 16 HX.out rfl (by omega) (by omega) (by have := HLB.out; simp only [List.length_append, numBits_length, alignZeros]; omega)).mono ?_
      rintro e we ⟨rfl, hc, hw⟩
      have HCe := Sealed.mk (HCd.out.trans hc)
      rw [blk_bits (by omega)] at hw
      have HWe := Sealed.mk hw
      clear hc hw HWd HCd
      go_wp2
      go_loopg [6, 24] 65535 (fun j s6 s24 w' => ∃ i : Nat, s24 = .int .i64 i ∧ Sealed (j = 65535 - i) ∧ i ≤ 65535 ∧ Sealed (WrSt w.heap.size w' gw 43 [] (byteBits (bs ++ blkOf 0 65535 ++ bytesOf t i))) ∧ Sealed (Chg w.heap.size [43, 5] w w'))
      case atStart => exact ⟨0, rfl, ⟨rfl⟩, by omega, ⟨by simpa [bytesOf] using HWe.out⟩, HCe⟩
      case round =>
        clear HWe HCe
        obtain ⟨i, rfl, HJ, hi, HW, HC⟩ := hrel
        by_cases hlt : i < 65535
        · have hltz : i < t.size := by omega
          have hlt1 : (i : Int) < (t.size : Int) := by omega
          have hb := byteAt_get t i hltz
          have hb255 := byteAt_lt t i
          have HSU := Sealed.mk (bytesOf_succ t i)
          have HIL : Sealed ((byteBits (bs ++ blkOf 0 65535 ++ bytesOf t i)).length ≤ 1000000000000) := ⟨by
            have := HL.out
            rw [byteBits_len]; simp only [List.length_append, bytesOf_len]; simp [blkOf]; omega⟩
          obtain ⟨b, hbe⟩ : ∃ b, b = byteAt t i := ⟨_, rfl⟩
          rw [← hbe] at hb hb255 HSU
          have hlt3 : (i : Int) < 65535 := by omega
          have HLT := Sealed.mk hlt
          have HGT := Sealed.mk hgt
          clear hbe hi hlt hgt hne
          go_wp2_with fail
          refine (put_at HW.out b 8 rfl rfl (by omega) (by omega) HIL.out).mono ?_
          rintro e wf ⟨rfl, hc, hw⟩
          have HCf := Sealed.mk (HC.out.trans hc)
          rw [← byteBits_one, ← byteBits_append, List.append_assoc _ (bytesOf t i), ← HSU.out] at hw
          have HWf := Sealed.mk hw
          clear hc hw HW HC
          go_wp2
          go_roundg (65535 - (i + 1))
          case measure => have := HJ.out; have := HLT.out; omega
          case rel => exact ⟨i + 1, by go_num, ⟨rfl⟩, by have := HLT.out; omega, HWf, HCf⟩
        · have hi2 : i = 65535 := by omega
          subst hi2
          have he := HE.out
          rw [storedL, if_neg (by omega)] at he
          have HE2 := Sealed.mk he
          have HTS : Sealed ((t.extract 65535 t.size).size = t.size - 65535) := ⟨by simp [ByteArray.size_extract]⟩
          clear hlt he
          go_wp2
          go_roundg k
          case measure => omega
          case rel =>
            have h1 := HTS.out
            have h2 := HS.out
            have h3 := HL.out
            refine ⟨t.extract 65535 t.size, bs ++ blkOf 0 65535 ++ bytesOf t 65535, rfl, ⟨?_⟩, ⟨?_⟩, ⟨?_⟩, ⟨?_⟩, HW, HC⟩
            · rw [← HE2.out]; simp only [List.append_assoc]
            · omega
            · omega
            · simp only [List.length_append, bytesOf_len]; simp [blkOf]; omega
end Go.Proofs.Ytmdlhbhdlhjakaa
