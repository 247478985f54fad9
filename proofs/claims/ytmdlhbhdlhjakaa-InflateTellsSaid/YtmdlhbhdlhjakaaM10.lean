/- The contract of package squeeze's Stored. The contract of package squeeze's newCoder. -/
import Derived.Test.YtmdlhbhdlhjakaaM09
set_option linter.unusedVariables false
set_option linter.unusedSimpArgs false
namespace Go.Proofs.Ytmdlhbhdlhjakaa
open Go.RowKit

theorem put_at {B : Nat} {w : World} {g : Nat} {t : TypeId} {rest : List Value} {l : List Nat} (h : WrSt B w g t rest l) {N D : Int} (n d : Nat) (hN : N = (n : Int)) (hD : D = (d : Int)) (hd : d ≤ 16) (hn : n < 2 ^ d) (hl : l.length ≤ 1000000000000) :
    Calls Try.prog 47 #[.pointer (some ⟨g, 0, none⟩), .int .i64 N, .int .i64 D] w fun e w' => e = .returned (.int .i64 0) ∧ Chg B [t, 5] w w' ∧ WrSt B w' g t rest (l ++ numBits n d) := by
  subst hN hD
  exact put_ok h n d hd hn hl

set_option maxRecDepth 100000 in
set_option maxHeartbeats 1000000 in
theorem stored_ok (s : ByteArray) (K : Nat) (w : World) (hs : s.size ≤ 65535 * K) (hK : 1 ≤ K) (hK2 : K ≤ 1000) :
    Calls Try.prog 25 #[.string s] w fun e w' => e = .returned (.string (strOfNums (castL (storedL K s)))) ∧ Below w.heap.size w w' := by
  obtain ⟨R, hR⟩ : ∃ R, R = storedL K s := ⟨_, rfl⟩
  have hRl : ∀ x ∈ R, x < 256 := by rw [hR]; exact storedL_lt K s
  rw [← hR]
  have HR := Sealed.mk hR
  have HRL := Sealed.mk hRl
  clear hR hRl
  go_enter Try.func25, Try.ntmps25
  go_wp2_with ((with_reducible refine gate_dst (N := 3) rfl ?_); refine ev_box (cs := [.int .i64 0, .int .i64 0, .slice none 0 0]) (t := 43) ?hg ?hr ?_; (case hg => rfl); (case hr => first | (go_simp; done) | (go_simp; rfl)); intro gw w2 hg6 hb6 hB6 hs6; have GW := Sealed.mk hg6; have B6 := Sealed.mk hb6; have L6 := Sealed.mk hB6; clear hg6 hb6 hB6 hs6)
  have HW2 : Sealed (WrSt w.heap.size w2 gw 43 [] (byteBits [])) := ⟨WrSt.new B6.out (by rw [GW.out]; exact Nat.le_refl _) (by decide)⟩
  have HC2 : Sealed (Chg w.heap.size [43, 5] w w2) := ⟨Chg.of_below L6.out⟩
  clear L6 B6 GW
  go_simp
  go_loopg [0] K (fun k s0 w' => ∃ (t : ByteArray) (bs : List Nat), s0 = .string t ∧ Sealed (bs ++ storedL k t = R) ∧ Sealed (1 ≤ k) ∧ Sealed (t.size ≤ 65535 * k) ∧ Sealed (bs.length + t.size + 5 * k ≤ 100000000) ∧ Sealed (WrSt w.heap.size w' gw 43 [] (byteBits bs)) ∧ Sealed (Chg w.heap.size [43, 5] w w'))
  case atStart => exact ⟨s, [], rfl, ⟨by rw [HR.out]; rfl⟩, ⟨hK⟩, ⟨hs⟩, ⟨by simp; omega⟩, HW2, HC2⟩
  case round =>
    clear HW2 HC2 hs
    obtain ⟨t, bs, rfl, HE, HK1, HS, HL, HW, HC⟩ := hrel
    obtain ⟨k, rfl⟩ : ∃ k, gk = k + 1 := ⟨gk - 1, by have := HK1.out; omega⟩
    have hl8 := byteBits_len bs
    have hbl := HL.out
    have HLB : Sealed ((byteBits bs).length + 8 * t.size ≤ 900000000) := ⟨by omega⟩
    clear hl8 hbl
    by_cases hle : t.size ≤ 65535
    · have HX := Sealed.mk (bits_xor_block t.size hle)
      go_wp2_with fail
      refine (put_at HW.out 1 1 rfl rfl (by omega) (by omega) (by have := HLB.out; omega)).mono ?_
      rintro e wa ⟨rfl, hc, hw⟩
      have HCa := Sealed.mk (HC.out.trans hc)
      have HWa := Sealed.mk hw
      clear hc hw HW HC
      go_wp2_with fail
      refine (put_at HWa.out 0 2 rfl rfl (by omega) (by omega) (by have := HLB.out; simp only [List.length_append, numBits_length]; omega)).mono ?_
      rintro e wb ⟨rfl, hc, hw⟩
      have HCb := Sealed.mk (HCa.out.trans hc)
      have HWb := Sealed.mk hw
      clear hc hw HWa HCa
      go_wp2_with fail
      refine (align_ok HWb.out (by have := HLB.out; simp only [List.length_append, numBits_length]; omega)).mono ?_
      rintro e wc ⟨rfl, hc, hw⟩
      have HCc := Sealed.mk (HCb.out.trans hc)
      have HWc := Sealed.mk hw
      clear hc hw HWb HCb
      go_wp2_with fail
      refine (put_at HWc.out t.size 16 rfl rfl (by omega) (by omega) (by have := HLB.out; simp only [List.length_append, numBits_length, alignZeros]; omega)).mono ?_
      rintro e wd ⟨rfl, hc, hw⟩
      have HCd := Sealed.mk (HCc.out.trans hc)
      have HWd := Sealed.mk hw
      clear hc hw HWc HCc
      go_wp2_with fail
      refine (put_at HWd.out (65535 - t.size) 16 HX.out rfl (by omega) (by omega) (by have := HLB.out; simp only [List.length_append, numBits_length, alignZeros]; omega)).mono ?_
      rintro e we ⟨rfl, hc, hw⟩
      have HCe := Sealed.mk (HCd.out.trans hc)
      rw [blk_bits (by omega)] at hw
      have HWe := Sealed.mk hw
      clear hc hw HWd HCd
      go_wp2
      go_loopg [6, 24] t.size (fun j s6 s24 w' => ∃ i : Nat, s24 = .int .i64 i ∧ Sealed (j = t.size - i) ∧ i ≤ t.size ∧ Sealed (WrSt w.heap.size w' gw 43 [] (byteBits (bs ++ blkOf 1 t.size ++ bytesOf t i))) ∧ Sealed (Chg w.heap.size [43, 5] w w'))
      case atStart => exact ⟨0, rfl, ⟨rfl⟩, by omega, ⟨by simpa [bytesOf] using HWe.out⟩, HCe⟩
      case round =>
        clear HWe HCe
        obtain ⟨i, rfl, HJ, hi, HW, HC⟩ := hrel
        by_cases hlt : i < t.size
        · have hltz : i < t.size := by omega
          have hlt1 : (i : Int) < (t.size : Int) := by omega
          have hdl : decide (i < t.size) = true := decide_eq_true hlt
          have hb := byteAt_get t i hltz
          have hb255 := byteAt_lt t i
          have HSU := Sealed.mk (bytesOf_succ t i)
          have HIL : Sealed ((byteBits (bs ++ blkOf 1 t.size ++ bytesOf t i)).length ≤ 1000000000000) := ⟨by
            have := HL.out
            rw [byteBits_len]; simp only [List.length_append, bytesOf_len]; simp [blkOf]; omega⟩
          obtain ⟨b, hbe⟩ : ∃ b, b = byteAt t i := ⟨_, rfl⟩
          rw [← hbe] at hb hb255 HSU
          clear hbe
          go_wp2_with fail
          refine (put_at HW.out b 8 rfl rfl (by omega) (by omega) HIL.out).mono ?_
          rintro e wf ⟨rfl, hc, hw⟩
          have HCf := Sealed.mk (HC.out.trans hc)
          rw [← byteBits_one, ← byteBits_append, List.append_assoc _ (bytesOf t i), ← HSU.out] at hw
          have HWf := Sealed.mk hw
          clear hc hw HW HC
          go_wp2
          go_roundg (t.size - (i + 1))
          case measure => have := HJ.out; omega
          case rel => exact ⟨i + 1, by go_num, ⟨rfl⟩, by omega, HWf, HCf⟩
        · have hi2 : i = t.size := by omega
          have hdl : decide (i < t.size) = false := decide_eq_false hlt
          have he := HE.out
          rw [storedL, if_pos hle, ← List.append_assoc] at he
          rw [hi2, he] at HW
          have HRB : Sealed ((byteBits R).length ≤ 1000000000000) := ⟨by
            rw [← he, byteBits_len]; have := HL.out; simp only [List.length_append, bytesOf_len]; simp [blkOf]; omega⟩
          clear hi2 hlt he
          go_wp2_with fail
          refine (text_ok HW.out HRB.out).mono ?_
          rw [textOf_bytes R HRL.out]
          rintro e wf ⟨rfl, hb⟩
          have HCf := Sealed.mk (HC.out.below_step hb)
          clear hb
          go_wp2
          go_ret
          exact ⟨rfl, HCf.out.to_below⟩
    · have hgt : 65535 < t.size := by omega
      have HX := Sealed.mk (bits_xor_block 65535 (by omega))
      have hne : ((65535 : Int) == (t.size : Int)) = false := by simp; omega
      clear hle
      go_wp2_with fail
      refine (put_at HW.out 0 1 rfl rfl (by omega) (by omega) (by have := HLB.out; omega)).mono ?_
      rintro e wa ⟨rfl, hc, hw⟩
      have HCa := Sealed.mk (HC.out.trans hc)
      have HWa := Sealed.mk hw
      clear hc hw HW HC
      go_wp2_with fail
      refine (put_at HWa.out 0 2 rfl rfl (by omega) (by omega) (by have := HLB.out; simp only [List.length_append, numBits_length]; omega)).mono ?_
      rintro e wb ⟨rfl, hc, hw⟩
      have HCb := Sealed.mk (HCa.out.trans hc)
      have HWb := Sealed.mk hw
      clear hc hw HWa HCa
      go_wp2_with fail
      refine (align_ok HWb.out (by have := HLB.out; simp only [List.length_append, numBits_length]; omega)).mono ?_
      rintro e wc ⟨rfl, hc, hw⟩
      have HCc := Sealed.mk (HCb.out.trans hc)
      have HWc := Sealed.mk hw
      clear hc hw HWb HCb
      go_wp2_with fail
      refine (put_at HWc.out 65535 16 rfl rfl (by omega) (by omega) (by have := HLB.out; simp only [List.length_append, numBits_length, alignZeros]; omega)).mono ?_
      rintro e wd ⟨rfl, hc, hw⟩
      have HCd := Sealed.mk (HCc.out.trans hc)
      have HWd := Sealed.mk hw
      clear hc hw HWc HCc
      go_wp2_with fail
      refine (put_at HWd.out (65535 - 65535) 16 HX.out rfl (by omega) (by omega) (by have := HLB.out; simp only [List.length_append, numBits_length, alignZeros]; omega)).mono ?_
      rintro e we ⟨rfl, hc, hw⟩
      have HCe := Sealed.mk (HCd.out.trans hc)
      rw [blk_bits (by omega)] at hw
      have HWe := Sealed.mk hw
      clear hc hw HWd HCd
      go_wp2
      go_loopg [6, 24] 65535 (fun j s6 s24 w' => ∃ i : Nat, s24 = .int .i64 i ∧ Sealed (j = 65535 - i) ∧ i ≤ 65535 ∧ Sealed (WrSt w.heap.size w' gw 43 [] (byteBits (bs ++ blkOf 0 65535 ++ bytesOf t i))) ∧ Sealed (Chg w.heap.size [43, 5] w w'))
      case atStart => exact ⟨0, rfl, ⟨rfl⟩, by omega, ⟨by simpa [bytesOf] using HWe.out⟩, HCe⟩
      case round =>
        clear HWe HCe
        obtain ⟨i, rfl, HJ, hi, HW, HC⟩ := hrel
        by_cases hlt : i < 65535
        · have hltz : i < t.size := by omega
          have hlt1 : (i : Int) < (t.size : Int) := by omega
          have hb := byteAt_get t i hltz
          have hb255 := byteAt_lt t i
          have HSU := Sealed.mk (bytesOf_succ t i)
          have HIL : Sealed ((byteBits (bs ++ blkOf 0 65535 ++ bytesOf t i)).length ≤ 1000000000000) := ⟨by
            have := HL.out
            rw [byteBits_len]; simp only [List.length_append, bytesOf_len]; simp [blkOf]; omega⟩
          obtain ⟨b, hbe⟩ : ∃ b, b = byteAt t i := ⟨_, rfl⟩
          rw [← hbe] at hb hb255 HSU
          have hlt3 : (i : Int) < 65535 := by omega
          have HLT := Sealed.mk hlt
          have HGT := Sealed.mk hgt
          clear hbe hi hlt hgt hne
          go_wp2_with fail
          refine (put_at HW.out b 8 rfl rfl (by omega) (by omega) HIL.out).mono ?_
          rintro e wf ⟨rfl, hc, hw⟩
          have HCf := Sealed.mk (HC.out.trans hc)
          rw [← byteBits_one, ← byteBits_append, List.append_assoc _ (bytesOf t i), ← HSU.out] at hw
          have HWf := Sealed.mk hw
          clear hc hw HW HC
          go_wp2
          go_roundg (65535 - (i + 1))
          case measure => have := HJ.out; have := HLT.out; omega
          case rel => exact ⟨i + 1, by go_num, ⟨rfl⟩, by have := HLT.out; omega, HWf, HCf⟩
        · have hi2 : i = 65535 := by omega
          subst hi2
          have he := HE.out
          rw [storedL, if_neg (by omega)] at he
          have HE2 := Sealed.mk he
          have HTS : Sealed ((t.extract 65535 t.size).size = t.size - 65535) := ⟨by simp [ByteArray.size_extract]⟩
          clear hlt he
          go_wp2
          go_roundg k
          case measure => omega
          case rel =>
            have h1 := HTS.out
            have h2 := HS.out
            have h3 := HL.out
            refine ⟨t.extract 65535 t.size, bs ++ blkOf 0 65535 ++ bytesOf t 65535, rfl, ⟨?_⟩, ⟨?_⟩, ⟨?_⟩, ⟨?_⟩, HW, HC⟩
            · rw [← HE2.out]; simp only [List.append_assoc]
            · omega
            · omega
            · simp only [List.length_append, bytesOf_len]; simp [blkOf]; omega
end Go.Proofs.Ytmdlhbhdlhjakaa

namespace Go.Proofs.Ytmdlhbhdlhjakaa
open Go.RowKit

def fillTo (f : Nat → Int) (N i : Nat) : List Int := (List.range N).map fun j => if j < i then f j else 0
theorem fillTo_len (f : Nat → Int) (N i : Nat) : (fillTo f N i).length = N := by simp [fillTo]
theorem fillTo_zero (f : Nat → Int) (N : Nat) : fillTo f N 0 = List.replicate N 0 := by
  have : fillTo f N 0 = (List.range N).map (fun _ => (0 : Int)) := List.map_congr_left fun j hj => by simp
  rw [this, List.map_const', List.length_range]
theorem fillTo_all (f : Nat → Int) (N : Nat) : fillTo f N N = (List.range N).map f := List.map_congr_left fun j hj => by simp [List.mem_range.1 hj]
theorem fillTo_set (f : Nat → Int) {N i : Nat} (h : i < N) : (fillTo f N i).set i (f i) = fillTo f N (i + 1) := by
  apply List.ext_getElem?
  intro j
  rw [List.getElem?_set, fillTo_len]
  by_cases hj : j < N
  · have e : ∀ k, (fillTo f N k)[j]? = some (if j < k then f j else 0) := fun k => by simp [fillTo, hj]
    rw [e, e]
    by_cases hij : i = j
    · subst hij
      simp [h]
    · rw [if_neg hij]
      have : (j < i + 1) = (j < i) := by simp; omega
      simp only [this]
  · have e : ∀ k, (fillTo f N k)[j]? = none := fun k => List.getElem?_eq_none (by rw [fillTo_len]; omega)
    rw [e, e, if_neg (by omega)]
def litF (i : Nat) : Int := if i < 144 then 8 else if 280 ≤ i then 8 else if i < 256 then 9 else 7
def litL : List Int := (List.range 288).map litF
def distL : List Int := (List.range 32).map fun _ => 5
theorem litL_ok : litL.all lenOk = true ∧ mayOf (checkOf litL) = 0 ∧ litL.length = 288 := by decide +kernel
theorem distL_ok : distL.all lenOk = true ∧ mayOf (checkOf distL) = 0 ∧ distL.length = 32 := by decide +kernel

theorem trSt_less {B B' : Nat} {w : World} {g : Nat} {ls : List Int} (h : TrSt B w g ls) (hle : B' ≤ B) : TrSt B' w g ls := by
  obtain ⟨hB, v0, v1, v2, hb, o0, o1, o2⟩ := h
  exact ⟨Nat.le_trans hle hB, v0, v1, v2, hb, own_less o0 hle, own_less o1 hle, own_less o2 hle⟩

set_option maxRecDepth 100000 in
set_option maxHeartbeats 1000000 in
theorem newCoder_any (w : World) :
    Calls Try.prog 49 #[] w fun e w' => ∃ g n a, e = .returned (.pointer (some ⟨g, 0, none⟩)) ∧ WrSt w.heap.size w' g 80 [.pointer (some ⟨n, 0, none⟩), .pointer (some ⟨a, 0, none⟩)] [] ∧ TrSt w.heap.size w' n litL ∧ TrSt w.heap.size w' a distL ∧ Below w.heap.size w w' := by
  go_enter Try.func49, Try.ntmps49
  go_wp2_with ((with_reducible refine gate_dst (N := 1) rfl ?_); refine ev_box (cs := nums .i64 (List.replicate 288 0)) (t := 111) ?hg ?hr ?_; (case hg => rfl); (case hr => first | (go_simp; done) | (go_simp; rfl)); intro g1 w1 hg1 hb1 hB1 hs1; have G1 := Sealed.mk hg1; have B1 := Sealed.mk hb1; have L1 := Sealed.mk hB1; clear hg1 hb1 hB1 hs1)
  have GE : w.heap.size ≤ g1 := by rw [G1.out]; exact Nat.le_refl _
  have HB1 : Sealed (IsBlk w1 g1 (nums .i64 (fillTo litF 288 0)) 111) := ⟨by rw [fillTo_zero]; exact B1.out⟩
  have HC1 : Sealed (Chg w.heap.size [] w w1) := ⟨Chg.of_below L1.out⟩
  clear G1 B1 L1
  go_loopg [2, 6] 288 (fun k s2 s6 w' => ∃ i : Nat, s6 = .int .i64 i ∧ Sealed (k = 288 - i) ∧ i ≤ 288 ∧ Sealed (IsBlk w' g1 (nums .i64 (fillTo litF 288 i)) 111) ∧ Sealed (Chg w.heap.size [] w w'))
  case atStart => exact ⟨0, rfl, ⟨rfl⟩, by omega, HB1, HC1⟩
  case round =>
    clear HB1 HC1
    obtain ⟨i, rfl, HK, hi, HB, HC⟩ := hrel
    by_cases hlt : i < 288
    · have hc := HB.out.cell i (nums_get (k := .i64) (by rw [fillTo_len]; exact hlt))
      have hf := HB.out.free i
      obtain ⟨x, hx⟩ : ∃ x, x = (fillTo litF 288 i).getD i 0 := ⟨_, rfl⟩
      rw [← hx] at hc
      clear hx
      by_cases h1 : i < 144
      · have HV : Sealed (litF i = 8) := ⟨by unfold litF; repeat' (first | omega | split)⟩
        have HN : Sealed (IsBlk (wr.setCell ⟨g1, i, none⟩ (.int .i64 8)) g1 (nums .i64 (fillTo litF 288 (i + 1))) 111) := ⟨by rw [← fillTo_set litF hlt, HV.out, ← nums_set]; exact HB.out.set i _⟩
        go_wp2
        go_roundg (288 - (i + 1))
        case measure => have := HK.out; omega
        case rel => exact ⟨i + 1, by go_num, ⟨rfl⟩, by omega, HN, ⟨HC.out.set_new GE _⟩⟩
      · by_cases h2 : 280 ≤ i
        · have HV : Sealed (litF i = 8) := ⟨by unfold litF; repeat' (first | omega | split)⟩
          have HN : Sealed (IsBlk (wr.setCell ⟨g1, i, none⟩ (.int .i64 8)) g1 (nums .i64 (fillTo litF 288 (i + 1))) 111) := ⟨by rw [← fillTo_set litF hlt, HV.out, ← nums_set]; exact HB.out.set i _⟩
          go_wp2
          go_roundg (288 - (i + 1))
          case measure => have := HK.out; omega
          case rel => exact ⟨i + 1, by go_num, ⟨rfl⟩, by omega, HN, ⟨HC.out.set_new GE _⟩⟩
        · by_cases h3 : i < 256
          · have HV : Sealed (litF i = 9) := ⟨by unfold litF; repeat' (first | omega | split)⟩
            have HN : Sealed (IsBlk (wr.setCell ⟨g1, i, none⟩ (.int .i64 9)) g1 (nums .i64 (fillTo litF 288 (i + 1))) 111) := ⟨by rw [← fillTo_set litF hlt, HV.out, ← nums_set]; exact HB.out.set i _⟩
            go_wp2
            go_roundg (288 - (i + 1))
            case measure => have := HK.out; omega
            case rel => exact ⟨i + 1, by go_num, ⟨rfl⟩, by omega, HN, ⟨HC.out.set_new GE _⟩⟩
          · have HV : Sealed (litF i = 7) := ⟨by unfold litF; repeat' (first | omega | split)⟩
            have HN : Sealed (IsBlk (wr.setCell ⟨g1, i, none⟩ (.int .i64 7)) g1 (nums .i64 (fillTo litF 288 (i + 1))) 111) := ⟨by rw [← fillTo_set litF hlt, HV.out, ← nums_set]; exact HB.out.set i _⟩
            go_wp2
            go_roundg (288 - (i + 1))
            case measure => have := HK.out; omega
            case rel => exact ⟨i + 1, by go_num, ⟨rfl⟩, by omega, HN, ⟨HC.out.set_new GE _⟩⟩
    · have hi2 : i = 288 := by omega
      subst hi2
      have HB2 : Sealed (IsBlk wr g1 (nums .i64 litL) 111) := ⟨by have h := HB.out; rw [fillTo_all] at h; exact h⟩
      clear hlt hi HB HK
      go_wp2_with ((with_reducible refine gate_dst (N := 3) rfl ?_); refine ev_box (cs := nums .i64 (List.replicate 32 0)) (t := 112) ?hg ?hr ?_; (case hg => rfl); (case hr => first | (go_simp; done) | (go_simp; rfl)); intro g3 w3 hg3 hb3 hB3 hs3; have G3 := Sealed.mk hg3; have B3 := Sealed.mk hb3; have L3 := Sealed.mk hB3; clear hg3 hb3 hB3 hs3)
      have GE3 : w.heap.size ≤ g3 := by rw [G3.out]; exact HC.out.size
      have HG13 : g1 ≠ g3 := by have := HB2.out.lt; rw [G3.out]; omega
      have HA3 : Sealed (IsBlk w3 g1 (nums .i64 litL) 111) := ⟨HB2.out.below' L3.out⟩
      have HB3 : Sealed (IsBlk w3 g3 (nums .i64 (fillTo (fun _ => 5) 32 0)) 112) := ⟨by rw [fillTo_zero]; exact B3.out⟩
      have HC3 : Sealed (Chg w.heap.size [] w w3) := ⟨HC.out.below_step L3.out⟩
      clear G3 B3 L3 HB2 HC
      go_loopg [4, 26] 32 (fun k s4 s26 w' => ∃ i : Nat, s26 = .int .i64 i ∧ Sealed (k = 32 - i) ∧ i ≤ 32 ∧ Sealed (IsBlk w' g1 (nums .i64 litL) 111) ∧ Sealed (IsBlk w' g3 (nums .i64 (fillTo (fun _ => 5) 32 i)) 112) ∧ Sealed (Chg w.heap.size [] w w'))
      case atStart => exact ⟨0, rfl, ⟨rfl⟩, by omega, HA3, HB3, HC3⟩
      case round =>
        clear HA3 HB3 HC3
        obtain ⟨i, rfl, HK, hi, HA, HB, HC⟩ := hrel
        by_cases hlt : i < 32
        · have hc := HB.out.cell i (nums_get (k := .i64) (by rw [fillTo_len]; exact hlt))
          have hf := HB.out.free i
          obtain ⟨x, hx⟩ : ∃ x, x = (fillTo (fun _ => 5) 32 i).getD i 0 := ⟨_, rfl⟩
          rw [← hx] at hc
          clear hx
          have HN : Sealed (IsBlk (wr.setCell ⟨g3, i, none⟩ (.int .i64 5)) g3 (nums .i64 (fillTo (fun _ => 5) 32 (i + 1))) 112) := ⟨by rw [← fillTo_set (fun _ => 5) hlt, ← nums_set]; exact HB.out.set i _⟩
          go_wp2
          go_roundg (32 - (i + 1))
          case measure => have := HK.out; omega
          case rel => exact ⟨i + 1, by go_num, ⟨rfl⟩, by omega, ⟨HA.out.far HG13 _⟩, HN, ⟨HC.out.set_new GE3 _⟩⟩
        · have hi2 : i = 32 := by omega
          subst hi2
          have HB2 : Sealed (IsBlk wr g3 (nums .i64 distL) 112) := ⟨by have h := HB.out; rw [fillTo_all] at h; exact h⟩
          have HS1 : Sealed (∀ w', Chg wr.heap.size [80] wr w' → Calls Try.prog 15 #[.slice (some ⟨g1, 0, none⟩) 288 288] w' fun e w'' => ∃ g, e = .returned (.tuple #[.pointer (some ⟨g, 0, none⟩), .int .i64 0]) ∧ TrSt w'.heap.size w'' g litL ∧ Below w'.heap.size w' w'') := ⟨fun w' h => by
            have h1 := new_good (cap := 288) (blk_reads (HA.out.chg h (.inl HA.out.lt)) (by rw [litL_ok.2.2]; decide)) (by rw [litL_ok.2.2]; decide) litL_ok.1 litL_ok.2.1
            rw [litL_ok.2.2] at h1
            exact h1⟩
          have HS2 : Sealed (∀ w', Chg wr.heap.size [80] wr w' → Calls Try.prog 15 #[.slice (some ⟨g3, 0, none⟩) 32 32] w' fun e w'' => ∃ g, e = .returned (.tuple #[.pointer (some ⟨g, 0, none⟩), .int .i64 0]) ∧ TrSt w'.heap.size w'' g distL ∧ Below w'.heap.size w' w'') := ⟨fun w' h => by
            have h1 := new_good (cap := 32) (blk_reads (HB2.out.chg h (.inl HB2.out.lt)) (by rw [distL_ok.2.2]; decide)) (by rw [distL_ok.2.2]; decide) distL_ok.1 distL_ok.2.1
            rw [distL_ok.2.2] at h1
            exact h1⟩
          have HS : Sealed (w.heap.size ≤ wr.heap.size) := ⟨HC.out.size⟩
          clear hlt hi HB HK
          go_wp2_with ((with_reducible refine gate_dst (N := 33) rfl ?_); refine ev_box (cs := [.int .i64 0, .int .i64 0, .slice none 0 0, .pointer none, .pointer none]) (t := 80) ?hg ?hr ?_; (case hg => rfl); (case hr => first | (go_simp; done) | (go_simp; rfl)); intro g5 w5 hg5 hb5 hB5 hs5; have G5 := Sealed.mk hg5; have B5 := Sealed.mk hb5; have L5 := Sealed.mk hB5; clear hg5 hb5 hB5 hs5)
          have HC5 : Sealed (Chg wr.heap.size [80] wr w5) := ⟨Chg.of_below L5.out⟩
          have GE5 : wr.heap.size ≤ g5 := by rw [G5.out]; exact Nat.le_refl _
          have H15 := Sealed.mk (HS1.out w5 HC5.out)
          clear G5 L5 HS1
          refine H15.out.mono ?_
          rintro e w6 ⟨n, rfl, ht, hb⟩
          have HT6 := Sealed.mk ht
          have HC6 := Sealed.mk (HC5.out.below_step hb)
          have HS5 : Sealed (w.heap.size ≤ w5.heap.size) := ⟨Nat.le_trans HS.out HC5.out.size⟩
          have B6 := Sealed.mk (B5.out.below' hb)
          clear ht hb B5 H15 HC5
          have hc3 := B6.out.cell 3 rfl
          have hf3 := B6.out.free 3
          have B7 := Sealed.mk (B6.out.set 3 (.pointer (some ⟨n, 0, none⟩)))
          have HT7 := Sealed.mk (HT6.out.chg ((Chg.refl wr.heap.size [80] w6).set B6.out GE5 (by simp) 3 (.pointer (some ⟨n, 0, none⟩))) (by decide) (by decide))
          have HC7 := Sealed.mk (HC6.out.set B6.out GE5 (by simp) 3 (.pointer (some ⟨n, 0, none⟩)))
          have H27 := Sealed.mk (HS2.out _ HC7.out)
          clear HT6 HC6 B6 HS2
          go_wp2_with fail
          refine H27.out.mono ?_
          rintro e w8 ⟨a, rfl, ht, hb⟩
          have HT8 := Sealed.mk ht
          have HN8 := Sealed.mk (HT7.out.later (T := []) (Chg.of_below hb))
          have HC8 := Sealed.mk (HC7.out.below_step hb)
          have HS7 : Sealed (w.heap.size ≤ (w6.setCell ⟨g5, 3, none⟩ (.pointer (some ⟨n, 0, none⟩))).heap.size) := ⟨Nat.le_trans HS.out HC7.out.size⟩
          have B8 := Sealed.mk (B7.out.below' hb)
          clear ht hb B7 H27 HC7 HT7 hc3 hf3
          have hc4 := B8.out.cell 4 rfl
          have hf4 := B8.out.free 4
          have B9 := Sealed.mk (B8.out.set 4 (.pointer (some ⟨a, 0, none⟩)))
          have hst := (Chg.refl wr.heap.size [80] w8).set B8.out GE5 (by simp) 4 (.pointer (some ⟨a, 0, none⟩))
          have HN9 := Sealed.mk (HN8.out.chg hst (by decide) (by decide))
          have HT9 := Sealed.mk (HT8.out.chg hst (by decide) (by decide))
          have HC9 := Sealed.mk (HC8.out.trans hst)
          clear hst HN8 HT8 HC8 B8
          go_wp2
          go_ret
          refine ⟨g5, n, a, rfl, WrSt.new B9.out (Nat.le_trans HS.out GE5) (by decide), trSt_less HN9.out HS5.out, trSt_less HT9.out HS7.out, ?_⟩
          exact ((HC.out.mono (Nat.le_refl _) (by simp)).trans (HC9.out.mono HS.out (fun _ h => h))).to_below
end Go.Proofs.Ytmdlhbhdlhjakaa
