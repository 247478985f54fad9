/- The contract of package inflate's inflater: fixed. -/
import Derived.Test.YtmdlhbhdlhjakaaInfF
set_option linter.unusedVariables false
set_option linter.unusedSimpArgs false
namespace Go.Proofs.Ytmdlhbhdlhjakaa
open Go.RowKit

set_option maxRecDepth 100000 in
set_option maxHeartbeats 2000000 in
theorem ifixed_ok {B : Nat} {w : World} {gx gr : Nat} {s : ByteArray} {most p : Nat} {o : List Nat} (h : InfSt B w gx gr s most p o) (hs : s.size ≤ 1000000000) (hm : most ≤ 100000000) (ho : o.length ≤ most) :
    Calls Try.prog 90 #[.pointer (some ⟨gx, 0, none⟩)] w (InfPost B gx gr s most (codedS s most litL distL (8 * s.size + 1) p o) w) := by
  have H := Sealed.mk h
  clear h
  go_enter Try.func90, Try.ntmps90
  go_wp2_with ((with_reducible refine gate_dst (N := 3) rfl ?_); refine ev_box (cs := nums .i64 (List.replicate 288 0)) (t := 111) ?hg ?hr ?_; (case hg => rfl); (case hr => first | (go_simp; done) | (go_simp; rfl)); intro g1 w1 hg1 hb1 hB1 hs1; have G1 := Sealed.mk hg1; have B1 := Sealed.mk hb1; have L1 := Sealed.mk hB1; clear hg1 hb1 hB1 hs1)
  have GE : w.heap.size ≤ g1 := by rw [G1.out]; exact Nat.le_refl _
  have HB1 : Sealed (IsBlk w1 g1 (nums .i64 (fillTo litF 288 0)) 111) := ⟨by rw [fillTo_zero]; exact B1.out⟩
  have HC1 : Sealed (Chg w.heap.size [] w w1) := ⟨Chg.of_below L1.out⟩
  clear G1 B1 L1
  go_loopg [4, 11] 288 (fun k s4 s11 w' => ∃ i : Nat, s11 = .int .i64 i ∧ Sealed (k = 288 - i) ∧ i ≤ 288 ∧ Sealed (IsBlk w' g1 (nums .i64 (fillTo litF 288 i)) 111) ∧ Sealed (Chg w.heap.size [] w w'))
  case atStart => exact ⟨0, rfl, ⟨rfl⟩, by omega, HB1, HC1⟩
  case round =>
    clear HB1 HC1
    obtain ⟨i, rfl, HK, hi, HB, HC⟩ := hrel
    by_cases hlt : i < 288
    · have hc := HB.out.cell i (nums_get (k := .i64) (by rw [fillTo_len]; exact hlt))
      have hf := HB.out.free i
      obtain ⟨x, hx⟩ : ∃ x, x = (fillTo litF 288 i).getD i 0 := ⟨_, rfl⟩
      rw [← hx] at hc
      clear hx
      by_cases h1 : i < 144
      · have HV : Sealed (litF i = 8) := ⟨by unfold litF; repeat' (first | omega | split)⟩
        have HN : Sealed (IsBlk (wr.setCell ⟨g1, i, none⟩ (.int .i64 8)) g1 (nums .i64 (fillTo litF 288 (i + 1))) 111) := ⟨by rw [← fillTo_set litF hlt, HV.out, ← nums_set]; exact HB.out.set i _⟩
        go_wp2
        go_roundg (288 - (i + 1))
        case measure => have := HK.out; omega
        case rel => exact ⟨i + 1, by go_num, ⟨rfl⟩, by omega, HN, ⟨HC.out.set_new GE _⟩⟩
      · by_cases h2 : 280 ≤ i
        · have HV : Sealed (litF i = 8) := ⟨by unfold litF; repeat' (first | omega | split)⟩
          have HN : Sealed (IsBlk (wr.setCell ⟨g1, i, none⟩ (.int .i64 8)) g1 (nums .i64 (fillTo litF 288 (i + 1))) 111) := ⟨by rw [← fillTo_set litF hlt, HV.out, ← nums_set]; exact HB.out.set i _⟩
          go_wp2
          go_roundg (288 - (i + 1))
          case measure => have := HK.out; omega
          case rel => exact ⟨i + 1, by go_num, ⟨rfl⟩, by omega, HN, ⟨HC.out.set_new GE _⟩⟩
        · by_cases h3 : i < 256
          · have HV : Sealed (litF i = 9) := ⟨by unfold litF; repeat' (first | omega | split)⟩
            have HN : Sealed (IsBlk (wr.setCell ⟨g1, i, none⟩ (.int .i64 9)) g1 (nums .i64 (fillTo litF 288 (i + 1))) 111) := ⟨by rw [← fillTo_set litF hlt, HV.out, ← nums_set]; exact HB.out.set i _⟩
            go_wp2
            go_roundg (288 - (i + 1))
            case measure => have := HK.out; omega
            case rel => exact ⟨i + 1, by go_num, ⟨rfl⟩, by omega, HN, ⟨HC.out.set_new GE _⟩⟩
          · have HV : Sealed (litF i = 7) := ⟨by unfold litF; repeat' (first | omega | split)⟩
            have HN : Sealed (IsBlk (wr.setCell ⟨g1, i, none⟩ (.int .i64 7)) g1 (nums .i64 (fillTo litF 288 (i + 1))) 111) := ⟨by rw [← fillTo_set litF hlt, HV.out, ← nums_set]; exact HB.out.set i _⟩
            go_wp2
            go_roundg (288 - (i + 1))
            case measure => have := HK.out; omega
            case rel => exact ⟨i + 1, by go_num, ⟨rfl⟩, by omega, HN, ⟨HC.out.set_new GE _⟩⟩
    · have hi2 : i = 288 := by omega
      subst hi2
      have HB2 : Sealed (IsBlk wr g1 (nums .i64 litL) 111) := ⟨by have h := HB.out; rw [fillTo_all] at h; exact h⟩
      clear hlt hi HB HK
      go_wp2_with ((with_reducible refine gate_dst (N := 5) rfl ?_); refine ev_box (cs := nums .i64 (List.replicate 32 0)) (t := 112) ?hg ?hr ?_; (case hg => rfl); (case hr => first | (go_simp; done) | (go_simp; rfl)); intro g3 w3 hg3 hb3 hB3 hs3; have G3 := Sealed.mk hg3; have B3 := Sealed.mk hb3; have L3 := Sealed.mk hB3; clear hg3 hb3 hB3 hs3)
      have GE3 : w.heap.size ≤ g3 := by rw [G3.out]; exact HC.out.size
      have HG13 : g1 ≠ g3 := by have := HB2.out.lt; rw [G3.out]; omega
      have HA3 : Sealed (IsBlk w3 g1 (nums .i64 litL) 111) := ⟨HB2.out.below' L3.out⟩
      have HB3 : Sealed (IsBlk w3 g3 (nums .i64 (fillTo (fun _ => 5) 32 0)) 112) := ⟨by rw [fillTo_zero]; exact B3.out⟩
      have HC3 : Sealed (Chg w.heap.size [] w w3) := ⟨HC.out.below_step L3.out⟩
      clear G3 B3 L3 HB2 HC
      go_loopg [6, 31] 32 (fun k s6 s31 w' => ∃ i : Nat, s31 = .int .i64 i ∧ Sealed (k = 32 - i) ∧ i ≤ 32 ∧ Sealed (IsBlk w' g1 (nums .i64 litL) 111) ∧ Sealed (IsBlk w' g3 (nums .i64 (fillTo (fun _ => 5) 32 i)) 112) ∧ Sealed (Chg w.heap.size [] w w'))
      case atStart => exact ⟨0, rfl, ⟨rfl⟩, by omega, HA3, HB3, HC3⟩
      case round =>
        clear HA3 HB3 HC3
        obtain ⟨i, rfl, HK, hi, HA, HB, HC⟩ := hrel
        by_cases hlt : i < 32
        · have hc := HB.out.cell i (nums_get (k := .i64) (by rw [fillTo_len]; exact hlt))
          have hf := HB.out.free i
          obtain ⟨x, hx⟩ : ∃ x, x = (fillTo (fun _ => 5) 32 i).getD i 0 := ⟨_, rfl⟩
          rw [← hx] at hc
          clear hx
          have HN : Sealed (IsBlk (wr.setCell ⟨g3, i, none⟩ (.int .i64 5)) g3 (nums .i64 (fillTo (fun _ => 5) 32 (i + 1))) 112) := ⟨by rw [← fillTo_set (fun _ => 5) hlt, ← nums_set]; exact HB.out.set i _⟩
          go_wp2
          go_roundg (32 - (i + 1))
          case measure => have := HK.out; omega
          case rel => exact ⟨i + 1, by go_num, ⟨rfl⟩, by omega, ⟨HA.out.far HG13 _⟩, HN, ⟨HC.out.set_new GE3 _⟩⟩
        · have hi2 : i = 32 := by omega
          subst hi2
          have HB2 : Sealed (IsBlk wr g3 (nums .i64 distL) 112) := ⟨by have h := HB.out; rw [fillTo_all] at h; exact h⟩
          have H1 : Sealed (InfSt B wr gx gr s most p o) := ⟨H.out.below HC.out.to_below⟩
          have C1 : Sealed (InfChg B w wr) := ⟨Chg.of_below HC.out.to_below⟩
          have HS1 : Sealed (Calls Try.prog 15 #[.slice (some ⟨g1, 0, none⟩) 288 288] wr fun e w'' => ∃ g, e = .returned (.tuple #[.pointer (some ⟨g, 0, none⟩), .int .i64 0]) ∧ TrSt wr.heap.size w'' g litL ∧ Below wr.heap.size wr w'') := ⟨by
            have h1 := new_good (cap := 288) (blk_reads HA.out (by rw [litL_ok.2.2]; decide)) (by rw [litL_ok.2.2]; decide) litL_ok.1 litL_ok.2.1
            rw [litL_ok.2.2] at h1
            exact h1⟩
          have HS2 : Sealed (∀ w', Below wr.heap.size wr w' → Calls Try.prog 15 #[.slice (some ⟨g3, 0, none⟩) 32 32] w' fun e w'' => ∃ g, e = .returned (.tuple #[.pointer (some ⟨g, 0, none⟩), .int .i64 0]) ∧ TrSt w'.heap.size w'' g distL ∧ Below w'.heap.size w' w'') := ⟨fun w' h => by
            have h1 := new_good (cap := 32) (blk_reads (HB2.out.below' h) (by rw [distL_ok.2.2]; decide)) (by rw [distL_ok.2.2]; decide) distL_ok.1 distL_ok.2.1
            rw [distL_ok.2.2] at h1
            exact h1⟩
          clear hlt hi HB HK H HC HA
          go_wp2_with fail
          refine HS1.out.mono ?_
          rintro e w4 ⟨gn, rfl, ht, hb⟩
          have HN4 := Sealed.mk ht
          have H4 := Sealed.mk (H1.out.below hb)
          have C4 : Sealed (InfChg B w w4) := ⟨C1.out.below_step hb⟩
          have HS4 := Sealed.mk (HS2.out _ hb)
          clear ht hb H1 C1 HS1 HS2
          go_wp2_with fail
          refine HS4.out.mono ?_
          rintro e w5 ⟨gf, rfl, ht, hb⟩
          have HF5 := Sealed.mk (trSt_less ht (Nat.zero_le _))
          have HN5 := Sealed.mk (trSt_less (HN4.out.later (T := []) (Chg.of_below hb)) (Nat.zero_le _))
          have H5 := Sealed.mk (H4.out.below hb)
          have C5 : Sealed (InfChg B w w5) := ⟨C4.out.below_step hb⟩
          clear ht hb H4 C4 HN4 HS4
          have HCO := Sealed.mk (coded_ok (8 * s.size + 1) H5.out HN5.out HF5.out hs (by rw [litL_ok.2.2]; decide) litL_ok.1 (by rw [litL_ok.2.2]; decide) (by rw [distL_ok.2.2]; decide) distL_ok.1 (by rw [distL_ok.2.2]; decide) hm ho (by omega))
          generalize codedS s most litL distL (8 * s.size + 1) p o = R at *
          go_wp2_with fail
          refine HCO.out.mono ?_
          rintro e w6 ⟨rfl, hc, hok⟩
          have C6 := Sealed.mk (C5.out.trans hc)
          have HOK := Sealed.mk hok
          clear hc hok HCO
          go_wp2
          go_ret
          exact ⟨rfl, C6.out, HOK.out⟩
end Go.Proofs.Ytmdlhbhdlhjakaa
