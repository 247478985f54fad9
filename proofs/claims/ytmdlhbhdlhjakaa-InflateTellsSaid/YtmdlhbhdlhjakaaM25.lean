/- The contract of package inflate's inflater: fixed. The contract of package inflate's inflater: heads. -/
import Derived.Test.YtmdlhbhdlhjakaaM24
set_option linter.unusedVariables false
set_option linter.unusedSimpArgs false
namespace Go.Proofs.Ytmdlhbhdlhjakaa
open Go.RowKit

set_option maxRecDepth 100000 in
set_option maxHeartbeats 2000000 in
theorem ifixed_ok {B : Nat} {w : World} {gx gr : Nat} {s : ByteArray} {most p : Nat} {o : List Nat} (h : InfSt B w gx gr s most p o) (hs : s.size ≤ 1000000000) (hm : most ≤ 100000000) (ho : o.length ≤ most) :
    Calls Try.prog 90 #[.pointer (some ⟨gx, 0, none⟩)] w (InfPost B gx gr s most (codedS s most litL distL (8 * s.size + 1) p o) w) := by
  have H := Sealed.mk h
  clear h
  go_enter Try.func90, Try.ntmps90
  go_wp2_with ((with_reducible refine gate_dst (N := 3) rfl ?_); refine ev_box (cs := nums .i64 (List.replicate 288 0)) (t := 111) ?hg ?hr ?_; (case hg => rfl); (case hr => first | (go_simp; done) | (go_simp; rfl)); intro g1 w1 hg1 hb1 hB1 hs1; have G1 := Sealed.mk hg1; have B1 := Sealed.mk hb1; have L1 := Sealed.mk hB1; clear hg1 hb1 hB1 hs1)
  have GE : w.heap.size ≤ g1 := by rw [G1.out]; exact Nat.le_refl _
  have HB1 : Sealed (IsBlk w1 g1 (nums .i64 (fillTo litF 288 0)) 111) := ⟨by rw [fillTo_zero]; exact B1.out⟩
  have HC1 : Sealed (Chg w.heap.size [] w w1) := ⟨Chg.of_below L1.out⟩
  clear G1 B1 L1
  go_loopg [4, 11] 288 (fun k s4 s11 w' => ∃ i : Nat, s11 = .int .i64 i ∧ Sealed (k = 288 - i) ∧ i ≤ 288 ∧ Sealed (IsBlk w' g1 (nums .i64 (fillTo litF 288 i)) 111) ∧ Sealed (Chg w.heap.size [] w w'))
  case atStart => exact ⟨0, rfl, ⟨rfl⟩, by omega, HB1, HC1⟩
  case round =>
    clear HB1 HC1
    obtain ⟨i, rfl, HK, hi, HB, HC⟩ := hrel
    by_cases hlt : i < 288
    · have hc := HB.out.cell i (nums_get (k := .i64) (by rw [fillTo_len]; exact hlt))
      have hf := HB.out.free i
      obtain ⟨x, hx⟩ : ∃ x, x = (fillTo litF 288 i).getD i 0 := ⟨_, rfl⟩
      rw [← hx] at hc
      clear hx
      by_cases h1 : i < 144
      · have HV : Sealed (litF i = 8) := ⟨by unfold litF; repeat' (first | omega | split)⟩
        have HN : Sealed (IsBlk (wr.setCell ⟨g1, i, none⟩ (.int .i64 8)) g1 (nums .i64 (fillTo litF 288 (i + 1))) 111) := ⟨by rw [← fillTo_set litF hlt, HV.out, ← nums_set]; exact HB.out.set i _⟩
        go_wp2
        go_roundg (288 - (i + 1))
        case measure => have := HK.out; omega
        case rel => exact ⟨i + 1, by go_num, ⟨rfl⟩, by omega, HN, ⟨HC.out.set_new GE _⟩⟩
      · by_cases h2 : 280 ≤ i
        · have HV : Sealed (litF i = 8) := ⟨by unfold litF; repeat' (first | omega | split)⟩
          have HN : Sealed (IsBlk (wr.setCell ⟨g1, i, none⟩ (.int .i64 8)) g1 (nums .i64 (fillTo litF 288 (i + 1))) 111) := ⟨by rw [← fillTo_set litF hlt, HV.out, ← nums_set]; exact HB.out.set i _⟩
          go_wp2
          go_roundg (288 - (i + 1))
          case measure => have := HK.out; omega
          case rel => exact ⟨i + 1, by go_num, ⟨rfl⟩, by omega, HN, ⟨HC.out.set_new GE _⟩⟩
        · by_cases h3 : i < 256
          · have HV : Sealed (litF i = 9) := ⟨by unfold litF; repeat' (first | omega | split)⟩
            have HN : Sealed (IsBlk (wr.setCell ⟨g1, i, none⟩ (.int .i64 9)) g1 (nums .i64 (fillTo litF 288 (i + 1))) 111) := ⟨by rw [← fillTo_set litF hlt, HV.out, ← nums_set]; exact HB.out.set i _⟩
            go_wp2
            go_roundg (288 - (i + 1))
            case measure => have := HK.out; omega
            case rel => exact ⟨i + 1, by go_num, ⟨rfl⟩, by omega, HN, ⟨HC.out.set_new GE _⟩⟩
          · have HV : Sealed (litF i = 7) := ⟨by unfold litF; repeat' (first | omega | split)⟩
            have HN : Sealed (IsBlk (wr.setCell ⟨g1, i, none⟩ (.int .i64 7)) g1 (nums .i64 (fillTo litF 288 (i + 1))) 111) := ⟨by rw [← fillTo_set litF hlt, HV.out, ← nums_set]; exact HB.out.set i _⟩
            go_wp2
            go_roundg (288 - (i + 1))
            case measure => have := HK.out; omega
            case rel => exact ⟨i + 1, by go_num, ⟨rfl⟩, by omega, HN, ⟨HC.out.set_new GE _⟩⟩
    · have hi2 : i = 288 := by omega
      subst hi2
      have HB2 : Sealed (IsBlk wr g1 (nums .i64 litL) 111) := ⟨by have h := HB.out; rw [fillTo_all] at h; exact h⟩
      clear hlt hi HB HK
      go_wp2_with ((with_reducible refine gate_dst (N := 5) rfl ?_); refine ev_box (cs := nums .i64 (List.replicate 32 0)) (t := 112) ?hg ?hr ?_; (case hg => rfl); (case hr => first | (go_simp; done) | (go_simp; rfl)); intro g3 w3 hg3 hb3 hB3 hs3; have G3 := Sealed.mk hg3; have B3 := Sealed.mk hb3; have L3 := Sealed.mk hB3; clear hg3 hb3 hB3 hs3)
      have GE3 : w.heap.size ≤ g3 := by rw [G3.out]; exact HC.out.size
      have HG13 : g1 ≠ g3 := by have := HB2.out.lt; rw [G3.out]; omega
      have HA3 : Sealed (IsBlk w3 g1 (nums .i64 litL) 111) := ⟨HB2.out.below' L3.out⟩
      have HB3 : Sealed (IsBlk w3 g3 (nums .i64 (fillTo (fun _ => 5) 32 0)) 112) := ⟨by rw [fillTo_zero]; exact B3.out⟩
      have HC3 : Sealed (Chg w.heap.size [] w w3) := ⟨HC.out.below_step L3.out⟩
      clear G3 B3 L3 HB2 HC
      go_loopg [6, 31] 32 (fun k s6 s31 w' => ∃ i : Nat, s31 = .int .i64 i ∧ Sealed (k = 32 - i) ∧ i ≤ 32 ∧ Sealed (IsBlk w' g1 (nums .i64 litL) 111) ∧ Sealed (IsBlk w' g3 (nums .i64 (fillTo (fun _ => 5) 32 i)) 112) ∧ Sealed (Chg w.heap.size [] w w'))
      case atStart => exact ⟨0, rfl, ⟨rfl⟩, by omega, HA3, HB3, HC3⟩
      case round =>
        clear HA3 HB3 HC3
        obtain ⟨i, rfl, HK, hi, HA, HB, HC⟩ := hrel
        by_cases hlt : i < 32
        · have hc := HB.out.cell i (nums_get (k := .i64) (by rw [fillTo_len]; exact hlt))
          have hf := HB.out.free i
          obtain ⟨x, hx⟩ : ∃ x, x = (fillTo (fun _ => 5) 32 i).getD i 0 := ⟨_, rfl⟩
          rw [← hx] at hc
          clear hx
          have HN : Sealed (IsBlk (wr.setCell ⟨g3, i, none⟩ (.int .i64 5)) g3 (nums .i64 (fillTo (fun _ => 5) 32 (i + 1))) 112) := ⟨by rw [← fillTo_set (fun _ => 5) hlt, ← nums_set]; exact HB.out.set i _⟩
          go_wp2
          go_roundg (32 - (i + 1))
          case measure => have := HK.out; omega
          case rel => exact ⟨i + 1, by go_num, ⟨rfl⟩, by omega, ⟨HA.out.far HG13 _⟩, HN, ⟨HC.out.set_new GE3 _⟩⟩
        · have hi2 : i = 32 := by omega
          subst hi2
          have HB2 : Sealed (IsBlk wr g3 (nums .i64 distL) 112) := ⟨by have h := HB.out; rw [fillTo_all] at h; exact h⟩
          have H1 : Sealed (InfSt B wr gx gr s most p o) := ⟨H.out.below HC.out.to_below⟩
          have C1 : Sealed (InfChg B w wr) := ⟨Chg.of_below HC.out.to_below⟩
          have HS1 : Sealed (Calls Try.prog 15 #[.slice (some ⟨g1, 0, none⟩) 288 288] wr fun e w'' => ∃ g, e = .returned (.tuple #[.pointer (some ⟨g, 0, none⟩), .int .i64 0]) ∧ TrSt wr.heap.size w'' g litL ∧ Below wr.heap.size wr w'') := ⟨by
            have h1 := new_good (cap := 288) (blk_reads HA.out (by rw [litL_ok.2.2]; decide)) (by rw [litL_ok.2.2]; decide) litL_ok.1 litL_ok.2.1
            rw [litL_ok.2.2] at h1
            exact h1⟩
          have HS2 : Sealed (∀ w', Below wr.heap.size wr w' → Calls Try.prog 15 #[.slice (some ⟨g3, 0, none⟩) 32 32] w' fun e w'' => ∃ g, e = .returned (.tuple #[.pointer (some ⟨g, 0, none⟩), .int .i64 0]) ∧ TrSt w'.heap.size w'' g distL ∧ Below w'.heap.size w' w'') := ⟨fun w' h => by
            have h1 := new_good (cap := 32) (blk_reads (HB2.out.below' h) (by rw [distL_ok.2.2]; decide)) (by rw [distL_ok.2.2]; decide) distL_ok.1 distL_ok.2.1
            rw [distL_ok.2.2] at h1
            exact h1⟩
          clear hlt hi HB HK H HC HA
          go_wp2_with fail
          refine HS1.out.mono ?_
          rintro e w4 ⟨gn, rfl, ht, hb⟩
          have HN4 := Sealed.mk ht
          have H4 := Sealed.mk (H1.out.below hb)
          have C4 : Sealed (InfChg B w w4) := ⟨C1.out.below_step hb⟩
          have HS4 := Sealed.mk (HS2.out _ hb)
          clear ht hb H1 C1 HS1 HS2
          go_wp2_with fail
          refine HS4.out.mono ?_
          rintro e w5 ⟨gf, rfl, ht, hb⟩
          have HF5 := Sealed.mk (trSt_less ht (Nat.zero_le _))
          have HN5 := Sealed.mk (trSt_less (HN4.out.later (T := []) (Chg.of_below hb)) (Nat.zero_le _))
          have H5 := Sealed.mk (H4.out.below hb)
          have C5 : Sealed (InfChg B w w5) := ⟨C4.out.below_step hb⟩
          clear ht hb H4 C4 HN4 HS4
          have HCO := Sealed.mk (coded_ok (8 * s.size + 1) H5.out HN5.out HF5.out hs (by rw [litL_ok.2.2]; decide) litL_ok.1 (by rw [litL_ok.2.2]; decide) (by rw [distL_ok.2.2]; decide) distL_ok.1 (by rw [distL_ok.2.2]; decide) hm ho (by omega))
          generalize codedS s most litL distL (8 * s.size + 1) p o = R at *
          go_wp2_with fail
          refine HCO.out.mono ?_
          rintro e w6 ⟨rfl, hc, hok⟩
          have C6 := Sealed.mk (C5.out.trans hc)
          have HOK := Sealed.mk hok
          clear hc hok HCO
          go_wp2
          go_ret
          exact ⟨rfl, C6.out, HOK.out⟩
end Go.Proofs.Ytmdlhbhdlhjakaa

namespace Go.Proofs.Ytmdlhbhdlhjakaa
open Go.RowKit

theorem idx_order (k : Nat) (hk : k < 19) (w : World) : (Instr.index 158 (.agg (nums .i64 orderI).toArray) (.int .i64 (k : Int))).run Try.prog w = .ok (.int .i64 (orderL.getD k 0 : Nat)) w :=
  match k, hk with
  | 0, _ => by kernel_rfl
  | 1, _ => by kernel_rfl
  | 2, _ => by kernel_rfl
  | 3, _ => by kernel_rfl
  | 4, _ => by kernel_rfl
  | 5, _ => by kernel_rfl
  | 6, _ => by kernel_rfl
  | 7, _ => by kernel_rfl
  | 8, _ => by kernel_rfl
  | 9, _ => by kernel_rfl
  | 10, _ => by kernel_rfl
  | 11, _ => by kernel_rfl
  | 12, _ => by kernel_rfl
  | 13, _ => by kernel_rfl
  | 14, _ => by kernel_rfl
  | 15, _ => by kernel_rfl
  | 16, _ => by kernel_rfl
  | 17, _ => by kernel_rfl
  | 18, _ => by kernel_rfl
  | k + 19, h => by omega
theorem order_lt : ∀ k, k < 19 → orderL.getD k 0 < 19 := by decide
def HeadPost (B : Nat) (gx gr : Nat) (s : ByteArray) (most : Nat) (o : List Nat) (R : Except Nat (List Int × Nat)) (w : World) (e : Ending) (w' : World) : Prop :=
  InfChg B w w' ∧ match R with
  | .error er => e = .returned (.tuple #[.pointer none, .int .i64 er]) ∧ 1 ≤ er
  | .ok (tl, q) => ∃ g, e = .returned (.tuple #[.pointer (some ⟨g, 0, none⟩), .int .i64 0]) ∧ TrSt 0 w' g tl ∧ InfSt B w' gx gr s most q o ∧ tl.length = 19
def headEnd : Except Nat (List Int × Nat) → Except Nat (List Int × Nat)
  | .error e => .error e
  | .ok (l, q) => if checkOf l ≠ 0 then .error 4 else .ok (l, q)
theorem headsS_eq (s : ByteArray) (many p : Nat) : headsS s many p = headEnd (headFrom s many 0 p (List.replicate 19 0)) := by
  unfold headsS headEnd
  generalize headFrom s many 0 p (List.replicate 19 0) = x
  cases x <;> rfl
theorem headFrom_e {s : ByteArray} {k i p e : Nat} {l : List Int} (h : getS s p 3 = .error e) : headFrom s (k + 1) i p l = .error e := by rw [headFrom, h]
theorem headFrom_go {s : ByteArray} {k i p n q : Nat} {l : List Int} (h : getS s p 3 = .ok (n, q)) : headFrom s (k + 1) i p l = headFrom s k (i + 1) q (l.set (orderL.getD i 0) (n : Int)) := by rw [headFrom, h]
set_option maxRecDepth 100000 in
set_option maxHeartbeats 2000000 in
theorem iheads_ok {B : Nat} {w : World} {gx gr : Nat} {s : ByteArray} {most p : Nat} {o : List Nat} (h : InfSt B w gx gr s most p o) (hs : s.size ≤ 1000000000) (many : Nat) (hmany : many ≤ 19) {M : Int} (hM : M = (many : Int)) :
    Calls Try.prog 116 #[.pointer (some ⟨gx, 0, none⟩), .int .i64 M] w (HeadPost B gx gr s most o (headsS s many p) w) := by
  subst hM
  obtain ⟨R1, hR1⟩ : ∃ R1, R1 = headFrom s many 0 p (List.replicate 19 0) := ⟨_, rfl⟩
  rw [headsS_eq, ← hR1]
  have HR1 := Sealed.mk hR1
  have H := Sealed.mk h
  have HS : Sealed (s.size ≤ 140737488355328) := ⟨by omega⟩
  have HIX := Sealed.mk idx_order
  have HOR := Sealed.mk (iorder_any)
  generalize (nums .i64 orderI).toArray = OA at *
  clear h hR1
  go_enter Try.func116, Try.ntmps116
  go_wp2_with ((with_reducible refine gate_dst (N := 6) rfl ?_); refine ev_box (cs := nums .i64 (List.replicate 19 0)) (t := 158) ?hg ?hr ?_; (case hg => rfl); (case hr => first | (go_simp; done) | (go_simp; rfl)); intro g1 w1 hg1 hb1 hB1 hs1; have G1 := Sealed.mk hg1; have B1 := Sealed.mk hb1; have L1 := Sealed.mk hB1; clear hg1 hb1 hB1 hs1)
  have GE : w.heap.size ≤ g1 := by rw [G1.out]; exact Nat.le_refl _
  refine (HOR.out _).mono ?_
  rintro e w2 ⟨rfl, hb⟩
  have B2 := Sealed.mk (B1.out.below' hb)
  have H2 := Sealed.mk ((H.out.below L1.out).below hb)
  have C2 : Sealed (InfChg B w w2) := ⟨(Chg.of_below L1.out).below_step hb⟩
  clear hb G1 B1 L1 H
  go_wp2
  go_loopg [7, 8, 9, 10, 12] many (fun k s7 s8 s9 s10 s12 w' => ∃ (i q : Nat) (l : List Int), s12 = .int .i64 i ∧ i ≤ many ∧ Sealed (k = many - i) ∧ Sealed (InfSt B w' gx gr s most q o) ∧ Sealed (IsBlk w' g1 (nums .i64 l) 158) ∧ Sealed (l.length = 19) ∧ Sealed (headFrom s (many - i) i q l = R1) ∧ Sealed (InfChg B w w'))
  case atStart => exact ⟨0, p, List.replicate 19 0, rfl, by omega, ⟨rfl⟩, H2, B2, ⟨rfl⟩, ⟨HR1.out.symm⟩, C2⟩
  case round =>
    clear H2 B2 C2 HR1
    obtain ⟨i, q, l, rfl, hi, HK, H, HB, HL, HE, HC⟩ := hrel
    by_cases hlt : i < many
    · have hge : decide (many ≤ i) = false := decide_eq_false (by omega)
      have hi19 : i < 19 := by omega
      have hix := fun w => HIX.out i hi19 w
      have hol := order_lt i hi19
      obtain ⟨K, hK⟩ : ∃ K, K = orderL.getD i 0 := ⟨_, rfl⟩
      have HKO := Sealed.mk hK
      rw [← hK] at hix hol
      have hkI : (K : Int) < 19 := by omega
      obtain ⟨A3, c3, hb3, _⟩ := H.out.parts
      have x3 := hb3.cell 0 rfl
      clear hb3 hK
      go_wp2_with fail
      refine (get_any H.out.rd HS.out 3 (by omega)).mono ?_
      rintro e w3 ⟨rfl, hc, hr⟩
      have H3 := Sealed.mk (H.out.read hr hc)
      have C3 : Sealed (InfChg B w w3) := ⟨HC.out.trans (hc.mono H.out.2.1 (by simp))⟩
      have HB3 := Sealed.mk (HB.out.chg hc (.inr (by decide)))
      clear hc hr H HC HB x3 hix
      have hmi : many - i = (many - (i + 1)) + 1 := by omega
      have he := HE.out
      rw [hmi] at he
      clear hmi
      cases h1 : getS s q 3 with
      | error e1 =>
        have HE2 : Sealed (R1 = .error 5) := ⟨by rw [← he, headFrom_e h1, getS_err h1]⟩
        obtain rfl := getS_err h1
        simp only [valOf, errOf]
        clear h1 he HE
        go_wp2
        go_ret2
        rw [HE2.out]
        exact ⟨C3.out, rfl, by omega⟩
      | ok r1 =>
        obtain ⟨n, q1⟩ := r1
        rw [headFrom_go h1, ← HKO.out] at he
        rw [h1] at H3
        have HE2 := Sealed.mk he
        simp only [valOf, errOf, posOf] at H3 ⊢
        clear h1 he HE
        have xk := HB3.out.cell K (nums_get (k := .i64) (by rw [HL.out]; exact hol))
        have fk := HB3.out.free K
        have HN : Sealed (IsBlk (w3.setCell ⟨g1, K, none⟩ (.int .i64 n)) g1 (nums .i64 (l.set K (n : Int))) 158) := ⟨by rw [← nums_set]; exact HB3.out.set K _⟩
        have HST : Sealed (Chg g1 [158] w3 (w3.setCell ⟨g1, K, none⟩ (.int .i64 n))) := ⟨(Chg.refl g1 [158] w3).set HB3.out (Nat.le_refl _) (by simp) K _⟩
        obtain ⟨x, hx⟩ : ∃ x, x = l.getD K 0 := ⟨_, rfl⟩
        rw [← hx] at xk
        clear hx
        go_wp2
        go_roundg (many - (i + 1))
        case measure => have := HK.out; omega
        case rel => exact ⟨i + 1, q1, l.set K (n : Int), by go_num, hlt, ⟨rfl⟩, ⟨H3.out.chg HST.out (by decide) (by decide) (by decide)⟩, HN, ⟨by rw [List.length_set]; exact HL.out⟩, HE2, ⟨C3.out.set_new GE _⟩⟩
    · obtain rfl : i = many := by omega
      have HE2 : Sealed (R1 = .ok (l, q)) := ⟨by have h := HE.out; rw [Nat.sub_self, headFrom] at h; exact h.symm⟩
      have hge : decide (i ≤ i) = true := decide_eq_true (by omega)
      have HRD := Sealed.mk (blk_reads HB.out (by rw [HL.out]; decide))
      have HCK : Sealed (Calls Try.prog 41 #[.slice (some ⟨g1, 0, none⟩) 19 19] wr fun e w' => e = .returned (.int .i64 (checkOf l)) ∧ Below wr.heap.size wr w') := ⟨by
        have h := check_any (some ⟨g1, 0, none⟩) 19 l wr HRD.out
        rw [HL.out] at h; exact h⟩
      clear hlt HE HK
      by_cases hck : checkOf l = 0
      · have hne : ((checkOf l : Int) != 0) = false := by rw [hck]; rfl
        have HM : Sealed (mayOf (checkOf l) = 0) := ⟨by rw [hck]; decide⟩
        have HNW : Sealed (∀ w', Below wr.heap.size wr w' → Calls Try.prog 15 #[.slice (some ⟨g1, 0, none⟩) 19 19] w' fun e w'' => ∃ g, e = .returned (.tuple #[.pointer (some ⟨g, 0, none⟩), .int .i64 0]) ∧ TrSt w'.heap.size w'' g l ∧ Below w'.heap.size w' w'') := ⟨fun w' h => by
          have h1 := new_good (cap := 19) (HRD.out.below h) (by rw [HL.out]; decide) (may_zero (by rw [HL.out]; decide) HM.out) HM.out
          rw [HL.out] at h1
          exact h1⟩
        have HE3 : Sealed (headEnd R1 = .ok (l, q)) := ⟨by rw [HE2.out, headEnd, if_neg (by simpa using hck)]⟩
        rw [hck] at HCK
        clear hck hne
        by_cases h19 : i < 19
        · have hix := fun w => HIX.out i h19 w
          go_wp2_with fail
          refine HCK.out.mono ?_
          rintro e w4 ⟨rfl, hb⟩
          have H4 := Sealed.mk (H.out.below hb)
          have C4 : Sealed (InfChg B w w4) := ⟨HC.out.below_step hb⟩
          have HN4 := Sealed.mk (HNW.out _ hb)
          clear hb H HC HCK HNW
          go_wp2_with fail
          refine HN4.out.mono ?_
          rintro e w5 ⟨g, rfl, ht, hb⟩
          have HT5 := Sealed.mk (trSt_less ht (Nat.zero_le _))
          have H5 := Sealed.mk (H4.out.below hb)
          have C5 : Sealed (InfChg B w w5) := ⟨C4.out.below_step hb⟩
          clear ht hb H4 C4 HN4
          go_wp2
          go_ret2
          rw [HE3.out]
          exact ⟨C5.out, g, rfl, HT5.out, H5.out, HL.out⟩
        · have h19' : decide ((i : Int) < 19) = false := decide_eq_false (by omega)
          go_wp2_with fail
          refine HCK.out.mono ?_
          rintro e w4 ⟨rfl, hb⟩
          have H4 := Sealed.mk (H.out.below hb)
          have C4 : Sealed (InfChg B w w4) := ⟨HC.out.below_step hb⟩
          have HN4 := Sealed.mk (HNW.out _ hb)
          clear hb H HC HCK HNW
          go_wp2_with fail
          refine HN4.out.mono ?_
          rintro e w5 ⟨g, rfl, ht, hb⟩
          have HT5 := Sealed.mk (trSt_less ht (Nat.zero_le _))
          have H5 := Sealed.mk (H4.out.below hb)
          have C5 : Sealed (InfChg B w w5) := ⟨C4.out.below_step hb⟩
          clear ht hb H4 C4 HN4
          go_wp2
          go_ret2
          rw [HE3.out]
          exact ⟨C5.out, g, rfl, HT5.out, H5.out, HL.out⟩
      · have hne : ((checkOf l : Int) != 0) = true := by simpa using hck
        have HE3 : Sealed (headEnd R1 = .error 4) := ⟨by rw [HE2.out, headEnd, if_pos (by simpa using hck)]⟩
        clear hck
        generalize checkOf l = ck at *
        by_cases h19 : i < 19
        · have hix := fun w => HIX.out i h19 w
          go_wp2_with fail
          refine HCK.out.mono ?_
          rintro e w4 ⟨rfl, hb⟩
          have C4 : Sealed (InfChg B w w4) := ⟨HC.out.below_step hb⟩
          clear hb H HC HCK
          go_wp2
          go_ret2
          rw [HE3.out]
          exact ⟨C4.out, rfl, by omega⟩
        · have h19' : decide ((i : Int) < 19) = false := decide_eq_false (by omega)
          go_wp2_with fail
          refine HCK.out.mono ?_
          rintro e w4 ⟨rfl, hb⟩
          have C4 : Sealed (InfChg B w w4) := ⟨HC.out.below_step hb⟩
          clear hb H HC HCK
          go_wp2
          go_ret2
          rw [HE3.out]
          exact ⟨C4.out, rfl, by omega⟩
end Go.Proofs.Ytmdlhbhdlhjakaa
