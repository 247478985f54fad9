/- The contracts of the document's answer's rows of bits: Align, Text; of its codes that are fixed. The contract of package squeeze's finder: pass. -/
import Derived.Test.YtmdlhbhdlhjakaaM39
set_option linter.unusedVariables false
set_option linter.unusedSimpArgs false
namespace Go.Proofs.Ytmdlhbhdlhjakaa
open Go.RowKit

theorem lf_zeros (l : List Nat) (z i : Nat) : lf (l ++ List.replicate z 0) i = lf l i := by
  by_cases h : i < l.length
  · exact lf_left h
  · rw [lf_past (l := l) (by omega)]
    obtain ⟨j, rfl⟩ : ∃ j, i = l.length + j := ⟨i - l.length, by omega⟩
    rw [lf_right]
    simp only [lf, List.getD_eq_getElem?_getD, List.getElem?_replicate]
    split <;> rfl
theorem rowOf_zeros (l : List Nat) (z n : Nat) : rowOf (l ++ List.replicate z 0) n = rowOf l n :=
  List.map_congr_left fun i _ => by rw [val_congr 8 (fun j _ => lf_zeros l z (8 * i + j))]
def alignL (l : List Nat) : List Nat := l ++ List.replicate (alignZeros l.length) 0
theorem alignL_len (l : List Nat) : (alignL l).length = 8 * ((l.length + 7) / 8) := by
  unfold alignL alignZeros; rw [List.length_append, List.length_replicate]; omega
theorem alignL_text (l : List Nat) : textOf l = strOfNums (rowOf (alignL l) ((l.length + 7) / 8)) := by
  unfold alignL; rw [rowOf_zeros]; rfl
theorem alignL_bits {l : List Nat} (h : IsBits (lf l)) : IsBits (lf (alignL l)) := fun i => by unfold alignL; rw [lf_zeros]; exact h i
set_option maxRecDepth 100000 in
theorem ralign {w : World} {A : Option Addr} {cap : Nat} {l : List Nat} (hr : Reads w .i64 A (castL l)) (hl : l.length ≤ 1000000000) :
    Calls Try.prog 88 #[.slice A l.length cap] w fun e w' => ∃ A' c', e = .returned (.slice A' (alignL l).length c') ∧ Reads w' .i64 A' (castL (alignL l)) ∧ Below w.heap.size w w' := by
  have hlen : (alignL l).length = l.length + alignZeros l.length := by unfold alignL; rw [List.length_append, List.length_replicate]
  rw [hlen]
  obtain ⟨z, hz⟩ : ∃ z, z = alignZeros l.length := ⟨_, rfl⟩
  have HA : Sealed (alignL l = l ++ List.replicate z 0) := ⟨by rw [hz]; rfl⟩
  rw [← hz, HA.out]
  unfold alignZeros at hz
  have hz8 : z ≤ 7 := by omega
  have HZ := Sealed.mk hz
  have HR := Sealed.mk hr
  have HL := castL_len l
  have HLL := Sealed.mk HL
  clear hlen hz hr HL HA
  go_enter Try.func88, Try.ntmps88
  go_wp2_with (first
    | ((with_reducible refine gate_dst (N := 4) rfl ?_); refine ev_lit (cs := []) (t := 3) (n := 0) ?hg ?hr ?_; (case hg => rfl); (case hr => first | (go_simp; done) | (go_simp; rfl)); intro g1 w2 hg1 hb1 hB1 hs1; have G1 := Sealed.mk hg1; have L2 := Sealed.mk hB1; have HO2 : Sealed (w2.ownsRow w.heap.size 3 1 (.slice (some ⟨g1, 0, none⟩) 0 0) 0 (nums .i64 (castL []))) := ⟨hb1.owns (by rw [G1.out]; exact Nat.le_refl _) (by decide)⟩; have HR2 := Sealed.mk (HR.out.below hB1); clear hg1 hb1 hB1 hs1)
    | ((with_reducible refine gate_dst (N := 6) rfl ?_); refine wp_app_row w.heap.size rfl (.tmp 4) (.tmp 5) 22 3 .i64 8 rfl Try.underlying22 info_i64 (by decide) _ 0 _ (castL l) A cap rfl (by rw [HLL.out]; rfl) HO2.out HR2.out L2.out.size (by rw [HLL.out]; omega) ?_; intro v4 w4 ho4 hg4; have HO4 : Sealed (w4.ownsRow w.heap.size 3 1 v4 l.length (nums .i64 (castL l))) := ⟨by have h := ho4; rw [HLL.out, Nat.zero_add] at h; exact h⟩; obtain ⟨A4, c4, hv4⟩ := own_slice HO4.out; subst hv4; have HC4 : Sealed (Chg w.heap.size [3] w w4) := ⟨(Chg.of_below L2.out).grown HO2.out (Nat.le_refl _) (by simp) hg4⟩; clear ho4 hg4))
  go_loopg [3] z (fun k s3 w' => ∃ (i : Nat) (A3 : Option Addr) (c3 : Nat), s3 = .slice A3 (l.length + i) c3 ∧ i ≤ z ∧ Sealed (k = z - i) ∧ Sealed (w'.ownsRow w.heap.size 3 1 (.slice A3 (l.length + i) c3) (l.length + i) (nums .i64 (castL (l ++ List.replicate i 0)))) ∧ Sealed (Chg w.heap.size [3] w w'))
  case atStart => exact ⟨0, A4, c4, rfl, by omega, ⟨rfl⟩, ⟨by simpa using HO4.out⟩, HC4⟩
  case round =>
    clear HO4 HC4
    obtain ⟨i, A3, c3, rfl, hi, HK, HO, HC⟩ := hrel
    by_cases hlt : i < z
    · have hlt' : decide (0 < ((l.length : Int) + (i : Int)) % 8) = true := decide_eq_true (by have := HZ.out; omega)
      have HS : Sealed (w.heap.size ≤ wr.heap.size) := ⟨HC.out.size⟩
      go_wp2_with ((with_reducible refine gate_dst (N := 13) rfl ?_); refine wp_app1 w.heap.size rfl (.tmp 11) (.tmp 12) 22 3 (.int .i64 0) 8 rfl Try.underlying22 info_i64 rfl (by decide) _ (l.length + i) _ _ rfl rfl rfl HO.out HS.out (by omega) ?_; intro v4 w4 ho4 hg4; have HO4 := Sealed.mk ho4; have HG4 := Sealed.mk hg4; obtain ⟨A4, c4, hv4⟩ := own_slice HO4.out; subst hv4; clear ho4 hg4)
      go_roundg (z - (i + 1))
      case measure => have := HK.out; omega
      case rel =>
        refine ⟨i + 1, A4, c4, rfl, hlt, ⟨rfl⟩, ⟨?_⟩, ⟨HC.out.grown HO.out (Nat.le_refl _) (by simp) HG4.out⟩⟩
        have ho := HO4.out
        rw [List.replicate_succ', ← List.append_assoc, castL_snoc, nums_snoc, ← Nat.add_assoc]
        exact ho
    · obtain rfl : i = z := by omega
      have hlt' : decide (0 < ((l.length : Int) + (i : Int)) % 8) = false := decide_eq_false (by have := HZ.out; omega)
      go_wp2
      go_ret
      exact ⟨A3, c3, rfl, own_reads HO.out, HC.out.to_below⟩

set_option maxRecDepth 100000 in
set_option maxHeartbeats 1000000 in
theorem rtext {w : World} {A : Option Addr} {cap : Nat} {l : List Nat} (hr : Reads w .i64 A (castL l)) (hl : l.length ≤ 900000000) (hb : IsBits (lf l)) :
    Calls Try.prog 61 #[.slice A l.length cap] w fun e w' => e = .returned (.string (textOf l)) ∧ Below w.heap.size w w' := by
  have H1 := Sealed.mk (ralign (cap := cap) hr (by omega))
  have HB := Sealed.mk (alignL_bits hb)
  rw [alignL_text]
  obtain ⟨q, hq⟩ : ∃ q, q = (l.length + 7) / 8 := ⟨_, rfl⟩
  have hlen := alignL_len l
  rw [← hq] at hlen ⊢
  have hq2 : q ≤ 120000000 := by omega
  generalize alignL l = L at *
  have HLEN := Sealed.mk hlen
  rw [hlen] at H1
  clear hr hb hlen hq
  go_enter Try.func61, Try.ntmps61
  go_wp2_with fail
  refine H1.out.mono ?_
  rintro e w1 ⟨A1, c1, rfl, h1, h2⟩
  have R1 := Sealed.mk h1
  have B1 := Sealed.mk h2
  clear h1 h2
  go_wp2_with ((with_reducible refine gate_dst (N := 9) rfl ?_); refine ev_lit (cs := []) (t := 5) (n := 0) ?hg ?hr ?_; (case hg => rfl); (case hr => first | (go_simp; done) | (go_simp; rfl)); intro g1 w2 hg1 hb1 hB1 hs1; have G1 := Sealed.mk hg1; have L2 := Sealed.mk hB1; have HO2 : Sealed (w2.ownsRow w1.heap.size 5 1 (.slice (some ⟨g1, 0, none⟩) 0 0) 0 (nums .u8 (rowOf L 0))) := ⟨hb1.owns (by rw [G1.out]; exact Nat.le_refl _) (by decide)⟩; have HC2 : Sealed (Chg w1.heap.size [5] w1 w2) := ⟨Chg.of_below hB1⟩; clear hg1 hb1 hB1 hs1)
  go_loopg [3, 4, 5, 6] q (fun k s3 s4 s5 s6 w' => ∃ i : Nat, s4 = .int .i64 (8 * (i : Int)) ∧ i ≤ q ∧ Sealed (k = q - i) ∧ Sealed (w'.ownsRow w1.heap.size 5 1 s3 i (nums .u8 (rowOf L i))) ∧ Sealed (Chg w1.heap.size [5] w1 w'))
  case atStart => exact ⟨0, rfl, by omega, ⟨rfl⟩, HO2, HC2⟩
  case round =>
    clear HO2 HC2
    obtain ⟨i, rfl, hi, HK, HO, HC⟩ := hrel
    by_cases hlt : i < q
    · have hlt' : decide (8 * (i : Int) < 8 * (q : Int)) = true := decide_eq_true (by omega)
      have hR := R1.out.chg HC.out (Nat.le_refl _)
      obtain ⟨ad, hA, _⟩ := hR.cell (8 * i) (by rw [castL_len, HLEN.out]; omega)
      subst hA
      have HR := Sealed.mk hR
      clear hR
      obtain ⟨wo, rfl⟩ : ∃ wo : World, wo = wr := ⟨_, rfl⟩
      go_wp2
      go_loopg [5, 6] 8 (fun k s5 s6 w' => ∃ (t n : Nat) (J : Int), s5 = .int .i64 n ∧ s6 = .int .i64 J ∧ Sealed (J = (t : Int) - 1) ∧ -1 ≤ J ∧ J ≤ 7 ∧ Sealed (k = t) ∧ n ≤ 255 ∧ Sealed (n = val (lf L) (8 * i + t) (8 - t)) ∧ w' = wo)
      case atStart => exact ⟨8, 0, 7, rfl, rfl, ⟨rfl⟩, by omega, by omega, ⟨rfl⟩, by omega, ⟨rfl⟩, rfl⟩
      case round =>
        obtain ⟨t, n, J, rfl, rfl, HJ, hJ0, hJ1, HKt, hn, HN, rfl⟩ := hrel
        by_cases hj : 0 ≤ J
        · have hj' : decide (0 ≤ J) = true := decide_eq_true hj
          obtain ⟨t, rfl⟩ : ∃ t', t = t' + 1 := ⟨t - 1, by have := HJ.out; omega⟩
          have hJt : Sealed (J = (t : Int)) := ⟨by have := HJ.out; omega⟩
          obtain ⟨ad', e', hc⟩ := HR.out.cell (8 * i + t) (by rw [castL_len, HLEN.out]; have := hJt.out; omega)
          injection e' with e'
          subst e'
          have hbit := HB.out (8 * i + t)
          have hget : (castL L).getD (8 * i + t) 0 = ((lf L (8 * i + t) : Nat) : Int) := by simp [castL, lf, List.getD_eq_getElem?_getD, List.getElem?_map]; cases L[8 * i + t]? <;> rfl
          rw [hget] at hc
          have hv : 2 * n + lf L (8 * i + t) = val (lf L) (8 * i + t) (8 - t) := by
            rw [HN.out, show 8 - t = 1 + (8 - (t + 1)) by have := hJt.out; omega, val_add, val_one, Nat.add_assoc (8 * i) t 1]; omega
          have hvb : val (lf L) (8 * i + t) (8 - t) ≤ 255 := by
            have h1 := val_lt HB.out (8 * i + t) (8 - t)
            have h2 : 2 ^ (8 - t) ≤ 2 ^ 8 := Nat.pow_le_pow_right (by decide) (by omega)
            omega
          have HV := Sealed.mk hv
          have HVB := Sealed.mk hvb
          have hix : 0 ≤ 8 * (i : Int) + J := by omega
          have hix2 : 8 * (i : Int) + J < 8 * (q : Int) := by omega
          have hixn : (8 * (i : Int) + J).toNat = 8 * i + t := by have := hJt.out; omega
          generalize lf L (8 * i + t) = bt at *
          clear hget hv hvb
          go_wp2
          go_roundg t
          case measure => have := HKt.out; omega
          case rel => exact ⟨t, 2 * n + bt, J - 1, by go_num, rfl, ⟨by have := hJt.out; omega⟩, by omega, by omega, ⟨rfl⟩, by have := HV.out; have := HVB.out; omega, HV, rfl⟩
        · have hj' : decide (0 ≤ J) = false := decide_eq_false hj
          have HN2 : Sealed (n = val (lf L) (8 * i) 8) := ⟨by have h := HN.out; have h0 : t = 0 := (by have := HJ.out; omega); rw [h0] at h; exact h⟩
          have HS : Sealed (w1.heap.size ≤ wr.heap.size) := ⟨HC.out.size⟩
          have hu8 : IntKind.u8.wrap (n : Int) = (n : Int) := by rw [IntKind.wrap_u8]; omega
          go_wp2_with ((with_reducible refine gate_dst (N := 33) rfl ?_); refine wp_app1 w1.heap.size rfl (.tmp 29) (.tmp 32) 41 5 (.int .u8 0) 1 rfl Try.underlying41 info_u8 rfl (by decide) _ i _ (.int .u8 (n : Int)) rfl rfl rfl HO.out HS.out (by omega) ?_; intro v4 w4 ho4 hg4; have HO4 := Sealed.mk ho4; have HG4 := Sealed.mk hg4; clear ho4 hg4)
          go_roundg (q - (i + 1))
          case measure => have := HK.out; omega
          case rel =>
            refine ⟨i + 1, by go_num, hlt, ⟨rfl⟩, ⟨?_⟩, ⟨HC.out.grown HO.out (Nat.le_refl _) (by simp) HG4.out⟩⟩
            rw [rowOf_succ, nums_snoc, ← HN2.out]
            exact HO4.out
    · obtain rfl : i = q := by omega
      have hlt' : decide (8 * (i : Int) < 8 * (i : Int)) = false := decide_eq_false (by omega)
      obtain ⟨A5, c5, hv5⟩ := own_slice HO.out
      subst hv5
      have hcv := run_own_string (P := Try.prog) (src := 41) (dst := 9) Try.underlying41 Try.underlying5 Try.underlying9 HO.out
      go_wp2
      go_ret
      exact ⟨rfl, B1.out.trans (HC.out.to_below.mono B1.out.size)⟩
end Go.Proofs.Ytmdlhbhdlhjakaa

namespace Go.Proofs.Ytmdlhbhdlhjakaa
open Go.RowKit

/-- The finder has noted all places ahead of d. -/
def FSt (B : Nat) (w : World) (gf gm : Nat) (s : ByteArray) (d : Nat) : Prop := ∃ v, FS B w gf gm s v d (nextL s d) d (fun x => lastOf s x d)
theorem FSt.fin {B : Nat} {w : World} {gf gm : Nat} {s : ByteArray} {v : Value} {d n : Nat} {L : List Int} {f : Nat → Option Nat} (h : FS B w gf gm s v d L n f) (hL : L = nextL s d) (hn : n ≤ d) (hf : ∀ x, f x = lastOf s x d) : FSt B w gf gm s d := by
  subst hL
  obtain ⟨h1, h2, h3, h4, h5, h6⟩ := h
  exact ⟨v, h1, h2, h3, h4, h5, (h6.mono hn).congr hf⟩
set_option maxRecDepth 100000 in
set_option maxHeartbeats 1000000 in
theorem pass_any {B : Nat} {w : World} {gf gm : Nat} {s : ByteArray} {d : Nat} (m : Nat) (h : FSt B w gf gm s d) (hd : d ≤ m) (hto : m ≤ s.size) (hs : s.size ≤ 1000000000) :
    Calls Try.prog 80 #[.pointer (some ⟨gf, 0, none⟩), .int .i64 m] w fun e w' => e = .returned (.tuple #[]) ∧ FSt B w' gf gm s m ∧ ChgW B [84, 3] w w' := by
  have H := Sealed.mk h
  clear h
  go_enter Try.func80, Try.ntmps80
  go_wp2
  go_loopg [] (m - d) (fun k w' => ∃ i : Nat, i ≤ m ∧ Sealed (k = m - i) ∧ Sealed (FSt B w' gf gm s i) ∧ Sealed (ChgW B [84, 3] w w'))
  case atStart => exact ⟨d, hd, ⟨rfl⟩, H, ⟨ChgW.refl _ _ _⟩⟩
  case round =>
    clear H hd
    obtain ⟨i, hi, HK, HF, HC⟩ := hrel
    obtain ⟨v, hf⟩ := HF.out
    have h3 := hf.blk.cell 3 rfl
    have h2 := hf.blk.cell 2 rfl
    have hl := nextL_len s i
    by_cases hlt : i < m
    · have hlt' : decide (i < m) = true := decide_eq_true hlt
      obtain ⟨A0, c0, hv⟩ := own_slice hf.own
      subst hv
      have ho := hf.own
      have hB := hf.2.2.1
      have HFS := Sealed.mk hf
      have ho' := ho
      rw [hl] at ho'
      have HO := Sealed.mk ho'
      have HL := Sealed.mk hl
      have HBW := Sealed.mk hB
      have HI : Sealed (i ≤ 1000000000) := ⟨by omega⟩
      rw [hl] at h2
      clear hf ho ho' hB hl HF
      have ew3 : IntKind.i64.wrap ((i : Int) + 3) = (i : Int) + 3 := by rw [IntKind.wrap_i64]; omega
      by_cases hb : s.size < i + 3
      · have hb' : decide ((s.size : Int) < (i : Int) + 3) = true := decide_eq_true (by omega)
        go_wp2_with ((with_reducible refine gate_dst (N := 26) rfl ?_); refine wp_app1 B rfl (.tmp 24) (.tmp 25) 22 3 (.int .i64 0) 8 rfl Try.underlying22 info_i64 rfl (by decide) _ i _ (.int .i64 (-1)) rfl rfl rfl HO.out HBW.out (by have := HI.out; omega) ?_; intro v1 w1 ho1 hg1; have HG := Sealed.mk (HFS.out.grow (by rw [HL.out]) ho1 (by rw [HL.out]; exact hg1)); obtain ⟨g1, c1, rfl⟩ := own_head ho1 (by omega); have r0 := HG.out.1.cell 0 rfl; have r3 := HG.out.1.cell 3 rfl; have q2 := HG.out.1.free 2; have q3 := HG.out.1.free 3; have r2 := HG.out.1.cell 2 rfl; clear ho1 hg1)
        go_quiet (fail)
        go_wp2
        go_roundg (m - (i + 1))
        case measure => have := HK.out; omega
        case rel =>
          have h1 := (HG.out.2.1.drewN nq).done (i + 1)
          refine ⟨i + 1, by omega, ⟨rfl⟩, ⟨FSt.fin h1.1 (by rw [nextL_succ, prevOf_big hb]) (by omega) (fun x => (lastOf_big hb x).symm)⟩, ⟨(HC.out.trans (HG.out.2.2.drewN nq)).trans h1.2⟩⟩
      · have hb' : decide ((s.size : Int) < (i : Int) + 3) = false := decide_eq_false (by omega)
        obtain ⟨kq, hkq⟩ : ∃ x, x = keyOf s i := ⟨_, rfl⟩
        have HKQ := Sealed.mk hkq
        have hk24 : kq < 16777216 := by rw [hkq]; exact keyOf_lt s i
        have HK24 := Sealed.mk hk24
        clear hkq hk24
        cases hla : lastOf s kq i with
        | none =>
          have HLA := Sealed.mk hla
          clear hla
          go_wp2_with ((with_reducible refine gate_dst (N := 26) rfl ?_); refine wp_app1 B rfl (.tmp 24) (.tmp 25) 22 3 (.int .i64 0) 8 rfl Try.underlying22 info_i64 rfl (by decide) _ i _ (.int .i64 (-1)) rfl rfl rfl HO.out HBW.out (by have := HI.out; omega) ?_; intro v1 w1 ho1 hg1; have HG := Sealed.mk (HFS.out.grow (by rw [HL.out]) ho1 (by rw [HL.out]; exact hg1)); obtain ⟨g1, c1, rfl⟩ := own_head ho1 (by omega); have r0 := HG.out.1.cell 0 rfl; have r3 := HG.out.1.cell 3 rfl; have q2 := HG.out.1.free 2; have q3 := HG.out.1.free 3; have r2 := HG.out.1.cell 2 rfl; clear ho1 hg1)
          go_quiet (fail)
          go_wp2_with fail
          have hkey := key_any i ((HG.out.2.1.drewN nq).blk) hs (by omega)
          rw [← HKQ.out] at hkey
          refine hkey.mono ?_
          rintro e w3 ⟨rfl, mk, hw3⟩
          have HF3 : Sealed (FS B w3 gf gm s (Value.slice (some ⟨g1, 0, none⟩) (i + 1) c1) i (nextL s i ++ [-1]) i (fun x => lastOf s x i) ∧ ChgW B [84, 3] w w3) := ⟨by rw [hw3]; exact ⟨(HG.out.2.1.drewN nq).drewN mk, ((HC.out.trans HG.out.2.2).drewN nq).drewN mk⟩⟩
          have hlk := HF3.out.1.mp.look (x := kq) HK24.out
          rw [HLA.out] at hlk
          simp only [optZ, Option.isSome] at hlk
          have s1 := HF3.out.1.blk.cell 1 rfl
          have s3 := HF3.out.1.blk.cell 3 rfl
          clear hw3 hkey r0 r2 r3 q2 q3
          go_wp2
          go_still_tail 9, (by kernel_rfl)
          go_wp2_with (at_mapUpdate; refine wp_map_put rfl _ _ _ rfl (n := i) (w := w3.drew) HF3.out.1.drew.mp rfl kq i rfl rfl (by have := HI.out; omega) HK24.out (by have := HI.out; omega) ?_; intro w5 hm5 hg5; have HF5 := Sealed.mk (HF3.out.1.drew.put hm5 hg5); have s5 := HF5.out.1.blk.cell 3 rfl; have q5 := HF5.out.1.blk.free 3; clear hm5 hg5)
          go_roundg (m - (i + 1))
          case measure => have := HK.out; omega
          case rel =>
            have h1 := HF5.out.1.done (i + 1)
            refine ⟨i + 1, by omega, ⟨rfl⟩, ⟨FSt.fin h1.1 (by rw [nextL_succ, prevOf_small (by omega), ← HKQ.out, HLA.out]; rfl) (by omega) (fun x => ?_)⟩, ⟨(HF3.out.2.drew.trans HF5.out.2).trans h1.2⟩⟩
            by_cases e : x = kq
            · subst e
              rw [if_pos rfl, HKQ.out, lastOf_same (by omega)]
            · rw [if_neg e, lastOf_other (by rw [← HKQ.out]; exact e)]
        | some j =>
          have HLA := Sealed.mk hla
          clear hla
          go_wp2_with ((with_reducible refine gate_dst (N := 26) rfl ?_); refine wp_app1 B rfl (.tmp 24) (.tmp 25) 22 3 (.int .i64 0) 8 rfl Try.underlying22 info_i64 rfl (by decide) _ i _ (.int .i64 (-1)) rfl rfl rfl HO.out HBW.out (by have := HI.out; omega) ?_; intro v1 w1 ho1 hg1; have HG := Sealed.mk (HFS.out.grow (by rw [HL.out]) ho1 (by rw [HL.out]; exact hg1)); obtain ⟨g1, c1, rfl⟩ := own_head ho1 (by omega); have r0 := HG.out.1.cell 0 rfl; have r3 := HG.out.1.cell 3 rfl; have q2 := HG.out.1.free 2; have q3 := HG.out.1.free 3; have r2 := HG.out.1.cell 2 rfl; clear ho1 hg1)
          go_quiet (fail)
          go_wp2_with fail
          have hkey := key_any i ((HG.out.2.1.drewN nq).blk) hs (by omega)
          rw [← HKQ.out] at hkey
          refine hkey.mono ?_
          rintro e w3 ⟨rfl, mk, hw3⟩
          have HF3 : Sealed (FS B w3 gf gm s (Value.slice (some ⟨g1, 0, none⟩) (i + 1) c1) i (nextL s i ++ [-1]) i (fun x => lastOf s x i) ∧ ChgW B [84, 3] w w3) := ⟨by rw [hw3]; exact ⟨(HG.out.2.1.drewN nq).drewN mk, ((HC.out.trans HG.out.2.2).drewN nq).drewN mk⟩⟩
          have hlk := HF3.out.1.mp.look (x := kq) HK24.out
          rw [HLA.out] at hlk
          simp only [optZ, Option.isSome] at hlk
          have s1 := HF3.out.1.blk.cell 1 rfl
          have s3 := HF3.out.1.blk.cell 3 rfl
          clear hw3 hkey r0 r2 r3 q2 q3
          have s2 := HF3.out.1.blk.cell 2 rfl
          have hrow := HF3.out.1.rowAt (i := i) (by rw [List.length_append, HL.out]; simp)
          have t1 := hrow.1
          have t2 := hrow.2.1
          have HR4 : Sealed (FS B (w3.setCell ⟨g1, i, none⟩ (.int .i64 (j : Int))).drew gf gm s (Value.slice (some ⟨g1, 0, none⟩) (i + 1) c1) i ((nextL s i ++ [-1]).set i (j : Int)) i (fun x => lastOf s x i) ∧ ChgW B [84, 3] w3 (w3.setCell ⟨g1, i, none⟩ (.int .i64 (j : Int))).drew) := ⟨⟨(hrow.2.2 (j : Int)).1.drew, (hrow.2.2 (j : Int)).2.drew⟩⟩
          have hii : (i : Int) < (i : Int) + 1 := by omega
          clear hrow
          go_wp2
          go_still_tail 10, (by kernel_rfl)
          go_wp2_with fail
          clear s1 s2 s3 t1 t2 hlk
          generalize (w3.setCell ⟨g1, i, none⟩ (.int .i64 (j : Int))).drew = w4 at HR4 ⊢
          have s1 := HR4.out.1.blk.cell 1 rfl
          have s3 := HR4.out.1.blk.cell 3 rfl
          go_still_tail 9, (by kernel_rfl)
          go_wp2_with (at_mapUpdate; refine wp_map_put rfl _ _ _ rfl (n := i) (w := w4.drew) HR4.out.1.drew.mp rfl kq i rfl rfl (by have := HI.out; omega) HK24.out (by have := HI.out; omega) ?_; intro w5 hm5 hg5; have HF5 := Sealed.mk (HR4.out.1.drew.put hm5 hg5); have s5 := HF5.out.1.blk.cell 3 rfl; have q5 := HF5.out.1.blk.free 3; clear hm5 hg5)
          go_roundg (m - (i + 1))
          case measure => have := HK.out; omega
          case rel =>
            have h1 := HF5.out.1.done (i + 1)
            refine ⟨i + 1, by omega, ⟨rfl⟩, ⟨FSt.fin h1.1 (by rw [nextL_succ, prevOf_small (by omega), ← HKQ.out, HLA.out, nextL_set]; rfl) (by omega) (fun x => ?_)⟩, ⟨(((HF3.out.2.trans HR4.out.2).drew.trans HF5.out.2).trans h1.2)⟩⟩
            by_cases e : x = kq
            · subst e
              rw [if_pos rfl, HKQ.out, lastOf_same (by omega)]
            · rw [if_neg e, lastOf_other (by rw [← HKQ.out]; exact e)]
    · obtain rfl : i = m := by omega
      have hlt' : decide (i < i) = false := decide_eq_false hlt
      go_wp2
      go_end0
      exact ⟨rfl, HF.out, HC.out⟩
end Go.Proofs.Ytmdlhbhdlhjakaa
