/- The contract of package squeeze's finder: pass. -/
import Derived.Test.YtmdlhbhdlhjakaaPass
set_option linter.unusedVariables false
set_option linter.unusedSimpArgs false
namespace Go.Proofs.Ytmdlhbhdlhjakaa
open Go.RowKit

/-- The finder has noted all places ahead of d. -/
def FSt (B : Nat) (w : World) (gf gm : Nat) (s : ByteArray) (d : Nat) : Prop := ∃ v, FS B w gf gm s v d (nextL s d) d (fun x => lastOf s x d)
theorem FSt.fin {B : Nat} {w : World} {gf gm : Nat} {s : ByteArray} {v : Value} {d n : Nat} {L : List Int} {f : Nat → Option Nat} (h : FS B w gf gm s v d L n f) (hL : L = nextL s d) (hn : n ≤ d) (hf : ∀ x, f x = lastOf s x d) : FSt B w gf gm s d := by
  subst hL
  obtain ⟨h1, h2, h3, h4, h5, h6⟩ := h
  exact ⟨v, h1, h2, h3, h4, h5, (h6.mono hn).congr hf⟩
set_option maxRecDepth 100000 in
set_option maxHeartbeats 1000000 in
theorem pass_any {B : Nat} {w : World} {gf gm : Nat} {s : ByteArray} {d : Nat} (m : Nat) (h : FSt B w gf gm s d) (hd : d ≤ m) (hto : m ≤ s.size) (hs : s.size ≤ 1000000000) :
    Calls Try.prog 80 #[.pointer (some ⟨gf, 0, none⟩), .int .i64 m] w fun e w' => e = .returned (.tuple #[]) ∧ FSt B w' gf gm s m ∧ ChgW B [84, 3] w w' := by
  have H := Sealed.mk h
  clear h
  go_enter Try.func80, Try.ntmps80
  go_wp2
  go_loopg [] (m - d) (fun k w' => ∃ i : Nat, i ≤ m ∧ Sealed (k = m - i) ∧ Sealed (FSt B w' gf gm s i) ∧ Sealed (ChgW B [84, 3] w w'))
  case atStart => exact ⟨d, hd, ⟨rfl⟩, H, ⟨ChgW.refl _ _ _⟩⟩
  case round =>
    clear H hd
    obtain ⟨i, hi, HK, HF, HC⟩ := hrel
    obtain ⟨v, hf⟩ := HF.out
    have h3 := hf.blk.cell 3 rfl
    have h2 := hf.blk.cell 2 rfl
    have hl := nextL_len s i
    by_cases hlt : i < m
    · have hlt' : decide (i < m) = true := decide_eq_true hlt
      obtain ⟨A0, c0, hv⟩ := own_slice hf.own
      subst hv
      have ho := hf.own
      have hB := hf.2.2.1
      have HFS := Sealed.mk hf
      have ho' := ho
      rw [hl] at ho'
      have HO := Sealed.mk ho'
      have HL := Sealed.mk hl
      have HBW := Sealed.mk hB
      have HI : Sealed (i ≤ 1000000000) := ⟨by omega⟩
      rw [hl] at h2
      clear hf ho ho' hB hl HF
      have ew3 : IntKind.i64.wrap ((i : Int) + 3) = (i : Int) + 3 := by rw [IntKind.wrap_i64]; omega
      by_cases hb : s.size < i + 3
      · have hb' : decide ((s.size : Int) < (i : Int) + 3) = true := decide_eq_true (by omega)
        go_wp2_with ((with_reducible refine gate_dst (N := 26) rfl ?_); refine wp_app1 B rfl (.tmp 24) (.tmp 25) 22 3 (.int .i64 0) 8 rfl Try.underlying22 info_i64 rfl (by decide) _ i _ (.int .i64 (-1)) rfl rfl rfl HO.out HBW.out (by have := HI.out; omega) ?_; intro v1 w1 ho1 hg1; have HG := Sealed.mk (HFS.out.grow (by rw [HL.out]) ho1 (by rw [HL.out]; exact hg1)); obtain ⟨g1, c1, rfl⟩ := own_head ho1 (by omega); have r0 := HG.out.1.cell 0 rfl; have r3 := HG.out.1.cell 3 rfl; have q2 := HG.out.1.free 2; have q3 := HG.out.1.free 3; have r2 := HG.out.1.cell 2 rfl; clear ho1 hg1)
        go_quiet (fail)
        go_wp2
        go_roundg (m - (i + 1))
        case measure => have := HK.out; omega
        case rel =>
          have h1 := (HG.out.2.1.drewN nq).done (i + 1)
          refine ⟨i + 1, by omega, ⟨rfl⟩, ⟨FSt.fin h1.1 (by rw [nextL_succ, prevOf_big hb]) (by omega) (fun x => (lastOf_big hb x).symm)⟩, ⟨(HC.out.trans (HG.out.2.2.drewN nq)).trans h1.2⟩⟩
      · have hb' : decide ((s.size : Int) < (i : Int) + 3) = false := decide_eq_false (by omega)
        obtain ⟨kq, hkq⟩ : ∃ x, x = keyOf s i := ⟨_, rfl⟩
        have HKQ := Sealed.mk hkq
        have hk24 : kq < 16777216 := by rw [hkq]; exact keyOf_lt s i
        have HK24 := Sealed.mk hk24
        clear hkq hk24
        cases hla : lastOf s kq i with
        | none =>
          have HLA := Sealed.mk hla
          clear hla
          go_wp2_with ((with_reducible refine gate_dst (N := 26) rfl ?_); refine wp_app1 B rfl (.tmp 24) (.tmp 25) 22 3 (.int .i64 0) 8 rfl Try.underlying22 info_i64 rfl (by decide) _ i _ (.int .i64 (-1)) rfl rfl rfl HO.out HBW.out (by have := HI.out; omega) ?_; intro v1 w1 ho1 hg1; have HG := Sealed.mk (HFS.out.grow (by rw [HL.out]) ho1 (by rw [HL.out]; exact hg1)); obtain ⟨g1, c1, rfl⟩ := own_head ho1 (by omega); have r0 := HG.out.1.cell 0 rfl; have r3 := HG.out.1.cell 3 rfl; have q2 := HG.out.1.free 2; have q3 := HG.out.1.free 3; have r2 := HG.out.1.cell 2 rfl; clear ho1 hg1)
          go_quiet (fail)
          go_wp2_with fail
          have hkey := key_any i ((HG.out.2.1.drewN nq).blk) hs (by omega)
          rw [← HKQ.out] at hkey
          refine hkey.mono ?_
          rintro e w3 ⟨rfl, mk, hw3⟩
          have HF3 : Sealed (FS B w3 gf gm s (Value.slice (some ⟨g1, 0, none⟩) (i + 1) c1) i (nextL s i ++ [-1]) i (fun x => lastOf s x i) ∧ ChgW B [84, 3] w w3) := ⟨by rw [hw3]; exact ⟨(HG.out.2.1.drewN nq).drewN mk, ((HC.out.trans HG.out.2.2).drewN nq).drewN mk⟩⟩
          have hlk := HF3.out.1.mp.look (x := kq) HK24.out
          rw [HLA.out] at hlk
          simp only [optZ, Option.isSome] at hlk
          have s1 := HF3.out.1.blk.cell 1 rfl
          have s3 := HF3.out.1.blk.cell 3 rfl
          clear hw3 hkey r0 r2 r3 q2 q3
          go_wp2
          go_still_tail 9, (by kernel_rfl)
          go_wp2_with (at_mapUpdate; refine wp_map_put rfl _ _ _ rfl (n := i) (w := w3.drew) HF3.out.1.drew.mp rfl kq i rfl rfl (by have := HI.out; omega) HK24.out (by have := HI.out; omega) ?_; intro w5 hm5 hg5; have HF5 := Sealed.mk (HF3.out.1.drew.put hm5 hg5); have s5 := HF5.out.1.blk.cell 3 rfl; have q5 := HF5.out.1.blk.free 3; clear hm5 hg5)
          go_roundg (m - (i + 1))
          case measure => have := HK.out; omega
          case rel =>
            have h1 := HF5.out.1.done (i + 1)
            refine ⟨i + 1, by omega, ⟨rfl⟩, ⟨FSt.fin h1.1 (by rw [nextL_succ, prevOf_small (by omega), ← HKQ.out, HLA.out]; rfl) (by omega) (fun x => ?_)⟩, ⟨(HF3.out.2.drew.trans HF5.out.2).trans h1.2⟩⟩
            by_cases e : x = kq
            · subst e
              rw [if_pos rfl, HKQ.out, lastOf_same (by omega)]
            · rw [if_neg e, lastOf_other (by rw [← HKQ.out]; exact e)]
        | some j =>
          have HLA := Sealed.mk hla
          clear hla
          go_wp2_with ((with_reducible refine gate_dst (N := 26) rfl ?_); refine wp_app1 B rfl (.tmp 24) (.tmp 25) 22 3 (.int .i64 0) 8 rfl Try.underlying22 info_i64 rfl (by decide) _ i _ (.int .i64 (-1)) rfl rfl rfl HO.out HBW.out (by have := HI.out; omega) ?_; intro v1 w1 ho1 hg1; have HG := Sealed.mk (HFS.out.grow (by rw [HL.out]) ho1 (by rw [HL.out]; exact hg1)); obtain ⟨g1, c1, rfl⟩ := own_head ho1 (by omega); have r0 := HG.out.1.cell 0 rfl; have r3 := HG.out.1.cell 3 rfl; have q2 := HG.out.1.free 2; have q3 := HG.out.1.free 3; have r2 := HG.out.1.cell 2 rfl; clear ho1 hg1)
          go_quiet (fail)
          go_wp2_with fail
          have hkey := key_any i ((HG.out.2.1.drewN nq).blk) hs (by omega)
          rw [← HKQ.out] at hkey
          refine hkey.mono ?_
          rintro e w3 ⟨rfl, mk, hw3⟩
          have HF3 : Sealed (FS B w3 gf gm s (Value.slice (some ⟨g1, 0, none⟩) (i + 1) c1) i (nextL s i ++ [-1]) i (fun x => lastOf s x i) ∧ ChgW B [84, 3] w w3) := ⟨by rw [hw3]; exact ⟨(HG.out.2.1.drewN nq).drewN mk, ((HC.out.trans HG.out.2.2).drewN nq).drewN mk⟩⟩
          have hlk := HF3.out.1.mp.look (x := kq) HK24.out
          rw [HLA.out] at hlk
          simp only [optZ, Option.isSome] at hlk
          have s1 := HF3.out.1.blk.cell 1 rfl
          have s3 := HF3.out.1.blk.cell 3 rfl
          clear hw3 hkey r0 r2 r3 q2 q3
          have s2 := HF3.out.1.blk.cell 2 rfl
          have hrow := HF3.out.1.rowAt (i := i) (by rw [List.length_append, HL.out]; simp)
          have t1 := hrow.1
          have t2 := hrow.2.1
          have HR4 : Sealed (FS B (w3.setCell ⟨g1, i, none⟩ (.int .i64 (j : Int))).drew gf gm s (Value.slice (some ⟨g1, 0, none⟩) (i + 1) c1) i ((nextL s i ++ [-1]).set i (j : Int)) i (fun x => lastOf s x i) ∧ ChgW B [84, 3] w3 (w3.setCell ⟨g1, i, none⟩ (.int .i64 (j : Int))).drew) := ⟨⟨(hrow.2.2 (j : Int)).1.drew, (hrow.2.2 (j : Int)).2.drew⟩⟩
          have hii : (i : Int) < (i : Int) + 1 := by omega
          clear hrow
          go_wp2
          go_still_tail 10, (by kernel_rfl)
          go_wp2_with fail
          clear s1 s2 s3 t1 t2 hlk
          generalize (w3.setCell ⟨g1, i, none⟩ (.int .i64 (j : Int))).drew = w4 at HR4 ⊢
          have s1 := HR4.out.1.blk.cell 1 rfl
          have s3 := HR4.out.1.blk.cell 3 rfl
          go_still_tail 9, (by kernel_rfl)
          go_wp2_with (at_mapUpdate; refine wp_map_put rfl _ _ _ rfl (n := i) (w := w4.drew) HR4.out.1.drew.mp rfl kq i rfl rfl (by have := HI.out; omega) HK24.out (by have := HI.out; omega) ?_; intro w5 hm5 hg5; have HF5 := Sealed.mk (HR4.out.1.drew.put hm5 hg5); have s5 := HF5.out.1.blk.cell 3 rfl; have q5 := HF5.out.1.blk.free 3; clear hm5 hg5)
          go_roundg (m - (i + 1))
          case measure => have := HK.out; omega
          case rel =>
            have h1 := HF5.out.1.done (i + 1)
            refine ⟨i + 1, by omega, ⟨rfl⟩, ⟨FSt.fin h1.1 (by rw [nextL_succ, prevOf_small (by omega), ← HKQ.out, HLA.out, nextL_set]; rfl) (by omega) (fun x => ?_)⟩, ⟨(((HF3.out.2.trans HR4.out.2).drew.trans HF5.out.2).trans h1.2)⟩⟩
            by_cases e : x = kq
            · subst e
              rw [if_pos rfl, HKQ.out, lastOf_same (by omega)]
            · rw [if_neg e, lastOf_other (by rw [← HKQ.out]; exact e)]
    · obtain rfl : i = m := by omega
      have hlt' : decide (i < i) = false := decide_eq_false hlt
      go_wp2
      go_end0
      exact ⟨rfl, HF.out, HC.out⟩
end Go.Proofs.Ytmdlhbhdlhjakaa
