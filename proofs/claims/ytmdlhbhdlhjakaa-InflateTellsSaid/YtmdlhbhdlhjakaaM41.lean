/- The contract of package squeeze's finder: find. -/
import Derived.Test.YtmdlhbhdlhjakaaM40
set_option linter.unusedVariables false
set_option linter.unusedSimpArgs false
namespace Go.Proofs.Ytmdlhbhdlhjakaa
open Go.RowKit

theorem ret_two {a b a' b' : Int} (h1 : a = a') (h2 : b = b') : Ending.returned (Value.tuple #[.int .i64 a, .int .i64 b]) = Ending.returned (Value.tuple #[.int .i64 a', .int .i64 b']) := by subst h1 h2; rfl
theorem pieceK_next {s : ByteArray} {q j : Nat} (h3 : q + 3 ≤ s.size) (hj : j < q) (hk : keyOf s j = keyOf s q) (n b : Nat) : pieceK s q j n b = pieceK s q (prevOf s j + 1).toNat n b := by
  rw [pieceK_chain h3 hj hk]
  have h := prevOf_lo s j
  split
  · rename_i h0
    rw [show (prevOf s j + 1).toNat = (prevOf s j).toNat + 1 by omega]
  · rename_i h0
    rw [show (prevOf s j + 1).toNat = 0 by omega]; rfl
theorem pieceK_round {s : ByteArray} {q j n b : Nat} (h3 : q + 3 ≤ s.size) (hj : j < q) (hk : keyOf s j = keyOf s q) (hf : q - j ≤ 32768) :
    pieceK s q (j + 1) n b = if n < alikeOf s j q then pieceK s q (prevOf s j + 1).toNat (alikeOf s j q) (q - j) else pieceK s q (prevOf s j + 1).toNat n b := by
  have := (alikeOf_three (j := j) h3).2 hk
  rw [pieceK, if_pos hf]
  by_cases c : n < alikeOf s j q
  · rw [if_pos ⟨this, c⟩, if_pos c, pieceK_next h3 hj hk]
  · rw [if_neg (fun h => c h.2), if_neg c, pieceK_next h3 hj hk]
theorem FSt.cells {B : Nat} {w : World} {gf gm : Nat} {s : ByteArray} {d i : Nat} (h : FSt B w gf gm s d) (hi : i < d) : ∃ gr c, w.cell? ⟨gf, 2, none⟩ = some (.slice (some ⟨gr, 0, none⟩) d c) ∧ w.cell? ⟨gr, i, none⟩ = some (.int .i64 (prevOf s i)) := by
  obtain ⟨v, h⟩ := h
  obtain ⟨gr, c, rfl, h1, _⟩ := h.row (i := i) (by rw [nextL_len]; exact hi)
  rw [nextL_get hi] at h1
  have h2 := h.blk.cell 2 rfl
  rw [nextL_len] at h2
  exact ⟨gr, c, h2, h1⟩
theorem FSt.blk {B : Nat} {w : World} {gf gm : Nat} {s : ByteArray} {d : Nat} (h : FSt B w gf gm s d) : ∃ rest, IsBlk w gf (.string s :: .map (some gm) :: rest) 84 := by
  obtain ⟨v, h⟩ := h; exact ⟨_, h.blk⟩
theorem FSt.drewN {B : Nat} {w : World} {gf gm : Nat} {s : ByteArray} {d : Nat} (h : FSt B w gf gm s d) (n : Nat) : FSt B (w.drewN n) gf gm s d := h

set_option maxRecDepth 100000 in
set_option maxHeartbeats 1000000 in
theorem finder_find {B : Nat} {w : World} {gf gm : Nat} {s : ByteArray} {d : Nat} (q : Nat) (h : FSt B w gf gm s d) (hd : d ≤ q) (hq : q ≤ s.size) (hs : s.size ≤ 1000000000) :
    Calls Try.prog 50 #[.pointer (some ⟨gf, 0, none⟩), .int .i64 q] w fun e w' => e = .returned (.tuple #[.int .i64 (findOf s q).1, .int .i64 (findOf s q).2]) ∧ FSt B w' gf gm s q ∧ ChgW B [84, 3] w w' := by
  obtain ⟨R, hR⟩ : ∃ R, R = findOf s q := ⟨_, rfl⟩
  rw [← hR]
  have HR := Sealed.mk hR
  have H := Sealed.mk (pass_any q h hd hq hs)
  clear h hR
  by_cases h3 : s.size < q + 3
  · have HR2 : Sealed (R = (0, 0)) := ⟨by rw [HR.out, findOf, if_neg (by omega)]⟩
    have hb' : decide ((s.size : Int) < (q : Int) + 3) = true := decide_eq_true (by omega)
    clear h3
    go_enter Try.func50, Try.ntmps50
    go_wp2
    go_step3
    go_wp2_with fail
    refine H.out.mono ?_
    rintro e w1 ⟨rfl, h1, h2⟩
    have H1 := Sealed.mk h1
    have H2 := Sealed.mk h2
    obtain ⟨rest, hb⟩ := h1.blk
    have c0 := hb.cell 0 rfl
    clear h1 h2 hb
    go_wp2
    rw [Exit.noGoto_ret]
    go_ret2
    rw [HR2.out]
    exact ⟨rfl, H1.out, H2.out⟩
  · have hb' : decide ((s.size : Int) < (q : Int) + 3) = false := decide_eq_false (by omega)
    obtain ⟨kq, hkq⟩ : ∃ x, x = keyOf s q := ⟨_, rfl⟩
    have HK24 : Sealed (kq < 16777216) := ⟨by rw [hkq]; exact keyOf_lt s q⟩
    have H3 : Sealed (q + 3 ≤ s.size) := ⟨by omega⟩
    have HR2 : Sealed (R = pieceK s q q 0 0) := ⟨by rw [HR.out, findOf, if_pos H3.out]⟩
    have HKQ := Sealed.mk hkq
    have HKEY : Sealed (∀ (w : World) (rest : List Value), IsBlk w gf (.string s :: rest) 84 → Calls Try.prog 81 #[.pointer (some ⟨gf, 0, none⟩), .int .i64 q] w fun e w' => e = .returned (.int .i64 kq) ∧ ∃ m, w' = w.drewN m) := ⟨fun w rest hb => by rw [hkq]; exact key_any q hb hs H3.out⟩
    clear h3 hkq HR
    cases hla : lastOf s kq q with
    | none =>
      have HLA := Sealed.mk hla
      clear hla
      go_enter Try.func50, Try.ntmps50
      go_wp2
      go_step3
      go_wp2_with fail
      refine H.out.mono ?_
      rintro e w1 ⟨rfl, h1, h2⟩
      have H1 := Sealed.mk h1
      have H2 := Sealed.mk h2
      obtain ⟨rest, hb⟩ := h1.blk
      have c0 := hb.cell 0 rfl
      have c1 := hb.cell 1 rfl
      have HB := Sealed.mk hb
      have hlk : ∀ n, (Instr.lookup 82 (.map (some gm)) (.int .i64 (kq : Int)) true).run Try.prog (w1.drewN n) = .ok (.tuple #[.int .i64 0, .bool false]) (w1.drewN n) := fun n => by
        obtain ⟨v, hf⟩ := H1.out
        have h := (hf.mp.drewN n).look (x := kq) HK24.out
        rw [HLA.out] at h
        exact h
      clear h1 h2 hb
      go_wp2
      go_quiet ((go_at_call 81; exact Calls.quiet_of (HKEY.out _ _ (HB.out.drewN _))))
      go_wp2
      rw [Exit.noGoto_ret]
      go_ret2
      have e : R = (0, 0) := by rw [HR2.out, pieceK_last H3.out (Nat.le_refl _), ← HKQ.out, HLA.out]
      rw [e]
      exact ⟨rfl, H1.out.drewN _, H2.out.drewN _⟩
    | some j =>
      have HLA := Sealed.mk hla
      clear hla
      go_enter Try.func50, Try.ntmps50
      go_wp2
      go_step3
      go_wp2_with fail
      refine H.out.mono ?_
      rintro e w1 ⟨rfl, h1, h2⟩
      have H1 := Sealed.mk h1
      have H2 := Sealed.mk h2
      obtain ⟨rest, hb⟩ := h1.blk
      have c0 := hb.cell 0 rfl
      have c1 := hb.cell 1 rfl
      have HB := Sealed.mk hb
      have hlk : ∀ n, (Instr.lookup 82 (.map (some gm)) (.int .i64 (kq : Int)) true).run Try.prog (w1.drewN n) = .ok (.tuple #[.int .i64 (j : Int), .bool true]) (w1.drewN n) := fun n => by
        obtain ⟨v, hf⟩ := H1.out
        have h := (hf.mp.drewN n).look (x := kq) HK24.out
        rw [HLA.out] at h
        exact h
      clear h1 h2 hb
      have HJ : Sealed (j < q ∧ keyOf s j = keyOf s q) := ⟨by obtain ⟨a1, _, a2, _⟩ := lastOf_some HLA.out; exact ⟨a1, by rw [a2, HKQ.out]⟩⟩
      have HRJ : Sealed (pieceK s q (j + 1) 0 0 = R) := ⟨by rw [HR2.out, pieceK_last H3.out (Nat.le_refl _), ← HKQ.out, HLA.out]⟩
      go_wp2
      go_quiet ((go_at_call 81; exact Calls.quiet_of (HKEY.out _ _ (HB.out.drewN _))))
      go_wp2
      have HB2 := Sealed.mk (HB.out.drewN nq)
      have HF2 := Sealed.mk (H1.out.drewN nq)
      have HC2 := Sealed.mk (H2.out.drewN nq)
      clear hlk c0 c1 HB H1 H2
      generalize w1.drewN nq = w2 at HB2 HF2 HC2 ⊢
      go_step3
      go_wp2
      go_loopg [6, 8, 9, 10] (j + 1) (fun k s6 s8 s9 s10 w' => ∃ (j' : Int) (n b m : Nat), s6 = .int .i64 j' ∧ s8 = .int .i64 n ∧ s9 = .int .i64 b ∧ -1 ≤ j' ∧ Sealed (k = (j' + 1).toNat) ∧ j' ≤ 1000000000 ∧ Sealed (0 ≤ j' → j'.toNat < q ∧ keyOf s j'.toNat = keyOf s q) ∧ Sealed (pieceK s q (j' + 1).toNat n b = R) ∧ w' = w2.drewN m)
      case atStart => exact ⟨j, 0, 0, 0, rfl, rfl, rfl, by omega, ⟨by omega⟩, by have := HJ.out; omega, ⟨fun _ => by simpa using HJ.out⟩, ⟨by rw [show ((j : Int) + 1).toNat = j + 1 by omega]; exact HRJ.out⟩, rfl⟩
      case round =>
        clear HJ HRJ
        obtain ⟨j', n, b, m, rfl, rfl, rfl, hj1, HK, hjb, HJ, HE, rfl⟩ := hrel
        by_cases hj : 0 ≤ j'
        · obtain ⟨i, rfl⟩ : ∃ i : Nat, j' = (i : Int) := ⟨j'.toNat, by omega⟩
          have hJ := HJ.out hj
          simp only [Int.toNat_natCast] at hJ
          obtain ⟨hiq, hik⟩ := hJ
          have hx : (((i : Nat) : Int) + 1).toNat = i + 1 := by omega
          have hE := HE.out
          rw [hx] at hE
          have HE2 := Sealed.mk hE
          have HIK := Sealed.mk hik
          clear HE HJ hE hik hx hj1 hj
          by_cases hf : q - i ≤ 32768
          · have hf' : decide ((q : Int) - (i : Int) ≤ 32768) = true := decide_eq_true (by omega)
            have hal := alike_any (w := w2.drewN m) i q (HB2.out.drewN m) hiq hs hq
            have hpr := pieceK_round (n := n) (b := b) H3.out hiq HIK.out hf
            have hle := alikeOf_le s i q
            obtain ⟨a, ha⟩ : ∃ a, a = alikeOf s i q := ⟨_, rfl⟩
            rw [← ha] at hal hpr hle
            rw [HE2.out] at hpr
            have HAL := Sealed.mk hal
            have HPR := Sealed.mk hpr
            obtain ⟨gr, c, x2, xr⟩ := HF2.out.cells hiq
            have hpb := prevOf_lo s i
            have HPK : Sealed (0 ≤ prevOf s i → (prevOf s i).toNat < q ∧ keyOf s (prevOf s i).toNat = keyOf s q) := ⟨fun h => by have h1 := prevOf_key H3.out hiq HIK.out h; exact ⟨by omega, h1.2⟩⟩
            obtain ⟨p, hp⟩ : ∃ p, p = prevOf s i := ⟨_, rfl⟩
            rw [← hp] at xr hpb HPK HPR
            have hp1 : -1 ≤ p := by omega
            have hp2 : p ≤ 1000000000 := by omega
            have HPI : Sealed (p < (i : Int)) := ⟨by omega⟩
            clear hal hpr ha hp hpb hf
            by_cases hc : n < a
            · have hc' : decide (a ≤ n) = false := decide_eq_false (by omega)
              have hpr := HPR.out
              rw [if_pos hc] at hpr
              have HPR2 := Sealed.mk hpr
              clear hpr HPR hc
              by_cases h258 : a = 258
              · have hb2 : ((a : Int) == 258) = true := by subst h258; rfl
                have HR3 : Sealed (R = (a, q - i)) := ⟨by have h := HPR2.out; rw [h258, pieceK_full] at h; rw [h258]; exact h⟩
                clear h258
                go_wp2_with fail
                refine HAL.out.mono ?_
                rintro e w3 ⟨rfl, m3, rfl⟩
                go_wp2
                rw [Exit.noGoto_ret]
                go_ret2
                rw [HR3.out]
                exact ⟨ret_two rfl (by omega), HF2.out.drewN (m + m3), HC2.out.drewN (m + m3)⟩
              · have hb2 : ((a : Int) == 258) = false := by simp; omega
                clear h258
                go_wp2_with fail
                refine HAL.out.mono ?_
                rintro e w3 ⟨rfl, m3, rfl⟩
                go_wp2
                go_roundg (p + 1).toNat
                case measure => have := HK.out; have := HPI.out; omega
                case rel => exact ⟨p, a, q - i, m + m3, rfl, rfl, by go_num, hp1, ⟨rfl⟩, hp2, HPK, ⟨HPR2.out.symm⟩, by first | rfl | exact drewN_add _ _ _⟩
            · have hc' : decide (a ≤ n) = true := decide_eq_true (by omega)
              have hpr := HPR.out
              rw [if_neg hc] at hpr
              have HPR2 := Sealed.mk hpr
              clear hpr HPR hc
              go_wp2_with fail
              refine HAL.out.mono ?_
              rintro e w3 ⟨rfl, m3, rfl⟩
              go_wp2
              go_roundg (p + 1).toNat
              case measure => have := HK.out; have := HPI.out; omega
              case rel => exact ⟨p, n, b, m + m3, rfl, rfl, rfl, hp1, ⟨rfl⟩, hp2, HPK, ⟨HPR2.out.symm⟩, by first | rfl | exact drewN_add _ _ _⟩
          · have hf' : decide ((q : Int) - (i : Int) ≤ 32768) = false := decide_eq_false (by omega)
            have HR3 : Sealed (R = (n, b)) := ⟨by have h := HE2.out; rw [pieceK, if_neg hf] at h; exact h.symm⟩
            clear hf hiq
            go_wp2
            rw [Exit.noGoto_ret]
            go_ret2
            rw [HR3.out]
            exact ⟨rfl, HF2.out.drewN m, HC2.out.drewN m⟩
        · have hj' : decide (0 ≤ j') = false := decide_eq_false hj
          have HR3 : Sealed (R = (n, b)) := ⟨by have h := HE.out; rw [show (j' + 1).toNat = 0 by omega] at h; exact h.symm⟩
          clear hj hj1
          go_wp2
          rw [Exit.noGoto_ret]
          go_ret2
          rw [HR3.out]
          exact ⟨rfl, HF2.out.drewN m, HC2.out.drewN m⟩
end Go.Proofs.Ytmdlhbhdlhjakaa
