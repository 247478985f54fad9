/- The contract of package inflate's inflater: coded. The contract of package inflate's inflater: stored. -/
import Derived.Test.YtmdlhbhdlhjakaaM23
set_option linter.unusedVariables false
set_option linter.unusedSimpArgs false
namespace Go.Proofs.Ytmdlhbhdlhjakaa
open Go.RowKit

theorem repeatS_err {s : ByteArray} {most k p e : Nat} {fl : List Int} {o : List Nat} (h : repeatS s most fl k p o = .error e) : 1 ≤ e ∧ e ≤ 7 := by
  unfold repeatS at h
  cases h1 : toldS s (lenT.getD k (0, 0)) p with
  | error e1 => rw [h1] at h; injection h with h; have := toldS_err h1; omega
  | ok r =>
    obtain ⟨n, p1⟩ := r
    rw [h1] at h
    simp only at h
    cases h2 : symS s fl p1 with
    | error e2 => rw [h2] at h; injection h with h; have := symS_err h2; omega
    | ok r =>
      obtain ⟨d, p2⟩ := r
      rw [h2] at h
      simp only at h
      split at h
      · injection h with h; omega
      · cases h3 : toldS s (distT.getD d (0, 0)) p2 with
        | error e3 => rw [h3] at h; injection h with h; have := toldS_err h3; omega
        | ok r =>
          obtain ⟨b, p3⟩ := r
          rw [h3] at h
          simp only at h
          split at h
          · injection h with h; omega
          · split at h
            · injection h with h; omega
            · cases h
section
variable {s : ByteArray} {most k p n p1 e : Nat} {nl fl : List Int} {o : List Nat}
theorem codedS_e1 (h : symS s nl p = .error e) : codedS s most nl fl (k + 1) p o = .error e := by rw [codedS, roundS_bad h]
theorem codedS_fin (h : symS s nl p = .ok (256, p1)) : codedS s most nl fl (k + 1) p o = .ok (o, p1) := by rw [codedS, roundS_fin_of h]
theorem codedS_e2 (h : symS s nl p = .ok (n, p1)) (h2 : 286 ≤ n) : codedS s most nl fl (k + 1) p o = .error 4 := by
  have e : roundS s most nl fl p o = .err 4 := by
    unfold roundS; rw [h]; simp only
    rw [if_neg (by omega), if_pos h2]
  rw [codedS, e]
theorem codedS_e3 (h : symS s nl p = .ok (n, p1)) (h2 : n < 286) (h3 : 256 < n) (h4 : repeatS s most fl (n - 257) p1 o = .error e) : codedS s most nl fl (k + 1) p o = .error e := by
  rw [codedS, roundS_rep_of h (by omega) h2 h3, h4]
theorem codedS_rep {o' : List Nat} {p2 : Nat} (h : symS s nl p = .ok (n, p1)) (h2 : n < 286) (h3 : 256 < n) (h4 : repeatS s most fl (n - 257) p1 o = .ok (o', p2)) : codedS s most nl fl (k + 1) p o = codedS s most nl fl k p2 o' := by
  rw [codedS, roundS_rep_of h (by omega) h2 h3, h4]
theorem codedS_e4 (h : symS s nl p = .ok (n, p1)) (h2 : n < 256) (h4 : most < o.length + 1) : codedS s most nl fl (k + 1) p o = .error 7 := by
  rw [codedS, roundS_lit_of h (by omega) (by omega) (by omega), if_pos h4]
theorem codedS_lit (h : symS s nl p = .ok (n, p1)) (h2 : n < 256) (h4 : ¬ most < o.length + 1) : codedS s most nl fl (k + 1) p o = codedS s most nl fl k p1 (o ++ [n]) := by
  rw [codedS, roundS_lit_of h (by omega) (by omega) (by omega), if_neg h4]
end

set_option maxRecDepth 100000 in
set_option maxHeartbeats 2000000 in
theorem coded_ok {B B2 : Nat} {w : World} {gx gr gn gf : Nat} {s : ByteArray} {most p : Nat} {o : List Nat} {nl fl : List Int} (F : Nat) (h : InfSt B w gx gr s most p o) (hN : TrSt B2 w gn nl) (hF : TrSt B2 w gf fl) (hs : s.size ≤ 1000000000)
    (hn : nl.length ≤ 320) (ha : nl.all lenOk = true) (h0 : 0 < nl.length) (hn' : fl.length ≤ 320) (ha' : fl.all lenOk = true) (h0' : 0 < fl.length) (hm : most ≤ 100000000) (ho : o.length ≤ most) (hFu : 8 * s.size < p + F) :
    Calls Try.prog 115 #[.pointer (some ⟨gx, 0, none⟩), .pointer (some ⟨gn, 0, none⟩), .pointer (some ⟨gf, 0, none⟩)] w (InfPost B gx gr s most (codedS s most nl fl F p o) w) := by
  obtain ⟨R, hR⟩ : ∃ R, R = codedS s most nl fl F p o := ⟨_, rfl⟩
  rw [← hR]
  have HR := Sealed.mk hR
  have H := Sealed.mk h
  have HNT := Sealed.mk hN
  have HFT := Sealed.mk hF
  have HA := Sealed.mk ha
  have HA' := Sealed.mk ha'
  have HS : Sealed (s.size ≤ 140737488355328) := ⟨by omega⟩
  have HFU := Sealed.mk hFu
  clear hR h hN hF ha ha' hFu
  go_enter Try.func115, Try.ntmps115
  go_wp2
  go_step3
  go_wp2
  go_step3
  go_wp2
  go_loopg [7, 8, 9, 10] F (fun k s7 s8 s9 s10 w' => ∃ (q : Nat) (l : List Nat), Sealed (InfSt B w' gx gr s most q l) ∧ Sealed (TrSt B2 w' gn nl) ∧ Sealed (TrSt B2 w' gf fl) ∧ Sealed (codedS s most nl fl k q l = R) ∧ Sealed (8 * s.size < q + k) ∧ l.length ≤ most ∧ Sealed (InfChg B w w'))
  case atStart => exact ⟨p, o, H, HNT, HFT, ⟨HR.out.symm⟩, HFU, ho, ⟨Chg.refl _ _ _⟩⟩
  case round =>
    clear H HNT HFT HR HFU ho
    obtain ⟨q, l, H, HNT, HFT, HE, HFU, hl, HC⟩ := hrel
    obtain ⟨k, rfl⟩ : ∃ k, gk = k + 1 := ⟨gk - 1, by have := HFU.out; have := H.out.rd.le; omega⟩
    obtain ⟨A2, c2, hb2, _⟩ := H.out.parts
    have x0 := hb2.cell 0 rfl
    have HSY := Sealed.mk (sym_ok HNT.out H.out HS.out hn HA.out h0)
    clear hb2
    go_wp2_with fail
    refine HSY.out.mono ?_
    rintro e w3 ⟨rfl, hI, hT, hc⟩
    have HNT3 := Sealed.mk hT
    have HFT3 := Sealed.mk (HFT.out.chg hc (by decide) (by decide))
    have C3 : Sealed (InfChg B w w3) := ⟨HC.out.trans (hc.mono H.out.2.1 (by simp))⟩
    have HI3 := Sealed.mk hI
    clear hI hT hc HNT HFT HC HSY x0
    cases h2 : symS s nl q with
    | error e2 =>
      have hE := symS_err h2
      have HE2 : Sealed (R = .error e2) := ⟨by rw [← HE.out, codedS_e1 h2]⟩
      simp only [valOf, errOf]
      have he2 : ((e2 : Int) != 0) = true := by simp; omega
      clear h2 HE HI3 hE
      go_wp2
      rw [Exit.noGoto_ret]
      go_ret
      rw [HE2.out]
      exact ⟨rfl, C3.out, fun o' q h => by cases h⟩
    | ok r2 =>
      obtain ⟨n, p1⟩ := r2
      have hpos := symS_pos h2
      rw [h2] at HI3
      simp only [valOf, errOf, posOf] at HI3 ⊢
      have H2 := Sealed.mk h2
      have HFU1 : Sealed (8 * s.size < p1 + k) := ⟨by have := HFU.out; omega⟩
      clear h2 hpos HFU
      by_cases h256 : n = 256
      · subst h256
        have HE2 : Sealed (R = .ok (l, p1)) := ⟨by rw [← HE.out, codedS_fin H2.out]⟩
        clear HE
        go_wp2
        rw [Exit.noGoto_ret]
        go_ret
        rw [HE2.out]
        refine ⟨rfl, C3.out, fun o' q h => ?_⟩
        simp only [Except.ok.injEq, Prod.mk.injEq] at h
        obtain ⟨rfl, rfl⟩ := h
        exact HI3.out
      · have h256' : ((n : Int) == 256) = false := by simp; omega
        by_cases h286 : 286 ≤ n
        · have HE2 : Sealed (R = .error 4) := ⟨by rw [← HE.out, codedS_e2 H2.out h286]⟩
          clear HE HI3 h256
          go_wp2
          rw [Exit.noGoto_ret]
          go_ret
          rw [HE2.out]
          exact ⟨rfl, C3.out, fun o' q h => by cases h⟩
        · by_cases hgt : 256 < n
          · have HRP := Sealed.mk (repeat_ok HI3.out HFT3.out hs hn' HA'.out h0' (n - 257) (by omega) hm hl (K := (n : Int) - 256 - 1) (by omega))
            clear h256
            go_wp2_with fail
            refine HRP.out.mono ?_
            rintro e w4 ⟨rfl, hc, hok⟩
            have HNT4 := Sealed.mk (HNT3.out.chg hc (by decide) (by decide))
            have HFT4 := Sealed.mk (HFT3.out.chg hc (by decide) (by decide))
            have C4 := Sealed.mk (C3.out.trans hc)
            have HOK := Sealed.mk hok
            clear hc hok HNT3 HFT3 C3 HRP
            cases h4 : repeatS s most fl (n - 257) p1 l with
            | error e4 =>
              have hE := repeatS_err h4
              have HE2 : Sealed (R = .error e4) := ⟨by rw [← HE.out, codedS_e3 H2.out (by omega) hgt h4]⟩
              simp only [errOf]
              have he2 : ((e4 : Int) != 0) = true := by simp; omega
              clear h4 HE HOK hE
              go_wp2
              rw [Exit.noGoto_ret]
              go_ret
              rw [HE2.out]
              exact ⟨rfl, C4.out, fun o' q h => by cases h⟩
            | ok r4 =>
              obtain ⟨o4, p4⟩ := r4
              have hp4 := repeatS_pos h4
              have HI4 := Sealed.mk (HOK.out o4 p4 h4)
              have HE2 : Sealed (codedS s most nl fl k p4 o4 = R) := ⟨by rw [← HE.out, codedS_rep H2.out (by omega) hgt h4]⟩
              have HFU2 : Sealed (8 * s.size < p4 + k) := ⟨by have := HFU1.out; omega⟩
              have hl4 : o4.length ≤ most := by omega
              simp only [errOf]
              clear h4 HE HOK hp4
              go_wp2
              go_roundg k
              case measure => omega
              case rel => exact ⟨p4, o4, HI4, HNT4, HFT4, HE2, HFU2, hl4, C4⟩
          · have HRM := Sealed.mk (room_ok HI3.out 1 (by omega) (by omega) (by omega) (N := 1) rfl)
            by_cases hmo : most < l.length + 1
            · rw [if_pos hmo] at HRM
              have HE2 : Sealed (R = .error 7) := ⟨by rw [← HE.out, codedS_e4 H2.out (by omega) hmo]⟩
              clear hmo HE h256
              go_wp2_with fail
              refine HRM.out.mono ?_
              rintro e w6 ⟨rfl, m6, rfl⟩
              go_wp2
              rw [Exit.noGoto_ret]
              go_ret
              rw [HE2.out]
              exact ⟨rfl, C3.out.drewN m6, fun o' q h => by cases h⟩
            · rw [if_neg hmo] at HRM
              have HE2 : Sealed (codedS s most nl fl k p1 (l ++ [n]) = R) := ⟨by rw [← HE.out, codedS_lit H2.out (by omega) hmo]⟩
              have hn255 : n < 256 := by omega
              have hl4 : Sealed ((l ++ [n]).length ≤ most) := ⟨by simp; omega⟩
              have hu8 : IntKind.u8.wrap (n : Int) = (n : Int) := by rw [IntKind.wrap_u8]; omega
              clear HE h256 hmo
              go_wp2_with fail
              refine HRM.out.mono ?_
              rintro e w6 ⟨rfl, m6, hw6⟩
              have HI6 : Sealed (InfSt B w6 gx gr s most p1 l) := ⟨by rw [hw6]; exact HI3.out.drewN m6⟩
              have C6 : Sealed (InfChg B w w6) := ⟨by rw [hw6]; exact C3.out.drewN m6⟩
              have HNT6 : Sealed (TrSt B2 w6 gn nl) := ⟨by rw [hw6]; exact HNT3.out.chg (T := []) ((Chg.refl 0 [] w3).drewN m6) (by simp) (by simp)⟩
              have HFT6 : Sealed (TrSt B2 w6 gf fl) := ⟨by rw [hw6]; exact HFT3.out.chg (T := []) ((Chg.refl 0 [] w3).drewN m6) (by simp) (by simp)⟩
              clear hw6 HI3 C3 HRM HNT3 HFT3
              obtain ⟨A7, c7, hbk, hown⟩ := HI6.out.parts
              have x1 := hbk.cell 1 rfl
              have HO := Sealed.mk hown
              have HB0 : Sealed (B ≤ w6.heap.size) := ⟨HI6.out.2.2.1⟩
              have HGR : Sealed (∀ v1 w', w'.ownsRow B 5 1 v1 (l.length + 1) (nums .u8 (castL l) ++ [.int .u8 (n : Int)]) → w6.grownBy w' (Value.slice A7 l.length c7).ownBlock →
                  IsBlk w' gx [.pointer (some ⟨gr, 0, none⟩), .slice A7 l.length c7, .int .i64 most] 97 ∧ InfSt B (w'.setCell ⟨gx, 1, none⟩ v1) gx gr s most p1 (l ++ [n]) ∧ Chg B [97, 5] w6 (w'.setCell ⟨gx, 1, none⟩ v1)) := ⟨fun v1 w' h1 h2 =>
                HI6.out.grow (A := A7) (c := c7) (v1 := v1) (ys := [n]) (m := l.length + 1) (w' := w') rfl hown hbk (by rw [← castL_append, castL_snoc', nums_snoc]; exact h1) h2 (fun x hx => by simp at hx; omega)⟩
              clear hbk hown
              go_wp2_with ((with_reducible refine gate_dst (N := 55) rfl ?_); refine wp_app1 B rfl (.tmp 51) (.tmp 54) 41 5 (.int .u8 0) 1 rfl Try.underlying41 info_u8 rfl (by decide) _ l.length _ (.int .u8 (n : Int)) rfl rfl rfl HO.out HB0.out (by omega) ?_; intro v3 w7 ho3 hg3; have HG3 := Sealed.mk (HGR.out _ _ ho3 hg3); obtain ⟨A3, c3, rfl⟩ := own_slice ho3; have q3 := HG3.out.1.free 1; have r3 := HG3.out.1.cell 1 rfl; clear ho3 hg3)
              go_roundg k
              case measure => omega
              case rel => exact ⟨p1, l ++ [n], ⟨HG3.out.2.1⟩, ⟨HNT6.out.chg HG3.out.2.2 (by decide) (by decide)⟩, ⟨HFT6.out.chg HG3.out.2.2 (by decide) (by decide)⟩, HE2, HFU1, hl4.out, ⟨C6.out.trans (HG3.out.2.2.mono (Nat.le_refl _) (by simp))⟩⟩
end Go.Proofs.Ytmdlhbhdlhjakaa

namespace Go.Proofs.Ytmdlhbhdlhjakaa
open Go.RowKit

theorem xor_nat {n m : Nat} (hn : n ≤ 65535) (hm : m ≤ 65535) : n ^^^ m = 65535 ↔ n + m = 65535 := by
  have e2 : ∀ n, n ≤ 65535 → 65535 ^^^ n = 65535 - n := fun n h => by
    apply Nat.eq_of_testBit_eq
    intro i
    have h1 := Nat.testBit_two_pow_sub_succ (x := n) (n := 16) (by omega) i
    have h2 := Nat.testBit_two_pow_sub_one 16 i
    rw [show 2 ^ 16 - (n + 1) = 65535 - n by omega] at h1
    rw [show 2 ^ 16 - 1 = 65535 by decide] at h2
    rw [Nat.testBit_xor, h1, h2]
    by_cases hi : i < 16
    · simp [hi]
    · have : n.testBit i = false := Nat.testBit_lt_two_pow (Nat.lt_of_lt_of_le (show n < 2 ^ 16 by omega) (Nat.pow_le_pow_right (by decide) (by omega)))
      simp [hi, this]
  constructor
  · intro h
    have h3 : m = 65535 ^^^ n := by rw [← h, Nat.xor_comm n m, Nat.xor_assoc, Nat.xor_self, Nat.xor_zero]
    rw [e2 n hn] at h3; omega
  · intro h
    have h3 : m = 65535 ^^^ n := by rw [e2 n hn]; omega
    rw [h3, ← Nat.xor_assoc, Nat.xor_comm n, Nat.xor_assoc, Nat.xor_self, Nat.xor_zero]
theorem bits_xor_small {n m : Nat} (hn : n ≤ 65535) (hm : m ≤ 65535) : bits .xor .i64 (n : Int) (m : Int) = ((n ^^^ m : Nat) : Int) := by
  have hlt : n ^^^ m < 2 ^ 16 := Nat.xor_lt_two_pow (by omega) (by omega)
  simp only [bits, BitVec.ofInt_natCast, BitVec.toNat_xor, BitVec.toNat_ofNat]
  rw [Nat.mod_eq_of_lt (Nat.lt_of_le_of_lt hn (show 65535 < 2 ^ IntKind.i64.bits by decide)), Nat.mod_eq_of_lt (Nat.lt_of_le_of_lt hm (show 65535 < 2 ^ IntKind.i64.bits by decide))]
  exact wraps_i62 _ (by omega) (by omega)
theorem xor_test {n m : Nat} (hn : n ≤ 65535) (hm : m ≤ 65535) : (bits .xor .i64 (n : Int) (m : Int) != 65535) = !decide (n + m = 65535) := by
  rw [bits_xor_small hn hm]
  by_cases h : n + m = 65535
  · rw [(xor_nat hn hm).2 h]; simp [h]
  · have := mt (xor_nat hn hm).1 h
    simp [h]; omega
theorem bytesOf_extract (s : ByteArray) {q n : Nat} (h : q + n ≤ s.size) : bytesOf (s.extract q (q + n)) (s.extract q (q + n)).size = bytesAt s q n := by
  have hs : (s.extract q (q + n)).size = n := by simp [ByteArray.size_extract]; omega
  rw [hs]
  refine List.map_congr_left fun i hi => ?_
  have hi := List.mem_range.1 hi
  simp only [byteAt, hs, hi, dite_true, show q + i < s.size by omega]
  congr 1
  rw [ByteArray.getElem_extract]
theorem bytesAt_lt (s : ByteArray) (q n : Nat) : ∀ x ∈ bytesAt s q n, x < 256 := by
  intro x hx
  simp only [bytesAt, List.mem_map] at hx
  obtain ⟨i, _, rfl⟩ := hx
  exact byteAt_lt s _
section
variable {s : ByteArray} {most p n p1 m p2 e : Nat} {o : List Nat}
theorem storedS_e1 (h1 : getS s (8 * ((p + 7) / 8)) 16 = .error e) : storedS s most p o = .error e := by unfold storedS; rw [h1]
theorem storedS_e2 (h1 : getS s (8 * ((p + 7) / 8)) 16 = .ok (n, p1)) (h2 : getS s p1 16 = .error e) : storedS s most p o = .error e := by unfold storedS; rw [h1]; simp only; rw [h2]
theorem storedS_e3 (h1 : getS s (8 * ((p + 7) / 8)) 16 = .ok (n, p1)) (h2 : getS s p1 16 = .ok (m, p2)) (h3 : n + m ≠ 65535) : storedS s most p o = .error 4 := by unfold storedS; rw [h1]; simp only; rw [h2]; simp only; rw [if_pos h3]
theorem storedS_e4 (h1 : getS s (8 * ((p + 7) / 8)) 16 = .ok (n, p1)) (h2 : getS s p1 16 = .ok (m, p2)) (h3 : n + m = 65535) (h4 : s.size < p2 / 8 + n) : storedS s most p o = .error 5 := by unfold storedS; rw [h1]; simp only; rw [h2]; simp only; rw [if_neg (by omega), if_pos h4]
end

set_option maxRecDepth 100000 in
set_option maxHeartbeats 2000000 in
theorem istored_ok {B : Nat} {w : World} {gx gr : Nat} {s : ByteArray} {most p : Nat} {o : List Nat} (h : InfSt B w gx gr s most p o) (hs : s.size ≤ 1000000000) (hm : most ≤ 100000000) (ho : o.length ≤ most) :
    Calls Try.prog 89 #[.pointer (some ⟨gx, 0, none⟩)] w (InfPost B gx gr s most (storedS s most p o) w) := by
  obtain ⟨R, hR⟩ : ∃ R, R = storedS s most p o := ⟨_, rfl⟩
  rw [← hR]
  have HR := Sealed.mk hR
  have H := Sealed.mk h
  have HS : Sealed (s.size ≤ 140737488355328) := ⟨by omega⟩
  obtain ⟨A0, c0, hb0, _⟩ := h.parts
  have x0 := hb0.cell 0 rfl
  clear hR h hb0
  go_enter Try.func89, Try.ntmps89
  go_wp2_with fail
  refine (ralign_ok H.out.rd HS.out).mono ?_
  rintro e w1 ⟨rfl, hc, hr⟩
  have H1 := Sealed.mk (H.out.read hr hc)
  have C1 : Sealed (InfChg B w w1) := ⟨hc.mono H.out.2.1 (by simp)⟩
  obtain ⟨A1, c1, hb1, _⟩ := H1.out.parts
  have x1 := hb1.cell 0 rfl
  clear hc hr hb1 H x0
  go_wp2_with fail
  refine (get_any H1.out.rd HS.out 16 (by omega)).mono ?_
  rintro e w2 ⟨rfl, hc, hr⟩
  have H2 := Sealed.mk (H1.out.read hr hc)
  have C2 : Sealed (InfChg B w w2) := ⟨C1.out.trans (hc.mono H1.out.2.1 (by simp))⟩
  clear hc hr H1 C1 x1
  cases h1 : getS s (8 * ((p + 7) / 8)) 16 with
  | error e1 =>
    have HE : Sealed (R = .error 5) := ⟨by rw [HR.out, storedS_e1 h1, getS_err h1]⟩
    obtain rfl := getS_err h1
    simp only [valOf, errOf]
    clear h1
    go_wp2
    go_ret
    rw [HE.out]
    exact ⟨rfl, C2.out, fun o' q h => by cases h⟩
  | ok r1 =>
    obtain ⟨n, p1⟩ := r1
    have hg1 := getS_ok h1
    have hn16 : n ≤ 65535 := by have := val_lt (bit_le s) (8 * ((p + 7) / 8)) 16; omega
    have HP1 : Sealed (p1 = 8 * ((p + 7) / 8) + 16) := ⟨hg1.1⟩
    rw [h1] at H2
    have HH1 := Sealed.mk h1
    simp only [valOf, errOf, posOf] at H2 ⊢
    clear h1 hg1
    obtain ⟨A2, c2, hb2, _⟩ := H2.out.parts
    have x2 := hb2.cell 0 rfl
    clear hb2
    go_wp2_with fail
    refine (get_any H2.out.rd HS.out 16 (by omega)).mono ?_
    rintro e w3 ⟨rfl, hc, hr⟩
    have H3 := Sealed.mk (H2.out.read hr hc)
    have C3 : Sealed (InfChg B w w3) := ⟨C2.out.trans (hc.mono H2.out.2.1 (by simp))⟩
    clear hc hr H2 C2 x2
    cases h2 : getS s p1 16 with
    | error e2 =>
      have HE : Sealed (R = .error 5) := ⟨by rw [HR.out, storedS_e2 HH1.out h2, getS_err h2]⟩
      obtain rfl := getS_err h2
      simp only [valOf, errOf]
      clear h2
      go_wp2
      go_ret
      rw [HE.out]
      exact ⟨rfl, C3.out, fun o' q h => by cases h⟩
    | ok r2 =>
      obtain ⟨m, p2⟩ := r2
      have hg2 := getS_ok h2
      have hm16 : m ≤ 65535 := by have := val_lt (bit_le s) p1 16; omega
      obtain ⟨q, hq⟩ : ∃ q, p2 = 8 * q := ⟨(p + 7) / 8 + 4, by have := HP1.out; omega⟩
      subst hq
      rw [h2] at H3
      have HH2 := Sealed.mk h2
      simp only [valOf, errOf, posOf] at H3 ⊢
      have hxt := xor_test hn16 hm16
      clear h2 hg2
      by_cases hnm : n + m = 65535
      · have hx : (bits .xor .i64 (n : Int) (m : Int) != 65535) = false := by rw [hxt]; simp [hnm]
        have HNM := Sealed.mk hnm
        obtain ⟨A3, c3, hb3, _⟩ := H3.out.parts
        have x3 := hb3.cell 0 rfl
        clear hnm hxt hb3
        by_cases hsh : s.size < q + n
        · have HE : Sealed (R = .error 5) := ⟨by rw [HR.out, storedS_e4 HH1.out HH2.out HNM.out (by omega)]⟩
          have HB := Sealed.mk (rbytes_short H3.out.rd HS.out n (by omega) hsh)
          clear hsh
          go_wp2_with fail
          refine HB.out.mono ?_
          rintro e w4 ⟨rfl, hc, hr⟩
          have C4 : Sealed (InfChg B w w4) := ⟨C3.out.trans (hc.mono H3.out.2.1 (by simp))⟩
          clear hc hr
          go_wp2
          go_ret
          rw [HE.out]
          exact ⟨rfl, C4.out, fun o' q h => by cases h⟩
        · have HB := Sealed.mk (rbytes_ok H3.out.rd HS.out n (by omega) (by omega))
          have HE0 : Sealed (R = if most < o.length + n then .error 7 else .ok (o ++ bytesAt s q n, 8 * (q + n))) := ⟨by
            rw [HR.out, storedS_of HH1.out HH2.out HNM.out (by omega), show 8 * q / 8 = q by omega, Nat.mul_add]⟩
          have HSZ : Sealed (bytesOf (s.extract q (q + n)) (s.extract q (q + n)).size = bytesAt s q n ∧ (s.extract q (q + n)).size = n) := ⟨bytesOf_extract s (by omega), by simp [ByteArray.size_extract]; omega⟩
          generalize s.extract q (q + n) = y at *
          clear hsh
          go_wp2_with fail
          refine HB.out.mono ?_
          rintro e w4 ⟨rfl, hc, hr⟩
          have H4 := Sealed.mk (H3.out.read hr hc)
          have C4 : Sealed (InfChg B w w4) := ⟨C3.out.trans (hc.mono H3.out.2.1 (by simp))⟩
          clear hc hr H3 C3 HB x3
          have HRM := Sealed.mk (room_ok H4.out n (by omega) (by omega) (by omega) rfl)
          by_cases hmo : most < o.length + n
          · rw [if_pos hmo] at HRM
            have HE : Sealed (R = .error 7) := ⟨by rw [HE0.out, if_pos hmo]⟩
            clear HE0 hmo
            go_wp2_with fail
            refine HRM.out.mono ?_
            rintro e w6 ⟨rfl, m6, rfl⟩
            go_wp2
            go_ret
            rw [HE.out]
            exact ⟨rfl, C4.out.drewN m6, fun o' q h => by cases h⟩
          · rw [if_neg hmo] at HRM
            have HE : Sealed (R = .ok (o ++ bytesAt s q n, 8 * (q + n))) := ⟨by rw [HE0.out, if_neg hmo]⟩
            clear HE0 hmo
            go_wp2_with fail
            refine HRM.out.mono ?_
            rintro e w6 ⟨rfl, m6, hw6⟩
            have HI6 : Sealed (InfSt B w6 gx gr s most (8 * (q + n)) o) := ⟨by rw [hw6]; exact H4.out.drewN m6⟩
            have C6 : Sealed (InfChg B w w6) := ⟨by rw [hw6]; exact C4.out.drewN m6⟩
            clear hw6 H4 C4 HRM
            obtain ⟨A7, c7, hbk, hown⟩ := HI6.out.parts
            have x1 := hbk.cell 1 rfl
            have HO := Sealed.mk hown
            have HB0 : Sealed (B ≤ w6.heap.size) := ⟨HI6.out.2.2.1⟩
            have HGR : Sealed (∀ v1 w', w'.ownsRow B 5 1 v1 (o.length + y.size) (nums .u8 (castL o ++ castL (bytesOf y y.size))) → w6.grownBy w' (Value.slice A7 o.length c7).ownBlock →
                IsBlk w' gx [.pointer (some ⟨gr, 0, none⟩), .slice A7 o.length c7, .int .i64 most] 97 ∧ InfSt B (w'.setCell ⟨gx, 1, none⟩ v1) gx gr s most (8 * (q + n)) (o ++ bytesAt s q n) ∧ Chg B [97, 5] w6 (w'.setCell ⟨gx, 1, none⟩ v1)) := ⟨fun v1 w' h1 h2 =>
              HI6.out.grow (A := A7) (c := c7) (v1 := v1) (ys := bytesAt s q n) (m := o.length + y.size) (w' := w') (by rw [HSZ.out.2, bytesAt_len]) hown hbk (by rw [← HSZ.out.1]; exact h1) h2 (bytesAt_lt s q n)⟩
            clear hbk hown
            go_wp2_with ((with_reducible refine gate_dst (N := 65) rfl ?_); refine wp_app_str B rfl (.tmp 63) (.tmp 64) 41 9 5 rfl Try.underlying41 Try.underlying9 info_u8 _ o.length (castL o) y rfl rfl HO.out HB0.out (by rw [HSZ.out.2]; omega) ?_; intro v5 w7 ho3 hg3; have HG3 := Sealed.mk (HGR.out _ _ ho3 hg3); obtain ⟨A3, c3, rfl⟩ := own_slice ho3; have q3 := HG3.out.1.free 1; have r3 := HG3.out.1.cell 1 rfl; clear ho3 hg3)
            go_ret
            rw [HE.out]
            refine ⟨rfl, C6.out.trans (HG3.out.2.2.mono (Nat.le_refl _) (by simp)), fun o' q' h => ?_⟩
            simp only [Except.ok.injEq, Prod.mk.injEq] at h
            obtain ⟨rfl, rfl⟩ := h
            exact HG3.out.2.1
      · have hx : (bits .xor .i64 (n : Int) (m : Int) != 65535) = true := by rw [hxt]; simp [hnm]
        have HE : Sealed (R = .error 4) := ⟨by rw [HR.out, storedS_e3 HH1.out HH2.out hnm]⟩
        clear hnm hxt
        go_wp2
        go_ret
        rw [HE.out]
        exact ⟨rfl, C3.out, fun o' q h => by cases h⟩
end Go.Proofs.Ytmdlhbhdlhjakaa
