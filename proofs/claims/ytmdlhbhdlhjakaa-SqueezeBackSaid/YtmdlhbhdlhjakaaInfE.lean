/- The contract of package inflate's inflater: coded. -/
import Derived.Test.YtmdlhbhdlhjakaaInfD
set_option linter.unusedVariables false
set_option linter.unusedSimpArgs false
namespace Go.Proofs.Ytmdlhbhdlhjakaa
open Go.RowKit

theorem repeatS_err {s : ByteArray} {most k p e : Nat} {fl : List Int} {o : List Nat} (h : repeatS s most fl k p o = .error e) : 1 ≤ e ∧ e ≤ 7 := by
  unfold repeatS at h
  cases h1 : toldS s (lenT.getD k (0, 0)) p with
  | error e1 => rw [h1] at h; injection h with h; have := toldS_err h1; omega
  | ok r =>
    obtain ⟨n, p1⟩ := r
    rw [h1] at h
    simp only at h
    cases h2 : symS s fl p1 with
    | error e2 => rw [h2] at h; injection h with h; have := symS_err h2; omega
    | ok r =>
      obtain ⟨d, p2⟩ := r
      rw [h2] at h
      simp only at h
      split at h
      · injection h with h; omega
      · cases h3 : toldS s (distT.getD d (0, 0)) p2 with
        | error e3 => rw [h3] at h; injection h with h; have := toldS_err h3; omega
        | ok r =>
          obtain ⟨b, p3⟩ := r
          rw [h3] at h
          simp only at h
          split at h
          · injection h with h; omega
          · split at h
            · injection h with h; omega
            · cases h
section
variable {s : ByteArray} {most k p n p1 e : Nat} {nl fl : List Int} {o : List Nat}
theorem codedS_e1 (h : symS s nl p = .error e) : codedS s most nl fl (k + 1) p o = .error e := by rw [codedS, roundS_bad h]
theorem codedS_fin (h : symS s nl p = .ok (256, p1)) : codedS s most nl fl (k + 1) p o = .ok (o, p1) := by rw [codedS, roundS_fin_of h]
theorem codedS_e2 (h : symS s nl p = .ok (n, p1)) (h2 : 286 ≤ n) : codedS s most nl fl (k + 1) p o = .error 4 := by
  have e : roundS s most nl fl p o = .err 4 := by
    unfold roundS; rw [h]; simp only
    rw [if_neg (by omega), if_pos h2]
  rw [codedS, e]
theorem codedS_e3 (h : symS s nl p = .ok (n, p1)) (h2 : n < 286) (h3 : 256 < n) (h4 : repeatS s most fl (n - 257) p1 o = .error e) : codedS s most nl fl (k + 1) p o = .error e := by
  rw [codedS, roundS_rep_of h (by omega) h2 h3, h4]
theorem codedS_rep {o' : List Nat} {p2 : Nat} (h : symS s nl p = .ok (n, p1)) (h2 : n < 286) (h3 : 256 < n) (h4 : repeatS s most fl (n - 257) p1 o = .ok (o', p2)) : codedS s most nl fl (k + 1) p o = codedS s most nl fl k p2 o' := by
  rw [codedS, roundS_rep_of h (by omega) h2 h3, h4]
theorem codedS_e4 (h : symS s nl p = .ok (n, p1)) (h2 : n < 256) (h4 : most < o.length + 1) : codedS s most nl fl (k + 1) p o = .error 7 := by
  rw [codedS, roundS_lit_of h (by omega) (by omega) (by omega), if_pos h4]
theorem codedS_lit (h : symS s nl p = .ok (n, p1)) (h2 : n < 256) (h4 : ¬ most < o.length + 1) : codedS s most nl fl (k + 1) p o = codedS s most nl fl k p1 (o ++ [n]) := by
  rw [codedS, roundS_lit_of h (by omega) (by omega) (by omega), if_neg h4]
end

set_option maxRecDepth 100000 in
set_option maxHeartbeats 2000000 in
theorem coded_ok {B B2 : Nat} {w : World} {gx gr gn gf : Nat} {s : ByteArray} {most p : Nat} {o : List Nat} {nl fl : List Int} (F : Nat) (h : InfSt B w gx gr s most p o) (hN : TrSt B2 w gn nl) (hF : TrSt B2 w gf fl) (hs : s.size ≤ 1000000000)
    (hn : nl.length ≤ 320) (ha : nl.all lenOk = true) (h0 : 0 < nl.length) (hn' : fl.length ≤ 320) (ha' : fl.all lenOk = true) (h0' : 0 < fl.length) (hm : most ≤ 100000000) (ho : o.length ≤ most) (hFu : 8 * s.size < p + F) :
    Calls Try.prog 115 #[.pointer (some ⟨gx, 0, none⟩), .pointer (some ⟨gn, 0, none⟩), .pointer (some ⟨gf, 0, none⟩)] w (InfPost B gx gr s most (codedS s most nl fl F p o) w) := by
  obtain ⟨R, hR⟩ : ∃ R, R = codedS s most nl fl F p o := ⟨_, rfl⟩
  rw [← hR]
  have HR := Sealed.mk hR
  have H := Sealed.mk h
  have HNT := Sealed.mk hN
  have HFT := Sealed.mk hF
  have HA := Sealed.mk ha
  have HA' := Sealed.mk ha'
  have HS : Sealed (s.size ≤ 140737488355328) := ⟨by omega⟩
  have HFU := Sealed.mk hFu
  clear hR h hN hF ha ha' hFu
  go_enter Try.func115, Try.ntmps115
  go_wp2
  go_step3
  go_wp2
  go_step3
  go_wp2
  go_loopg [7, 8, 9, 10] F (fun k s7 s8 s9 s10 w' => ∃ (q : Nat) (l : List Nat), Sealed (InfSt B w' gx gr s most q l) ∧ Sealed (TrSt B2 w' gn nl) ∧ Sealed (TrSt B2 w' gf fl) ∧ Sealed (codedS s most nl fl k q l = R) ∧ Sealed (8 * s.size < q + k) ∧ l.length ≤ most ∧ Sealed (InfChg B w w'))
  case atStart => exact ⟨p, o, H, HNT, HFT, ⟨HR.out.symm⟩, HFU, ho, ⟨Chg.refl _ _ _⟩⟩
  case round =>
    clear H HNT HFT HR HFU ho
    obtain ⟨q, l, H, HNT, HFT, HE, HFU, hl, HC⟩ := hrel
    obtain ⟨k, rfl⟩ : ∃ k, gk = k + 1 := ⟨gk - 1, by have := HFU.out; have := H.out.rd.le; omega⟩
    obtain ⟨A2, c2, hb2, _⟩ := H.out.parts
    have x0 := hb2.cell 0 rfl
    have HSY := Sealed.mk (sym_ok HNT.out H.out HS.out hn HA.out h0)
    clear hb2
    go_wp2_with fail
    refine HSY.out.mono ?_
    rintro e w3 ⟨rfl, hI, hT, hc⟩
    have HNT3 := Sealed.mk hT
    have HFT3 := Sealed.mk (HFT.out.chg hc (by decide) (by decide))
    have C3 : Sealed (InfChg B w w3) := ⟨HC.out.trans (hc.mono H.out.2.1 (by simp))⟩
    have HI3 := Sealed.mk hI
    clear hI hT hc HNT HFT HC HSY x0
    cases h2 : symS s nl q with
    | error e2 =>
      have hE := symS_err h2
      have HE2 : Sealed (R = .error e2) := ⟨by rw [← HE.out, codedS_e1 h2]⟩
      simp only [valOf, errOf]
      have he2 : ((e2 : Int) != 0) = true := by simp; omega
      clear h2 HE HI3 hE
      go_wp2
      rw [Exit.noGoto_ret]
      go_ret
      rw [HE2.out]
      exact ⟨rfl, C3.out, fun o' q h => by cases h⟩
    | ok r2 =>
      obtain ⟨n, p1⟩ := r2
      have hpos := symS_pos h2
      rw [h2] at HI3
      simp only [valOf, errOf, posOf] at HI3 ⊢
      have H2 := Sealed.mk h2
      have HFU1 : Sealed (8 * s.size < p1 + k) := ⟨by have := HFU.out; omega⟩
      clear h2 hpos HFU
      by_cases h256 : n = 256
      · subst h256
        have HE2 : Sealed (R = .ok (l, p1)) := ⟨by rw [← HE.out, codedS_fin H2.out]⟩
        clear HE
        go_wp2
        rw [Exit.noGoto_ret]
        go_ret
        rw [HE2.out]
        refine ⟨rfl, C3.out, fun o' q h => ?_⟩
        simp only [Except.ok.injEq, Prod.mk.injEq] at h
        obtain ⟨rfl, rfl⟩ := h
        exact HI3.out
      · have h256' : ((n : Int) == 256) = false := by simp; omega
        by_cases h286 : 286 ≤ n
        · have HE2 : Sealed (R = .error 4) := ⟨by rw [← HE.out, codedS_e2 H2.out h286]⟩
          clear HE HI3 h256
          go_wp2
          rw [Exit.noGoto_ret]
          go_ret
          rw [HE2.out]
          exact ⟨rfl, C3.out, fun o' q h => by cases h⟩
        · by_cases hgt : 256 < n
          · have HRP := Sealed.mk (repeat_ok HI3.out HFT3.out hs hn' HA'.out h0' (n - 257) (by omega) hm hl (K := (n : Int) - 256 - 1) (by omega))
            clear h256
            go_wp2_with fail
            refine HRP.out.mono ?_
            rintro e w4 ⟨rfl, hc, hok⟩
            have HNT4 := Sealed.mk (HNT3.out.chg hc (by decide) (by decide))
            have HFT4 := Sealed.mk (HFT3.out.chg hc (by decide) (by decide))
            have C4 := Sealed.mk (C3.out.trans hc)
            have HOK := Sealed.mk hok
            clear hc hok HNT3 HFT3 C3 HRP
            cases h4 : repeatS s most fl (n - 257) p1 l with
            | error e4 =>
              have hE := repeatS_err h4
              have HE2 : Sealed (R = .error e4) := ⟨by rw [← HE.out, codedS_e3 H2.out (by omega) hgt h4]⟩
              simp only [errOf]
              have he2 : ((e4 : Int) != 0) = true := by simp; omega
              clear h4 HE HOK hE
              go_wp2
              rw [Exit.noGoto_ret]
              go_ret
              rw [HE2.out]
              exact ⟨rfl, C4.out, fun o' q h => by cases h⟩
            | ok r4 =>
              obtain ⟨o4, p4⟩ := r4
              have hp4 := repeatS_pos h4
              have HI4 := Sealed.mk (HOK.out o4 p4 h4)
              have HE2 : Sealed (codedS s most nl fl k p4 o4 = R) := ⟨by rw [← HE.out, codedS_rep H2.out (by omega) hgt h4]⟩
              have HFU2 : Sealed (8 * s.size < p4 + k) := ⟨by have := HFU1.out; omega⟩
              have hl4 : o4.length ≤ most := by omega
              simp only [errOf]
              clear h4 HE HOK hp4
              go_wp2
              go_roundg k
              case measure => omega
              case rel => exact ⟨p4, o4, HI4, HNT4, HFT4, HE2, HFU2, hl4, C4⟩
          · have HRM := Sealed.mk (room_ok HI3.out 1 (by omega) (by omega) (by omega) (N := 1) rfl)
            by_cases hmo : most < l.length + 1
            · rw [if_pos hmo] at HRM
              have HE2 : Sealed (R = .error 7) := ⟨by rw [← HE.out, codedS_e4 H2.out (by omega) hmo]⟩
              clear hmo HE h256
              go_wp2_with fail
              refine HRM.out.mono ?_
              rintro e w6 ⟨rfl, m6, rfl⟩
              go_wp2
              rw [Exit.noGoto_ret]
              go_ret
              rw [HE2.out]
              exact ⟨rfl, C3.out.drewN m6, fun o' q h => by cases h⟩
            · rw [if_neg hmo] at HRM
              have HE2 : Sealed (codedS s most nl fl k p1 (l ++ [n]) = R) := ⟨by rw [← HE.out, codedS_lit H2.out (by omega) hmo]⟩
              have hn255 : n < 256 := by omega
              have hl4 : Sealed ((l ++ [n]).length ≤ most) := ⟨by simp; omega⟩
              have hu8 : IntKind.u8.wrap (n : Int) = (n : Int) := by rw [IntKind.wrap_u8]; omega
              clear HE h256 hmo
              go_wp2_with fail
              refine HRM.out.mono ?_
              rintro e w6 ⟨rfl, m6, hw6⟩
              have HI6 : Sealed (InfSt B w6 gx gr s most p1 l) := ⟨by rw [hw6]; exact HI3.out.drewN m6⟩
              have C6 : Sealed (InfChg B w w6) := ⟨by rw [hw6]; exact C3.out.drewN m6⟩
              have HNT6 : Sealed (TrSt B2 w6 gn nl) := ⟨by rw [hw6]; exact HNT3.out.chg (T := []) ((Chg.refl 0 [] w3).drewN m6) (by simp) (by simp)⟩
              have HFT6 : Sealed (TrSt B2 w6 gf fl) := ⟨by rw [hw6]; exact HFT3.out.chg (T := []) ((Chg.refl 0 [] w3).drewN m6) (by simp) (by simp)⟩
              clear hw6 HI3 C3 HRM HNT3 HFT3
              obtain ⟨A7, c7, hbk, hown⟩ := HI6.out.parts
              have x1 := hbk.cell 1 rfl
              have HO := Sealed.mk hown
              have HB0 : Sealed (B ≤ w6.heap.size) := ⟨HI6.out.2.2.1⟩
              have HGR : Sealed (∀ v1 w', w'.ownsRow B 5 1 v1 (l.length + 1) (nums .u8 (castL l) ++ [.int .u8 (n : Int)]) → w6.grownBy w' (Value.slice A7 l.length c7).ownBlock →
                  IsBlk w' gx [.pointer (some ⟨gr, 0, none⟩), .slice A7 l.length c7, .int .i64 most] 97 ∧ InfSt B (w'.setCell ⟨gx, 1, none⟩ v1) gx gr s most p1 (l ++ [n]) ∧ Chg B [97, 5] w6 (w'.setCell ⟨gx, 1, none⟩ v1)) := ⟨fun v1 w' h1 h2 =>
                HI6.out.grow (A := A7) (c := c7) (v1 := v1) (ys := [n]) (m := l.length + 1) (w' := w') rfl hown hbk (by rw [← castL_append, castL_snoc', nums_snoc]; exact h1) h2 (fun x hx => by simp at hx; omega)⟩
              clear hbk hown
              go_wp2_with ((with_reducible refine gate_dst (N := 55) rfl ?_); refine wp_app1 B rfl (.tmp 51) (.tmp 54) 41 5 (.int .u8 0) 1 rfl Try.underlying41 info_u8 rfl (by decide) _ l.length _ (.int .u8 (n : Int)) rfl rfl rfl HO.out HB0.out (by omega) ?_; intro v3 w7 ho3 hg3; have HG3 := Sealed.mk (HGR.out _ _ ho3 hg3); obtain ⟨A3, c3, rfl⟩ := own_slice ho3; have q3 := HG3.out.1.free 1; have r3 := HG3.out.1.cell 1 rfl; clear ho3 hg3)
              go_roundg k
              case measure => omega
              case rel => exact ⟨p1, l ++ [n], ⟨HG3.out.2.1⟩, ⟨HNT6.out.chg HG3.out.2.2 (by decide) (by decide)⟩, ⟨HFT6.out.chg HG3.out.2.2 (by decide) (by decide)⟩, HE2, HFU1, hl4.out, ⟨C6.out.trans (HG3.out.2.2.mono (Nat.le_refl _) (by simp))⟩⟩
end Go.Proofs.Ytmdlhbhdlhjakaa
