/- The contract of package inflate's inflater: row. -/
import Derived.Test.YtmdlhbhdlhjakaaM26
set_option linter.unusedVariables false
set_option linter.unusedSimpArgs false
namespace Go.Proofs.Ytmdlhbhdlhjakaa
open Go.RowKit

section
variable {s : ByteArray} {tl : List Int} {many k q n p1 t p2 e : Nat} {row : List Nat}
theorem rowS_end (h : many ≤ row.length) : rowS s tl many (k + 1) q row = .ok (row, q) := by rw [rowS, if_pos h]
theorem rowS_e1 (h : row.length < many) (h1 : symS s tl q = .error e) : rowS s tl many (k + 1) q row = .error e := by rw [rowS, if_neg (by omega), h1]
theorem rowS_e2 (h : row.length < many) (h1 : symS s tl q = .ok (n, p1)) (h2 : n = 16 ∧ row.length = 0) : rowS s tl many (k + 1) q row = .error 4 := by
  rw [rowS, if_neg (by omega), h1]; simp only; rw [if_pos h2]
theorem rowS_e3 (h : row.length < many) (h1 : symS s tl q = .ok (n, p1)) (h2 : ¬ (n = 16 ∧ row.length = 0)) (h3 : toldS s (spanOf n) p1 = .error e) : rowS s tl many (k + 1) q row = .error e := by
  rw [rowS, if_neg (by omega), h1]; simp only; rw [if_neg h2, h3]
theorem rowS_e4 (h : row.length < many) (h1 : symS s tl q = .ok (n, p1)) (h2 : ¬ (n = 16 ∧ row.length = 0)) (h3 : toldS s (spanOf n) p1 = .ok (t, p2)) (h4 : many < row.length + t) : rowS s tl many (k + 1) q row = .error 4 := by
  rw [rowS, if_neg (by omega), h1]; simp only; rw [if_neg h2, h3]; simp only; rw [if_pos h4]
theorem rowS_go (h : row.length < many) (h1 : symS s tl q = .ok (n, p1)) (h2 : ¬ (n = 16 ∧ row.length = 0)) (h3 : toldS s (spanOf n) p1 = .ok (t, p2)) (h4 : ¬ many < row.length + t) : rowS s tl many (k + 1) q row = rowS s tl many k p2 (row ++ List.replicate t (whatOf n row)) := by
  rw [rowS, if_neg (by omega), h1]; simp only; rw [if_neg h2, h3]; simp only; rw [if_neg h4]
end
theorem spanOf_bd (n : Nat) : 1 ≤ (spanOf n).1 ∧ (spanOf n).1 ≤ 11 ∧ (spanOf n).2 ≤ 7 := by
  unfold spanOf
  split
  · decide
  · split
    · decide
    · split <;> decide
def RowPost (B : Nat) (gx gr : Nat) (s : ByteArray) (most : Nat) (o : List Nat) (R : Except Nat (List Nat × Nat)) (w : World) (e : Ending) (w' : World) : Prop :=
  InfChg B w w' ∧ match R with
  | .error er => e = .returned (.tuple #[.slice none 0 0, .int .i64 er]) ∧ 1 ≤ er
  | .ok (row, q) => ∃ A c, e = .returned (.tuple #[.slice A row.length c, .int .i64 0]) ∧ Reads w' .i64 A (castL row) ∧ row.length ≤ c ∧ c ≤ 9223372036854775807 ∧ InfSt B w' gx gr s most q o
theorem own_caps {w : World} {base n c size : Nat} {e : TypeId} {A : Option Addr} {xs : List Value} (h : w.ownsRow base e size (.slice A n c) n xs) : n ≤ c ∧ c ≤ 9223372036854775807 := by
  rcases h.2 with ⟨h1, h2⟩ | ⟨g, cap, cur, h1, _, _, h3, h4, _⟩
  · injection h1 with _ h5 h6; omega
  · injection h1 with _ h5 h6
    simp only [maxLen] at h4
    omega
theorem castL_getD (l : List Nat) (i : Nat) : (castL l).getD i 0 = ((l.getD i 0 : Nat) : Int) := by
  simp only [castL, List.getD_eq_getElem?_getD, List.getElem?_map]
  cases l[i]? <;> rfl

set_option maxRecDepth 100000 in
set_option maxHeartbeats 4000000 in
theorem irow_ok {B B2 : Nat} {w : World} {gx gr gt : Nat} {s : ByteArray} {most p : Nat} {o : List Nat} {tl : List Int} (h : InfSt B w gx gr s most p o) (ht : TrSt B2 w gt tl) (hs : s.size ≤ 1000000000) (hn : tl.length = 19) (ha : tl.all lenOk = true) (many : Nat) (hmany : many ≤ 1000) {M : Int} (hM : M = (many : Int)) :
    Calls Try.prog 117 #[.pointer (some ⟨gx, 0, none⟩), .pointer (some ⟨gt, 0, none⟩), .int .i64 M] w (RowPost B gx gr s most o (rowS s tl many (many + 1) p []) w) := by
  subst hM
  obtain ⟨R, hR⟩ : ∃ R, R = rowS s tl many (many + 1) p [] := ⟨_, rfl⟩
  rw [← hR]
  have HR := Sealed.mk hR
  have H := Sealed.mk h
  have HT := Sealed.mk ht
  have HS : Sealed (s.size ≤ 140737488355328) := ⟨by omega⟩
  have HN := Sealed.mk hn
  have HA := Sealed.mk ha
  clear hR h ht hn ha
  go_enter Try.func117, Try.ntmps117
  go_wp2_with fail
  refine (filler_any w many).mono ?_
  rintro e w1 ⟨gm, gv, rfl, hgm, hf, hb⟩
  have H1 := Sealed.mk (H.out.below hb)
  have C1 : Sealed (InfChg B w w1) := ⟨Chg.of_below hb⟩
  have HF1 := Sealed.mk hf
  have GV : w.heap.size ≤ gv := by have := hf.1; omega
  generalize w1.heap.size = C at *
  clear hf hb H hgm
  go_wp2
  go_loopg [10, 11, 12, 13, 14, 15] (many + 1) (fun k s10 s11 s12 s13 s14 s15 w' => ∃ (q : Nat) (row : List Nat), Sealed (InfSt B w' gx gr s most q o) ∧ Sealed (FilSt C w' gm gv many row) ∧ Sealed (rowS s tl many k q row = R) ∧ Sealed (InfChg B w w') ∧ row.length ≤ many ∧ Sealed (many < row.length + k))
  case atStart => exact ⟨p, [], H1, HF1, ⟨HR.out.symm⟩, C1, by simp, ⟨by simp⟩⟩
  case round =>
    clear H1 HF1 HR C1
    obtain ⟨q, row, H, HF, HE, HC, hl, HFU⟩ := hrel
    obtain ⟨k, rfl⟩ : ∃ k, gk = k + 1 := ⟨gk - 1, by have := HFU.out; omega⟩
    obtain ⟨_, A2, c2, hgv, hown⟩ := HF.out.parts
    have cv := hgv.cell 0 rfl
    by_cases hltm : row.length < many
    · have hlt' : decide (row.length < many) = true := decide_eq_true hltm
      obtain ⟨A3, c3, hb3, _⟩ := H.out.parts
      have x3 := hb3.cell 0 rfl
      have HSY := Sealed.mk (sym_ok (HT.out.chg HC.out (by decide) (by decide)) H.out HS.out (by rw [HN.out]; decide) HA.out (by rw [HN.out]; decide))
      clear hb3 hgv hown
      go_wp2_with fail
      refine HSY.out.mono ?_
      rintro e w3 ⟨rfl, hI, _, hc⟩
      have C3 : Sealed (InfChg B w w3) := ⟨HC.out.trans (hc.mono H.out.2.1 (by simp))⟩
      have HF3 := Sealed.mk (HF.out.chg hc (by decide) (by decide))
      have HI := Sealed.mk hI
      clear hI hc H HF HC HSY x3 cv
      cases h2 : symS s tl q with
      | error e2 =>
        have hE := symS_err h2
        have HE2 : Sealed (R = .error e2) := ⟨by rw [← HE.out, rowS_e1 hltm h2]⟩
        simp only [valOf, errOf]
        have he2 : ((e2 : Int) != 0) = true := by simp; omega
        clear h2
        go_wp2
        go_ret2
        rw [HE2.out]
        exact ⟨C3.out, rfl, hE.1⟩
      | ok r2 =>
        obtain ⟨n, p1⟩ := r2
        have hn19 := symS_lt h2 (by rw [HN.out]; decide)
        rw [HN.out] at hn19
        have HH2 := Sealed.mk h2
        rw [h2] at HI
        simp only [valOf, errOf, posOf] at HI ⊢
        have HTL : Sealed (∀ (w' : World) (A D : Int), A = ((spanOf n).1 : Int) → D = ((spanOf n).2 : Int) → InfSt B w' gx gr s most p1 o → Calls Try.prog 128 #[.pointer (some ⟨gx, 0, none⟩), .agg #[.int .i64 A, .int .i64 D]] w' fun e w'' => e = .returned (.tuple #[.int .i64 (valOf (spanOf n).1 (toldS s (spanOf n) p1)), .int .i64 (errOf (toldS s (spanOf n) p1))]) ∧ InfSt B w'' gx gr s most (posOf p1 (toldS s (spanOf n) p1)) o ∧ InfChg B w' w'') :=
          ⟨fun w' A D hA hD h => by subst hA hD; exact told_ok h HS.out (spanOf n).1 (spanOf n).2 (by have := spanOf_bd n; omega) (by have := spanOf_bd n; omega)⟩
        have HBD : Sealed (∀ t p2, toldS s (spanOf n) p1 = .ok (t, p2) → 1 ≤ t ∧ t ≤ 10000) := ⟨fun t p2 h => by
          have h1 := spanOf_bd n
          have h2 := toldS_bd h (by omega)
          omega⟩
        clear h2
        by_cases h16 : n = 16
        · subst h16
          by_cases hz : row.length = 0
          · have HE2 : Sealed (R = .error 4) := ⟨by rw [← HE.out, rowS_e2 hltm HH2.out ⟨rfl, hz⟩]⟩
            obtain ⟨_, A4, c4, hgv, _⟩ := HF3.out.parts
            have HGV := Sealed.mk hgv
            clear hgv
            go_wp2_with ((with_reducible refine gate_dst (N := 13) rfl ?_); refine ev_box (cs := [.int .i64 0, .int .i64 0]) (t := 164) ?hg ?hr ?_; (case hg => rfl); (case hr => first | (go_simp; done) | (go_simp; rfl)); intro g4 w4 hg4 hb4 hB4 hs4; have GE4 : Sealed (w3.heap.size ≤ g4) := ⟨by rw [hg4]; exact Nat.le_refl _⟩; have L4 := Sealed.mk hB4; have y0 := hb4.cell 0 rfl; have y1 := hb4.cell 1 rfl; have f0 := hb4.free 0; have f1 := hb4.free 1; have B4 := Sealed.mk hb4; have hne : gv ≠ g4 := (by have := HF3.out.2.1; have := HF3.out.2.2.1; have := GE4.out; omega); have zv := (((HGV.out.below' hB4).far (p := ⟨g4, 0, none⟩) hne (.int .i64 1)).far (p := ⟨g4, 1, none⟩) hne (.int .i64 0)).cell 0 rfl; clear hg4 hb4 hB4 hs4)
            go_ret2
            rw [HE2.out]
            exact ⟨C3.out.below_step (by repeat (first | exact L4.out | (refine Below.setCell ?_ GE4.out _) | (refine Below.drew ?_))), rfl, by omega⟩
          · obtain ⟨_, A4, c4, hgv, hown⟩ := HF3.out.parts
            obtain ⟨g5, c5, he5⟩ := own_head2 hown (by omega)
            injection he5 with e1 e2 e3
            subst e1
            subst e3
            clear e2
            have HGV := Sealed.mk hgv
            have xl := own_cell hown (i := row.length - 1) (by omega)
            rw [add_plain, castL_getD] at xl
            obtain ⟨L, hL⟩ : ∃ L, L = row.getD (row.length - 1) 0 := ⟨_, rfl⟩
            rw [← hL] at xl
            have HWH : Sealed (whatOf 16 row = L) := ⟨by rw [hL]; rfl⟩
            have HN16 : Sealed (¬ (16 = 16 ∧ row.length = 0)) := ⟨by omega⟩
            have h5lt : Sealed (g5 < w3.heap.size) := ⟨own_lt hown g5 rfl⟩
            have XL := Sealed.mk xl
            have hz' : ((row.length : Int) == 0) = false := beq_eq_false_iff_ne.2 (by omega)
            have hi1 : 0 ≤ (row.length : Int) - 1 := by omega
            have hi2 : (row.length : Int) - 1 < (row.length : Int) := by omega
            have hi3 : ((row.length : Int) - 1).toNat = row.length - 1 := by omega
            have hi4 : 1 ≤ (row.length : Int) := by omega
            clear hgv hown hL xl
            go_wp2_with ((with_reducible refine gate_dst (N := 13) rfl ?_); refine ev_box (cs := [.int .i64 0, .int .i64 0]) (t := 164) ?hg ?hr ?_; (case hg => rfl); (case hr => first | (go_simp; done) | (go_simp; rfl)); intro g4 w4 hg4 hb4 hB4 hs4; have GE4 : Sealed (w3.heap.size ≤ g4) := ⟨by rw [hg4]; exact Nat.le_refl _⟩; have L4 := Sealed.mk hB4; have y0 := hb4.cell 0 rfl; have y1 := hb4.cell 1 rfl; have f0 := hb4.free 0; have f1 := hb4.free 1; have B4 := Sealed.mk hb4; have hne : gv ≠ g4 := (by have := HF3.out.2.1; have := HF3.out.2.2.1; have := GE4.out; omega); have zv := (((HGV.out.below' hB4).far (p := ⟨g4, 0, none⟩) hne (.int .i64 1)).far (p := ⟨g4, 1, none⟩) hne (.int .i64 0)).cell 0 rfl; have hne5 : g5 ≠ g4 := (by have := h5lt.out; have := GE4.out; omega); have zl : ((w4.setCell ⟨g4, 0, none⟩ (.int .i64 1)).setCell ⟨g4, 1, none⟩ (.int .i64 0)).cell? ⟨g5, row.length - 1, none⟩ = some (.int .i64 (L : Int)) := (((hB4.setCell (p := ⟨g4, 0, none⟩) GE4.out (.int .i64 1)).setCell (p := ⟨g4, 1, none⟩) GE4.out (.int .i64 0)).cell (p := ⟨g5, row.length - 1, none⟩) h5lt.out).trans XL.out; have z0 := ((((hb4.set 0 (.int .i64 1)).set 1 (.int .i64 0)).set 0 (.int .i64 3)).set 1 (.int .i64 2)).cell 0 rfl; have z1 := ((((hb4.set 0 (.int .i64 1)).set 1 (.int .i64 0)).set 0 (.int .i64 3)).set 1 (.int .i64 2)).cell 1 rfl; clear hg4 hb4 hB4 hs4)
            go_region
            go_wp2_with fail
            refine (HTL.out _ _ _ (by rfl) (by rfl) (HI.out.below (by repeat (first | exact L4.out | (refine Below.setCell ?_ GE4.out _) | (refine Below.drew ?_))))).mono ?_
            rintro e w5 ⟨rfl, hI, hc⟩
            have C5 : Sealed (InfChg B w w5) := ⟨(C3.out.below_step (by repeat (first | exact L4.out | (refine Below.setCell ?_ GE4.out _) | (refine Below.drew ?_)))).trans hc⟩
            have HF5 : Sealed (FilSt C w5 gm gv many row) := ⟨(HF3.out.chg (T := []) (Chg.of_below (B := 0) (by repeat (first | exact L4.out | (refine Below.setCell ?_ GE4.out _) | (refine Below.drew ?_)))) (by simp) (by simp)).chg hc (by decide) (by decide)⟩
            have HI5 := Sealed.mk hI
            clear hI hc HI C3 HF3 HTL
            cases h3 : toldS s (spanOf 16) p1 with
            | error e3 =>
              have HE2 : Sealed (R = .error 5) := ⟨by rw [← HE.out, rowS_e3 hltm HH2.out (fun h => hz h.2) h3, toldS_err h3]⟩
              obtain rfl := toldS_err h3
              simp only [valOf, errOf]
              clear h3
              go_wp2
              go_ret2
              rw [HE2.out]
              exact ⟨C5.out, rfl, by omega⟩
            | ok r3 =>
              obtain ⟨t, p2⟩ := r3
              have htb := HBD.out t p2 h3
              rw [h3] at HI5
              have HH3 := Sealed.mk h3
              simp only [valOf, errOf, posOf] at HI5 ⊢
              clear h3
              have HPU := Sealed.mk (fput_ok HF5.out L t (by omega) (by omega) (by omega) rfl)
              go_wp2_with fail
              refine HPU.out.mono ?_
              rintro e w6 ⟨hc, hbad, hok⟩
              have C6 := Sealed.mk (C5.out.new_step hc GV)
              have HI6 := Sealed.mk (HI5.out.chg hc (by decide) (by decide) (by decide))
              have HBAD := Sealed.mk hbad
              have HOK := Sealed.mk hok
              clear hc hbad hok HPU HF5 C5 HI5
              by_cases hfull : many < row.length + t
              · obtain rfl := HBAD.out hfull
                have HE2 : Sealed (R = .error 4) := ⟨by rw [← HE.out, rowS_e4 hltm HH2.out (fun h => hz h.2) HH3.out hfull]⟩
                clear HBAD HOK hfull
                go_wp2
                go_ret2
                rw [HE2.out]
                exact ⟨C6.out, rfl, by omega⟩
              · obtain ⟨rfl, hf⟩ := HOK.out hfull
                have HF6 := Sealed.mk hf
                have HE2 : Sealed (rowS s tl many k p2 (row ++ List.replicate t L) = R) := ⟨by rw [← HE.out, rowS_go hltm HH2.out (fun h => hz h.2) HH3.out hfull, HWH.out]⟩
                have HLN : Sealed ((row ++ List.replicate t L).length = row.length + t) := ⟨by simp⟩
                clear HBAD HOK hf
                go_wp2
                go_roundg k
                case measure => omega
                case rel => exact ⟨p2, row ++ List.replicate t L, HI6, HF6, HE2, C6, by rw [HLN.out]; omega, ⟨by rw [HLN.out]; have := HFU.out; omega⟩⟩
        · have h16' : ((n : Int) == 16) = false := by simp; omega
          by_cases h17 : n = 17
          · subst h17
            have HN16 : Sealed (¬ (17 = 16 ∧ row.length = 0)) := ⟨by omega⟩
            have HWH : Sealed (whatOf 17 row = 0) := ⟨rfl⟩
            go_wp2_with ((with_reducible refine gate_dst (N := 13) rfl ?_); refine ev_box (cs := [.int .i64 0, .int .i64 0]) (t := 164) ?hg ?hr ?_; (case hg => rfl); (case hr => first | (go_simp; done) | (go_simp; rfl)); intro g4 w4 hg4 hb4 hB4 hs4; have GE4 : Sealed (w3.heap.size ≤ g4) := ⟨by rw [hg4]; exact Nat.le_refl _⟩; have L4 := Sealed.mk hB4; have y0 := hb4.cell 0 rfl; have y1 := hb4.cell 1 rfl; have f0 := hb4.free 0; have f1 := hb4.free 1; have z0 := ((((hb4.set 0 (.int .i64 1)).set 1 (.int .i64 0)).set 0 (.int .i64 3)).set 1 (.int .i64 3)).cell 0 rfl; have z1 := ((((hb4.set 0 (.int .i64 1)).set 1 (.int .i64 0)).set 0 (.int .i64 3)).set 1 (.int .i64 3)).cell 1 rfl; clear hg4 hb4 hB4 hs4)
            refine (HTL.out _ _ _ (by rfl) (by rfl) (HI.out.below (by repeat (first | exact L4.out | (refine Below.setCell ?_ GE4.out _) | (refine Below.drew ?_))))).mono ?_
            rintro e w5 ⟨rfl, hI, hc⟩
            have C5 : Sealed (InfChg B w w5) := ⟨(C3.out.below_step (by repeat (first | exact L4.out | (refine Below.setCell ?_ GE4.out _) | (refine Below.drew ?_)))).trans hc⟩
            have HF5 : Sealed (FilSt C w5 gm gv many row) := ⟨(HF3.out.chg (T := []) (Chg.of_below (B := 0) (by repeat (first | exact L4.out | (refine Below.setCell ?_ GE4.out _) | (refine Below.drew ?_)))) (by simp) (by simp)).chg hc (by decide) (by decide)⟩
            have HI5 := Sealed.mk hI
            clear hI hc HI C3 HF3 HTL
            cases h3 : toldS s (spanOf 17) p1 with
            | error e3 =>
              have HE2 : Sealed (R = .error 5) := ⟨by rw [← HE.out, rowS_e3 hltm HH2.out HN16.out h3, toldS_err h3]⟩
              obtain rfl := toldS_err h3
              simp only [valOf, errOf]
              clear h3
              go_wp2
              go_ret2
              rw [HE2.out]
              exact ⟨C5.out, rfl, by omega⟩
            | ok r3 =>
              obtain ⟨t, p2⟩ := r3
              have htb := HBD.out t p2 h3
              rw [h3] at HI5
              have HH3 := Sealed.mk h3
              simp only [valOf, errOf, posOf] at HI5 ⊢
              clear h3
              have HPU := Sealed.mk (fput_ok HF5.out 0 t (by omega) (by omega) (by omega) rfl)
              go_wp2_with fail
              refine HPU.out.mono ?_
              rintro e w6 ⟨hc, hbad, hok⟩
              have C6 := Sealed.mk (C5.out.new_step hc GV)
              have HI6 := Sealed.mk (HI5.out.chg hc (by decide) (by decide) (by decide))
              have HBAD := Sealed.mk hbad
              have HOK := Sealed.mk hok
              clear hc hbad hok HPU HF5 C5 HI5
              by_cases hfull : many < row.length + t
              · obtain rfl := HBAD.out hfull
                have HE2 : Sealed (R = .error 4) := ⟨by rw [← HE.out, rowS_e4 hltm HH2.out HN16.out HH3.out hfull]⟩
                clear HBAD HOK hfull
                go_wp2
                go_ret2
                rw [HE2.out]
                exact ⟨C6.out, rfl, by omega⟩
              · obtain ⟨rfl, hf⟩ := HOK.out hfull
                have HF6 := Sealed.mk hf
                have HE2 : Sealed (rowS s tl many k p2 (row ++ List.replicate t 0) = R) := ⟨by rw [← HE.out, rowS_go hltm HH2.out HN16.out HH3.out hfull, HWH.out]⟩
                have HLN : Sealed ((row ++ List.replicate t 0).length = row.length + t) := ⟨by simp⟩
                clear HBAD HOK hf
                go_wp2
                go_roundg k
                case measure => omega
                case rel => exact ⟨p2, row ++ List.replicate t 0, HI6, HF6, HE2, C6, by rw [HLN.out]; omega, ⟨by rw [HLN.out]; have := HFU.out; omega⟩⟩
          · have h17' : ((n : Int) == 17) = false := by simp; omega
            by_cases h18 : n = 18
            · subst h18
              have HN16 : Sealed (¬ (18 = 16 ∧ row.length = 0)) := ⟨by omega⟩
              have HWH : Sealed (whatOf 18 row = 0) := ⟨rfl⟩
              go_wp2_with ((with_reducible refine gate_dst (N := 13) rfl ?_); refine ev_box (cs := [.int .i64 0, .int .i64 0]) (t := 164) ?hg ?hr ?_; (case hg => rfl); (case hr => first | (go_simp; done) | (go_simp; rfl)); intro g4 w4 hg4 hb4 hB4 hs4; have GE4 : Sealed (w3.heap.size ≤ g4) := ⟨by rw [hg4]; exact Nat.le_refl _⟩; have L4 := Sealed.mk hB4; have y0 := hb4.cell 0 rfl; have y1 := hb4.cell 1 rfl; have f0 := hb4.free 0; have f1 := hb4.free 1; have z0 := ((((hb4.set 0 (.int .i64 1)).set 1 (.int .i64 0)).set 0 (.int .i64 11)).set 1 (.int .i64 7)).cell 0 rfl; have z1 := ((((hb4.set 0 (.int .i64 1)).set 1 (.int .i64 0)).set 0 (.int .i64 11)).set 1 (.int .i64 7)).cell 1 rfl; clear hg4 hb4 hB4 hs4)
              refine (HTL.out _ _ _ (by rfl) (by rfl) (HI.out.below (by repeat (first | exact L4.out | (refine Below.setCell ?_ GE4.out _) | (refine Below.drew ?_))))).mono ?_
              rintro e w5 ⟨rfl, hI, hc⟩
              have C5 : Sealed (InfChg B w w5) := ⟨(C3.out.below_step (by repeat (first | exact L4.out | (refine Below.setCell ?_ GE4.out _) | (refine Below.drew ?_)))).trans hc⟩
              have HF5 : Sealed (FilSt C w5 gm gv many row) := ⟨(HF3.out.chg (T := []) (Chg.of_below (B := 0) (by repeat (first | exact L4.out | (refine Below.setCell ?_ GE4.out _) | (refine Below.drew ?_)))) (by simp) (by simp)).chg hc (by decide) (by decide)⟩
              have HI5 := Sealed.mk hI
              clear hI hc HI C3 HF3 HTL
              cases h3 : toldS s (spanOf 18) p1 with
              | error e3 =>
                have HE2 : Sealed (R = .error 5) := ⟨by rw [← HE.out, rowS_e3 hltm HH2.out HN16.out h3, toldS_err h3]⟩
                obtain rfl := toldS_err h3
                simp only [valOf, errOf]
                clear h3
                go_wp2
                go_ret2
                rw [HE2.out]
                exact ⟨C5.out, rfl, by omega⟩
              | ok r3 =>
                obtain ⟨t, p2⟩ := r3
                have htb := HBD.out t p2 h3
                rw [h3] at HI5
                have HH3 := Sealed.mk h3
                simp only [valOf, errOf, posOf] at HI5 ⊢
                clear h3
                have HPU := Sealed.mk (fput_ok HF5.out 0 t (by omega) (by omega) (by omega) rfl)
                go_wp2_with fail
                refine HPU.out.mono ?_
                rintro e w6 ⟨hc, hbad, hok⟩
                have C6 := Sealed.mk (C5.out.new_step hc GV)
                have HI6 := Sealed.mk (HI5.out.chg hc (by decide) (by decide) (by decide))
                have HBAD := Sealed.mk hbad
                have HOK := Sealed.mk hok
                clear hc hbad hok HPU HF5 C5 HI5
                by_cases hfull : many < row.length + t
                · obtain rfl := HBAD.out hfull
                  have HE2 : Sealed (R = .error 4) := ⟨by rw [← HE.out, rowS_e4 hltm HH2.out HN16.out HH3.out hfull]⟩
                  clear HBAD HOK hfull
                  go_wp2
                  go_ret2
                  rw [HE2.out]
                  exact ⟨C6.out, rfl, by omega⟩
                · obtain ⟨rfl, hf⟩ := HOK.out hfull
                  have HF6 := Sealed.mk hf
                  have HE2 : Sealed (rowS s tl many k p2 (row ++ List.replicate t 0) = R) := ⟨by rw [← HE.out, rowS_go hltm HH2.out HN16.out HH3.out hfull, HWH.out]⟩
                  have HLN : Sealed ((row ++ List.replicate t 0).length = row.length + t) := ⟨by simp⟩
                  clear HBAD HOK hf
                  go_wp2
                  go_roundg k
                  case measure => omega
                  case rel => exact ⟨p2, row ++ List.replicate t 0, HI6, HF6, HE2, C6, by rw [HLN.out]; omega, ⟨by rw [HLN.out]; have := HFU.out; omega⟩⟩
            · have h18' : ((n : Int) == 18) = false := by simp; omega
              have hsp : spanOf n = (1, 0) := by unfold spanOf; rw [if_neg h16, if_neg h17, if_neg h18]
              have HSP : Sealed ((1 : Int) = ((spanOf n).1 : Int) ∧ (0 : Int) = ((spanOf n).2 : Int)) := ⟨by rw [hsp]; exact ⟨rfl, rfl⟩⟩
              clear hsp
              have HN16 : Sealed (¬ (n = 16 ∧ row.length = 0)) := ⟨by omega⟩
              have HWH : Sealed (whatOf n row = n) := ⟨by unfold whatOf; rw [if_neg h16, if_neg h17, if_neg h18]⟩
              go_wp2_with ((with_reducible refine gate_dst (N := 13) rfl ?_); refine ev_box (cs := [.int .i64 0, .int .i64 0]) (t := 164) ?hg ?hr ?_; (case hg => rfl); (case hr => first | (go_simp; done) | (go_simp; rfl)); intro g4 w4 hg4 hb4 hB4 hs4; have GE4 : Sealed (w3.heap.size ≤ g4) := ⟨by rw [hg4]; exact Nat.le_refl _⟩; have L4 := Sealed.mk hB4; have y0 := hb4.cell 0 rfl; have y1 := hb4.cell 1 rfl; have f0 := hb4.free 0; have f1 := hb4.free 1; clear hg4 hb4 hB4 hs4)
              refine (HTL.out _ _ _ HSP.out.1 HSP.out.2 (HI.out.below (by repeat (first | exact L4.out | (refine Below.setCell ?_ GE4.out _) | (refine Below.drew ?_))))).mono ?_
              rintro e w5 ⟨rfl, hI, hc⟩
              have C5 : Sealed (InfChg B w w5) := ⟨(C3.out.below_step (by repeat (first | exact L4.out | (refine Below.setCell ?_ GE4.out _) | (refine Below.drew ?_)))).trans hc⟩
              have HF5 : Sealed (FilSt C w5 gm gv many row) := ⟨(HF3.out.chg (T := []) (Chg.of_below (B := 0) (by repeat (first | exact L4.out | (refine Below.setCell ?_ GE4.out _) | (refine Below.drew ?_)))) (by simp) (by simp)).chg hc (by decide) (by decide)⟩
              have HI5 := Sealed.mk hI
              clear hI hc HI C3 HF3 HTL
              cases h3 : toldS s (spanOf n) p1 with
              | error e3 =>
                have HE2 : Sealed (R = .error 5) := ⟨by rw [← HE.out, rowS_e3 hltm HH2.out HN16.out h3, toldS_err h3]⟩
                obtain rfl := toldS_err h3
                simp only [valOf, errOf]
                clear h3
                go_wp2
                go_ret2
                rw [HE2.out]
                exact ⟨C5.out, rfl, by omega⟩
              | ok r3 =>
                obtain ⟨t, p2⟩ := r3
                have htb := HBD.out t p2 h3
                rw [h3] at HI5
                have HH3 := Sealed.mk h3
                simp only [valOf, errOf, posOf] at HI5 ⊢
                clear h3
                have HPU := Sealed.mk (fput_ok HF5.out n t (by omega) (by omega) (by omega) rfl)
                go_wp2_with fail
                refine HPU.out.mono ?_
                rintro e w6 ⟨hc, hbad, hok⟩
                have C6 := Sealed.mk (C5.out.new_step hc GV)
                have HI6 := Sealed.mk (HI5.out.chg hc (by decide) (by decide) (by decide))
                have HBAD := Sealed.mk hbad
                have HOK := Sealed.mk hok
                clear hc hbad hok HPU HF5 C5 HI5
                by_cases hfull : many < row.length + t
                · obtain rfl := HBAD.out hfull
                  have HE2 : Sealed (R = .error 4) := ⟨by rw [← HE.out, rowS_e4 hltm HH2.out HN16.out HH3.out hfull]⟩
                  clear HBAD HOK hfull
                  go_wp2
                  go_ret2
                  rw [HE2.out]
                  exact ⟨C6.out, rfl, by omega⟩
                · obtain ⟨rfl, hf⟩ := HOK.out hfull
                  have HF6 := Sealed.mk hf
                  have HE2 : Sealed (rowS s tl many k p2 (row ++ List.replicate t n) = R) := ⟨by rw [← HE.out, rowS_go hltm HH2.out HN16.out HH3.out hfull, HWH.out]⟩
                  have HLN : Sealed ((row ++ List.replicate t n).length = row.length + t) := ⟨by simp⟩
                  clear HBAD HOK hf
                  go_wp2
                  go_roundg k
                  case measure => omega
                  case rel => exact ⟨p2, row ++ List.replicate t n, HI6, HF6, HE2, C6, by rw [HLN.out]; omega, ⟨by rw [HLN.out]; have := HFU.out; omega⟩⟩
    · have hlt' : decide (row.length < many) = false := decide_eq_false hltm
      have HE2 : Sealed (R = .ok (row, q)) := ⟨by rw [← HE.out, rowS_end (by omega)]⟩
      have hcap := own_caps hown
      have HRD := Sealed.mk (Reads.of_own hown)
      clear hgv
      go_wp2
      go_ret2
      rw [HE2.out]
      refine ⟨HC.out, A2, c2, rfl, ?_, hcap.1, hcap.2, H.out⟩
      obtain ⟨_, A', c', e, _, hr⟩ := HRD.out
      injection e with e _ _
      rw [e]; exact hr
end Go.Proofs.Ytmdlhbhdlhjakaa
