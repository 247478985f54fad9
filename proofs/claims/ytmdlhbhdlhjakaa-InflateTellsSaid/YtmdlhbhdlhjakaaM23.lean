/- The contract of package inflate's inflater: repeat. -/
import Derived.Test.YtmdlhbhdlhjakaaM21
set_option linter.unusedVariables false
set_option linter.unusedSimpArgs false
namespace Go.Proofs.Ytmdlhbhdlhjakaa
open Go.RowKit
attribute [local go_sem ↓] Go.wp_at_zero Go.wp_at_succ

/-- What a part of the inflater answers: an error, or that it went well. -/
def InfPost (B : Nat) (gx gr : Nat) (s : ByteArray) (most : Nat) (R : Except Nat (List Nat × Nat)) (w : World) (e : Ending) (w' : World) : Prop :=
  e = .returned (.int .i64 (errOf R)) ∧ InfChg B w w' ∧ ∀ o' q, R = .ok (o', q) → InfSt B w' gx gr s most q o'
theorem castL_snoc' (l : List Nat) (x : Nat) : castL (l ++ [x]) = castL l ++ [(x : Int)] := by simp [castL]
theorem getS_err {s : ByteArray} {p d e : Nat} (h : getS s p d = .error e) : e = 5 := by
  unfold getS at h
  split at h
  · cases h
  · injection h with h; exact h.symm
theorem toldS_err {s : ByteArray} {x : Nat × Nat} {p e : Nat} (h : toldS s x p = .error e) : e = 5 := by
  unfold toldS at h
  cases hg : getS s p x.2 with
  | error e' => rw [hg] at h; injection h with h; subst h; exact getS_err hg
  | ok r => rw [hg] at h; cases h
theorem symS_err {s : ByteArray} {ls : List Int} {p e : Nat} (h : symS s ls p = .error e) : 1 ≤ e ∧ e ≤ 5 := by
  have h1 := readFrom_err (ls := ls) (f := bit s) (lim := 8 * s.size) (longOf ls).toNat 1 p 0 0 0
  change 0 ≤ (readOf ls (bit s) (8 * s.size) p).2.1 ∧ (readOf ls (bit s) (8 * s.size) p).2.1 ≤ 5 at h1
  unfold symS at h
  split at h
  · cases h
  · rename_i hne
    injection h with h
    omega
theorem lenT_bd : ∀ k, k < 29 → leastOf lenT k ≤ 1000 ∧ extraOf lenT k ≤ 5 := by decide
theorem distT_bd : ∀ k, k < 30 → 1 ≤ leastOf distT k ∧ leastOf distT k ≤ 30000 ∧ extraOf distT k ≤ 13 := by decide
theorem toldS_bd {s : ByteArray} {x : Nat × Nat} {p n q : Nat} (h : toldS s x p = .ok (n, q)) (hb : x.2 ≤ 13) : x.1 ≤ n ∧ n ≤ x.1 + 8192 := by
  obtain ⟨m, hm, rfl⟩ := toldS_ok h
  have h1 := (getS_ok hm).2.2
  have h2 := val_lt (bit_le s) p x.2
  have h3 : 2 ^ x.2 ≤ 2 ^ 13 := Nat.pow_le_pow_right (by decide) hb
  omega

section
variable {s : ByteArray} {most k p n p1 d p2 b p3 e : Nat} {fl : List Int} {o : List Nat}
theorem repeatS_e1 (h1 : toldS s (lenT.getD k (0, 0)) p = .error e) : repeatS s most fl k p o = .error e := by unfold repeatS; rw [h1]
theorem repeatS_e2 (h1 : toldS s (lenT.getD k (0, 0)) p = .ok (n, p1)) (h2 : symS s fl p1 = .error e) : repeatS s most fl k p o = .error e := by unfold repeatS; rw [h1]; simp only; rw [h2]
theorem repeatS_e3 (h1 : toldS s (lenT.getD k (0, 0)) p = .ok (n, p1)) (h2 : symS s fl p1 = .ok (d, p2)) (h3 : 30 ≤ d) : repeatS s most fl k p o = .error 4 := by unfold repeatS; rw [h1]; simp only; rw [h2]; simp only; rw [if_pos h3]
theorem repeatS_e4 (h1 : toldS s (lenT.getD k (0, 0)) p = .ok (n, p1)) (h2 : symS s fl p1 = .ok (d, p2)) (h3 : ¬ 30 ≤ d) (h4 : toldS s (distT.getD d (0, 0)) p2 = .error e) : repeatS s most fl k p o = .error e := by unfold repeatS; rw [h1]; simp only; rw [h2]; simp only; rw [if_neg h3, h4]
theorem repeatS_e5 (h1 : toldS s (lenT.getD k (0, 0)) p = .ok (n, p1)) (h2 : symS s fl p1 = .ok (d, p2)) (h3 : ¬ 30 ≤ d) (h4 : toldS s (distT.getD d (0, 0)) p2 = .ok (b, p3)) (h5 : o.length < b) : repeatS s most fl k p o = .error 3 := by unfold repeatS; rw [h1]; simp only; rw [h2]; simp only; rw [if_neg h3, h4]; simp only; rw [if_pos h5]
end
set_option maxRecDepth 100000 in
set_option maxHeartbeats 2000000 in
theorem repeat_ok {B B2 : Nat} {w : World} {gx gr gt : Nat} {s : ByteArray} {most p : Nat} {o : List Nat} {fl : List Int} (h : InfSt B w gx gr s most p o) (ht : TrSt B2 w gt fl) (hs : s.size ≤ 1000000000) (hn : fl.length ≤ 320) (ha : fl.all lenOk = true) (h0 : 0 < fl.length)
    (k : Nat) (hk : k < 29) (hm : most ≤ 100000000) (ho : o.length ≤ most) {K : Int} (hK : K = (k : Int)) :
    Calls Try.prog 125 #[.pointer (some ⟨gx, 0, none⟩), .int .i64 K, .pointer (some ⟨gt, 0, none⟩)] w (InfPost B gx gr s most (repeatS s most fl k p o) w) := by
  subst hK
  obtain ⟨R, hR⟩ : ∃ R, R = repeatS s most fl k p o := ⟨_, rfl⟩
  rw [← hR]
  have HR := Sealed.mk hR
  have H := Sealed.mk h
  have HT := Sealed.mk ht
  have HA := Sealed.mk ha
  have HS : Sealed (s.size ≤ 140737488355328) := ⟨by omega⟩
  have HLEN : Sealed (∀ w, Calls Try.prog 131 #[] w fun e w' => e = .returned (.agg (nums .i64 (cellsOf lenT)).toArray) ∧ Below w.heap.size w w') := ⟨fun w => by rw [← lenCells_eq]; exact ilen_any w⟩
  have HDIS : Sealed (∀ w, Calls Try.prog 132 #[] w fun e w' => e = .returned (.agg (nums .i64 (cellsOf distT)).toArray) ∧ Below w.heap.size w w') := ⟨fun w => by rw [← distCells_eq]; exact idist_any w⟩
  have hix := fun w => idx_ilen k hk w
  have hki : (k : Int) < 29 := by omega
  have HDX := Sealed.mk idx_idist
  generalize (nums .i64 (cellsOf lenT)).toArray = LA at *
  generalize (nums .i64 (cellsOf distT)).toArray = DA at *
  obtain ⟨lb1, lb2⟩ := lenT_bd k hk
  have HTL : Sealed (∀ w', InfSt B w' gx gr s most p o → Calls Try.prog 128 #[.pointer (some ⟨gx, 0, none⟩), .agg #[.int .i64 (leastOf lenT k), .int .i64 (extraOf lenT k)]] w' fun e w'' => e = .returned (.tuple #[.int .i64 (valOf (leastOf lenT k) (toldS s (lenT.getD k (0, 0)) p)), .int .i64 (errOf (toldS s (lenT.getD k (0, 0)) p))]) ∧ InfSt B w'' gx gr s most (posOf p (toldS s (lenT.getD k (0, 0)) p)) o ∧ InfChg B w' w'') :=
    ⟨fun w' h => told_ok h HS.out (leastOf lenT k) (extraOf lenT k) (by omega) (by omega)⟩
  clear hR h ht ha
  have HBD : Sealed (∀ n p1, toldS s (lenT.getD k (0, 0)) p = .ok (n, p1) → n ≤ 10000) := ⟨fun n p1 h => by
    have := toldS_bd h (show (lenT.getD k (0, 0)).2 ≤ 13 from Nat.le_trans lb2 (by decide))
    change leastOf lenT k ≤ n ∧ n ≤ leastOf lenT k + 8192 at this
    omega⟩
  go_enter Try.func125, Try.ntmps125
  go_wp2_with fail
  refine (HLEN.out _).mono ?_
  rintro e w1 ⟨rfl, hb⟩
  have H1 := Sealed.mk (H.out.below hb)
  have HT1 := Sealed.mk (HT.out.chg (T := []) (Chg.of_below (B := 0) hb) (by simp) (by simp))
  have C1 : Sealed (InfChg B w w1) := ⟨Chg.of_below hb⟩
  clear hb H HT
  go_wp2_with fail
  refine (HTL.out _ H1.out).mono ?_
  rintro e w2 ⟨rfl, hI, hc⟩
  have HT2 := Sealed.mk (HT1.out.chg hc (by decide) (by decide))
  have C2 := Sealed.mk (C1.out.trans hc)
  have HI2 := Sealed.mk hI
  clear hI hc H1 HT1 C1 HTL hix
  cases h1 : toldS s (lenT.getD k (0, 0)) p with
  | error e1 =>
    have HE : Sealed (R = .error 5) := ⟨by rw [HR.out, repeatS_e1 h1, toldS_err h1]⟩
    obtain rfl := toldS_err h1
    simp only [valOf, errOf]
    clear h1
    go_wp2
    go_ret
    rw [HE.out]
    exact ⟨rfl, C2.out, fun o' q h => by cases h⟩
  | ok r1 =>
    obtain ⟨n, p1⟩ := r1
    have hn1 := HBD.out n p1 h1
    have HH1 := Sealed.mk h1
    rw [h1] at HI2
    simp only [valOf, errOf, posOf] at HI2 ⊢
    clear h1 HBD
    obtain ⟨A2, c2, hb2, _⟩ := HI2.out.parts
    have x0 := hb2.cell 0 rfl
    have HSY := Sealed.mk (sym_ok HT2.out HI2.out HS.out hn HA.out h0)
    clear hb2
    go_wp2_with fail
    refine HSY.out.mono ?_
    rintro e w3 ⟨rfl, hI, hT, hc⟩
    have HT3 := Sealed.mk hT
    have C3 : Sealed (InfChg B w w3) := ⟨C2.out.trans (hc.mono HI2.out.2.1 (by simp))⟩
    have HI3 := Sealed.mk hI
    clear hI hT hc HT2 C2 HI2 HSY x0
    cases h2 : symS s fl p1 with
    | error e2 =>
      have hE := symS_err h2
      have HE : Sealed (R = .error e2) := ⟨by rw [HR.out, repeatS_e2 HH1.out h2]⟩
      simp only [valOf, errOf]
      have he2 : ((e2 : Int) != 0) = true := by simp; omega
      clear h2 HR HI3 hE
      go_wp2
      go_ret
      rw [HE.out]
      exact ⟨rfl, C3.out, fun o' q h => by cases h⟩
    | ok r2 =>
      obtain ⟨d, p2⟩ := r2
      rw [h2] at HI3
      simp only [valOf, errOf, posOf] at HI3 ⊢
      have HH2 := Sealed.mk h2
      clear h2
      by_cases hd : 30 ≤ d
      · have HE : Sealed (R = .error 4) := ⟨by rw [HR.out, repeatS_e3 HH1.out HH2.out hd]⟩
        have hd' : decide (30 ≤ d) = true := decide_eq_true hd
        clear HR HI3
        go_wp2
        go_ret
        rw [HE.out]
        exact ⟨rfl, C3.out, fun o' q h => by cases h⟩
      · have HH3 := Sealed.mk hd
        have hd30 : d < 30 := by omega
        have hdi : (d : Int) < 30 := by omega
        have hix := fun w => HDX.out d hd30 w
        obtain ⟨db0, db1, db2⟩ := distT_bd d hd30
        have HTL : Sealed (∀ w', InfSt B w' gx gr s most p2 o → Calls Try.prog 128 #[.pointer (some ⟨gx, 0, none⟩), .agg #[.int .i64 (leastOf distT d), .int .i64 (extraOf distT d)]] w' fun e w'' => e = .returned (.tuple #[.int .i64 (valOf (leastOf distT d) (toldS s (distT.getD d (0, 0)) p2)), .int .i64 (errOf (toldS s (distT.getD d (0, 0)) p2))]) ∧ InfSt B w'' gx gr s most (posOf p2 (toldS s (distT.getD d (0, 0)) p2)) o ∧ InfChg B w' w'') :=
          ⟨fun w' h => told_ok h HS.out (leastOf distT d) (extraOf distT d) (by omega) (by omega)⟩
        have HBD : Sealed (∀ b p3, toldS s (distT.getD d (0, 0)) p2 = .ok (b, p3) → 1 ≤ b ∧ b ≤ 50000) := ⟨fun n p1 h => by
          have := toldS_bd h (show (distT.getD d (0, 0)).2 ≤ 13 from db2)
          change leastOf distT d ≤ n ∧ n ≤ leastOf distT d + 8192 at this
          omega⟩
        clear hd
        go_wp2_with fail
        refine (HDIS.out _).mono ?_
        rintro e w4 ⟨rfl, hb⟩
        have HI4 := Sealed.mk (HI3.out.below hb)
        have C4 : Sealed (InfChg B w w4) := ⟨C3.out.below_step hb⟩
        clear hb HI3 C3 HT3
        go_wp2_with fail
        refine (HTL.out _ HI4.out).mono ?_
        rintro e w5 ⟨rfl, hI, hc⟩
        have C5 := Sealed.mk (C4.out.trans hc)
        have HI5 := Sealed.mk hI
        clear hI hc HI4 C4 HTL hix
        cases h3 : toldS s (distT.getD d (0, 0)) p2 with
        | error e3 =>
          have HE : Sealed (R = .error 5) := ⟨by rw [HR.out, repeatS_e4 HH1.out HH2.out HH3.out h3, toldS_err h3]⟩
          obtain rfl := toldS_err h3
          simp only [valOf, errOf]
          clear h3 HI5
          go_wp2
          go_ret
          rw [HE.out]
          exact ⟨rfl, C5.out, fun o' q h => by cases h⟩
        | ok r3 =>
          obtain ⟨b, p3⟩ := r3
          obtain ⟨hb1, hb2⟩ := HBD.out b p3 h3
          have HH4 := Sealed.mk h3
          rw [h3] at HI5
          simp only [valOf, errOf, posOf] at HI5 ⊢
          clear h3 HBD
          obtain ⟨A5, c5, hbk, _⟩ := HI5.out.parts
          have x1 := hbk.cell 1 rfl
          clear hbk
          by_cases hbo : o.length < b
          · have HE : Sealed (R = .error 3) := ⟨by rw [HR.out, repeatS_e5 HH1.out HH2.out HH3.out HH4.out hbo]⟩
            have hbo' : decide (o.length < b) = true := decide_eq_true hbo
            clear HR HI5
            go_wp2
            go_ret
            rw [HE.out]
            exact ⟨rfl, C5.out, fun o' q h => by cases h⟩
          · have hbo' : decide (o.length < b) = false := decide_eq_false hbo
            have HR5 : Sealed (R = if most < o.length + n then .error 7 else .ok (copyL b n o, p3)) := ⟨by rw [HR.out, repeatS_of HH1.out HH2.out (by omega) HH4.out (by omega)]⟩
            have HRM := Sealed.mk (room_ok HI5.out n (by omega) (by omega) (by omega) rfl)
            clear HR
            by_cases hmo : most < o.length + n
            · rw [if_pos hmo] at HRM
              have HE : Sealed (R = .error 7) := ⟨by rw [HR5.out, if_pos hmo]⟩
              clear HR5 hmo
              go_wp2_with fail
              refine HRM.out.mono ?_
              rintro e w6 ⟨rfl, m6, rfl⟩
              go_wp2
              go_ret
              rw [HE.out]
              exact ⟨rfl, C5.out.drewN m6, fun o' q h => by cases h⟩
            · rw [if_neg hmo] at HRM
              have HE : Sealed (R = .ok (copyL b n o, p3)) := ⟨by rw [HR5.out, if_neg hmo]⟩
              clear HR5
              go_wp2_with fail
              refine HRM.out.mono ?_
              rintro e w6 ⟨rfl, m6, hw6⟩
              have HI6 : Sealed (InfSt B w6 gx gr s most p3 o) := ⟨by rw [hw6]; exact HI5.out.drewN m6⟩
              have C6 : Sealed (InfChg B w w6) := ⟨by rw [hw6]; exact C5.out.drewN m6⟩
              have HI6lt := HI6.out.lt
              clear hw6 HI5 C5 HRM x1
              go_wp2
              go_loopg [66] n (fun f s66 w' => ∃ i : Nat, s66 = .int .i64 i ∧ i ≤ n ∧ Sealed (f = n - i) ∧ Sealed (InfSt B w' gx gr s most p3 (copyL b i o)) ∧ Sealed (InfChg B w w'))
              case atStart => exact ⟨0, rfl, by omega, ⟨rfl⟩, HI6, C6⟩
              case round =>
                clear HI6 C6
                obtain ⟨i, rfl, hi, HF, HI, HC⟩ := hrel
                by_cases hlt : i < n
                · have hlt' : decide (i < n) = true := decide_eq_true hlt
                  have hlen := copyL_len b i o
                  obtain ⟨A7, c7, hbk, hown⟩ := HI.out.parts
                  rw [hlen] at hbk hown
                  obtain ⟨g7, c8, he7⟩ := own_head2 hown (by omega)
                  injection he7 with e1 e2 e3
                  subst e1
                  subst e3
                  clear e2
                  have x1 := hbk.cell 1 rfl
                  have f1 := hbk.free 1
                  obtain ⟨y, hy⟩ : ∃ y, y = (copyL b i o).getD (o.length + i - b) 0 := ⟨_, rfl⟩
                  have hyl : y < 256 := by
                    rw [hy, List.getD_eq_getElem?_getD]
                    rw [List.getElem?_eq_getElem (by rw [hlen]; omega)]
                    exact copyL_lt i o HI6lt _ (List.getElem_mem _)
                  have xc := own_cell hown (i := o.length + i - b) (by omega)
                  have hgy : (castL (copyL b i o)).getD (o.length + i - b) 0 = (y : Int) := by rw [hy]; simp [castL, List.getD_eq_getElem?_getD, List.getElem?_map, List.getElem?_eq_getElem (show o.length + i - b < (copyL b i o).length by rw [hlen]; omega)]
                  rw [hgy, add_plain] at xc
                  have hi1 : 0 ≤ (o.length : Int) + (i : Int) - (b : Int) := by omega
                  have hi5 : (b : Int) ≤ (o.length : Int) + (i : Int) := by omega
                  have hi2 : (o.length : Int) + (i : Int) - (b : Int) < (o.length : Int) + (i : Int) := by omega
                  have hi3 : ((o.length : Int) + (i : Int) - (b : Int)).toNat = o.length + i - b := by omega
                  have hi4 : IntKind.i64.wrap ((o.length : Int) + (i : Int) - (b : Int)) = (o.length : Int) + (i : Int) - (b : Int) := by rw [IntKind.wrap_i64]; omega
                  have HO : Sealed (wr.drew.ownsRow B 5 1 (.slice (some ⟨g7, 0, none⟩) (o.length + i) c7) (o.length + i) (nums .u8 (castL (copyL b i o)))) := ⟨hown⟩
                  have HB := Sealed.mk hbk
                  have HB0 : Sealed (B ≤ wr.heap.size) := ⟨HI.out.2.2.1⟩
                  have HY : Sealed (copyL b (i + 1) o = copyL b i o ++ [y]) := ⟨by rw [copyL_snoc, hlen, hy]⟩
                  have HGR : Sealed (∀ v1 w', w'.ownsRow B 5 1 v1 (o.length + i + 1) (nums .u8 (castL (copyL b i o)) ++ [.int .u8 (y : Int)]) → wr.drew.grownBy w' (Value.slice (some ⟨g7, 0, none⟩) (o.length + i) c7).ownBlock →
                      IsBlk w' gx [.pointer (some ⟨gr, 0, none⟩), .slice (some ⟨g7, 0, none⟩) (o.length + i) c7, .int .i64 most] 97 ∧ InfSt B (w'.setCell ⟨gx, 1, none⟩ v1) gx gr s most p3 (copyL b (i + 1) o) ∧ InfChg B wr.drew (w'.setCell ⟨gx, 1, none⟩ v1)) := ⟨fun v1 w' h1 h2 => by
                    have hg := HI.out.drew.grow (A := some ⟨g7, 0, none⟩) (c := c7) (v1 := v1) (ys := [y]) (m := o.length + i + 1) (w' := w') (by rw [hlen]; rfl) (by rw [hlen]; exact HO.out) (by rw [hlen]; exact HB.out.drew) (by rw [← castL_append, castL_snoc', nums_snoc]; exact h1) (by rw [hlen]; exact h2) (fun x hx => by simp at hx; omega)
                    rw [hlen, ← HY.out] at hg
                    exact ⟨hg.1, hg.2.1, hg.2.2.mono (Nat.le_refl _) (by simp)⟩⟩
                  have k1 := fun ob => (HB.out.alloc ob).cell 1 rfl
                  clear hown hbk hgy hy hlen
                  go_wp2
                  go_region_law (first | (refine step_app1 (W := wr.drew) B rfl (.tmp 72) (.tmp 86) 41 5 (.int .u8 0) 1 rfl Try.underlying41 info_u8 rfl (by decide) _ (o.length + i) _ (.int .u8 (y : Int)) rfl rfl rfl HO.out HB0.out (by omega) ?_; intro v3 w3 ho3 hg3; have HG3 := Sealed.mk (HGR.out _ _ ho3 hg3); obtain ⟨A3, c3, rfl⟩ := own_slice ho3; have q3 := HG3.out.1.free 1; have r3 := HG3.out.1.cell 1 rfl; clear ho3 hg3))
                  all_goals
                    go_wp2
                    go_roundg (n - (i + 1))
                    case measure => have := HF.out; omega
                    case rel => exact ⟨i + 1, by go_num, hlt, ⟨rfl⟩, ⟨HG3.out.2.1⟩, ⟨HC.out.drew.trans HG3.out.2.2⟩⟩
                · obtain rfl : i = n := by omega
                  have hlt' : decide (i < i) = false := decide_eq_false hlt
                  clear hlt
                  go_wp2
                  go_ret
                  rw [HE.out]
                  refine ⟨rfl, HC.out, fun o' q h => ?_⟩
                  simp only [Except.ok.injEq, Prod.mk.injEq] at h
                  obtain ⟨rfl, rfl⟩ := h
                  exact HI.out
end Go.Proofs.Ytmdlhbhdlhjakaa
