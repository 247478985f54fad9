/- The law CodesBack, walked. -/
import Derived.Test.YtmdlhbhdlhjakaaBack
set_option linter.unusedVariables false
set_option linter.unusedSimpArgs false
namespace Go.Proofs.Ytmdlhbhdlhjakaa
open Go.RowKit

set_option maxRecDepth 100000 in
theorem back_long (A0 A1 : Option Addr) (n0 c0 n1 c1 : Nat) (w : World) (h : 320 < n0 ∨ 60 < n1) :
    Calls Try.prog 4 #[.slice A0 n0 c0, .slice A1 n1 c1] w fun e w' => e = .returned (.bool true) ∧ Below w.heap.size w w' := by
  by_cases h0 : 320 < n0
  · have hd : decide (320 < n0) = true := decide_eq_true h0
    go_enter Try.func4, Try.ntmps4
    go_wp2_with fail
    refine (trees_any w).mono ?_
    rintro e w1 ⟨rfl, hb⟩
    go_wp2
    go_ret
    exact ⟨rfl, hb⟩
  · have hd : decide (320 < n0) = false := decide_eq_false h0
    have hd1 : decide (60 < n1) = true := decide_eq_true (by omega)
    have h2 : n0 ≤ 320 := by omega
    have h3 : 60 < n1 := by omega
    clear h h0
    go_enter Try.func4, Try.ntmps4
    go_wp2_with fail
    refine (trees_any w).mono ?_
    rintro e w1 ⟨rfl, hb⟩
    go_wp2
    go_ret
    exact ⟨rfl, hb⟩

set_option maxRecDepth 100000 in
theorem back_bad (A0 A1 : Option Addr) (c0 n1 c1 : Nat) (ls : List Int) (w : World) (hr : Reads w .i64 A0 ls) (hn : ls.length ≤ 320) (hn1 : n1 ≤ 60) (he : (mayOf (checkOf ls) != 0) = true) :
    Calls Try.prog 4 #[.slice A0 ls.length c0, .slice A1 n1 c1] w fun e w' => e = .returned (.bool true) ∧ Below w.heap.size w w' := by
  have hd : decide (320 < ls.length) = false := decide_eq_false (by omega)
  have hd1 : decide (60 < n1) = false := decide_eq_false (by omega)
  have H := Sealed.mk (new_bad (cap := c0) hr he)
  clear hr
  go_enter Try.func4, Try.ntmps4
  go_wp2_with fail
  refine H.out.mono ?_
  rintro e w1 ⟨rfl, hb⟩
  have C1 : Sealed (Chg w.heap.size [] w w1) := ⟨Chg.of_below hb⟩
  clear hb
  go_wp2_with fail
  refine (trees_any w1).mono ?_
  rintro e w2 ⟨rfl, hb⟩
  have C2 := Sealed.mk (C1.out.below_step hb)
  clear hb
  go_wp2
  go_ret
  exact ⟨rfl, C2.out.to_below⟩

set_option maxRecDepth 100000 in
set_option maxHeartbeats 1000000 in
theorem back_good (A0 A1 : Option Addr) (c0 c1 : Nat) (ls sy : List Int) (w : World) (hr : Reads w .i64 A0 ls) (hr1 : Reads w .i64 A1 sy) (hn : ls.length ≤ 320) (hn1 : sy.length ≤ 60) (hm : mayOf (checkOf ls) = 0) :
    Calls Try.prog 4 #[.slice A0 ls.length c0, .slice A1 sy.length c1] w fun e w' => e = .returned (.bool true) ∧ Below w.heap.size w w' := by
  have ha := may_zero hn hm
  have hd : decide (320 < ls.length) = false := decide_eq_false (by omega)
  have hd1 : decide (60 < sy.length) = false := decide_eq_false (by omega)
  have H := Sealed.mk (new_good (cap := c0) hr hn ha hm)
  have HA := Sealed.mk ha
  have HM := Sealed.mk hm
  have HY := Sealed.mk hr1
  clear hr hr1 ha hm
  go_enter Try.func4, Try.ntmps4
  go_wp2_with fail
  refine H.out.mono ?_
  rintro e w1 ⟨gt, rfl, ht, hb⟩
  have HT := Sealed.mk ht
  have C1 : Sealed (Chg w.heap.size [] w w1) := ⟨Chg.of_below hb⟩
  clear hb ht H
  go_wp2_with ((with_reducible refine gate_dst (N := 7) rfl ?_); refine ev_box (cs := [.int .i64 0, .int .i64 0, .slice none 0 0]) (t := 43) ?hg ?hr ?_; (case hg => rfl); (case hr => first | (go_simp; done) | (go_simp; rfl)); intro gw w2 hg6 hb6 hB6 hs6; have GW := Sealed.mk hg6; have B6 := Sealed.mk hb6; have L6 := Sealed.mk hB6; clear hg6 hb6 hB6 hs6)
  have HW2 : Sealed (WrSt w1.heap.size w2 gw 43 [] []) := ⟨WrSt.new B6.out (by rw [GW.out]; exact Nat.le_refl _) (by decide)⟩
  have HS : Sealed (w.heap.size ≤ w1.heap.size) := ⟨C1.out.size⟩
  have C2 : Sealed (Chg w1.heap.size [43, 5, 3, 73] w1 w2) := ⟨Chg.of_below L6.out⟩
  clear L6 B6 GW
  go_loopg [8, 9] sy.length (fun k s8 s9 w' => ∃ i : Nat, s9 = .int .i64 i ∧ Sealed (k = sy.length - i) ∧ Sealed (i ≤ sy.length) ∧ Sealed (w'.ownsRow w1.heap.size 3 1 s8 ((sy.take i).filter (validB ls)).length (nums .i64 ((sy.take i).filter (validB ls)))) ∧ Sealed (WrSt w1.heap.size w' gw 43 [] (bitsOf ls ((sy.take i).filter (validB ls)))) ∧ Sealed (Chg w1.heap.size [43, 5, 3, 73] w1 w'))
  case atStart => exact ⟨0, rfl, ⟨rfl⟩, ⟨Nat.zero_le _⟩, ⟨own_nil _ _ _ _⟩, HW2, C2⟩
  case round =>
    clear HW2 C2
    obtain ⟨i, rfl, HK, HI, HO, HW, HC⟩ := hrel
    by_cases hlt : i < sy.length
    · obtain ⟨ad, rfl, hc0⟩ := HY.out.cell i hlt
      obtain ⟨x, hx⟩ : ∃ x, x = sy.getD i 0 := ⟨_, rfl⟩
      rw [← hx] at hc0
      have hcw : Chg w.heap.size [43, 5, 3, 73] w wr := (C1.out.mono (Nat.le_refl _) (by simp)).trans (HC.out.mono HS.out (fun _ h => h))
      have hc := cell_chg hc0 hcw (World.block_lt_of_cell? w _ hc0)
      have hblk : (ad.add i).block < w1.heap.size := Nat.lt_of_lt_of_le (World.block_lt_of_cell? w _ hc0) HS.out
      have ht := take_snoc hlt
      rw [← hx] at ht
      have HTK := Sealed.mk ht
      have hfs := filter_snoc (validB ls) (sy.take i) x
      have HFS := Sealed.mk hfs
      have hlf : ((sy.take i).filter (validB ls)).length ≤ 60 := by
        have h1 := List.length_filter_le (validB ls) (sy.take i)
        rw [List.length_take] at h1
        omega
      have hall : ∀ k ∈ (sy.take i).filter (validB ls), validB ls k = true := fun k hk => (List.mem_filter.1 hk).2
      have hbl := bitsOf_len HA.out _ hall
      obtain ⟨P, hP⟩ : ∃ P, P = (sy.take i).filter (validB ls) := ⟨_, rfl⟩
      rw [← hP] at HO HW hlf hbl HFS
      have HBL : Sealed ((bitsOf ls P).length ≤ 999999999000) := ⟨by omega⟩
      have HT2 := Sealed.mk (HT.out.later HC.out)
      clear hx hc0 hcw ht hfs hall hbl hP
      by_cases hv : validB ls x = true
      · have hv2 := hv
        simp only [validB, Bool.and_eq_true, decide_eq_true_eq, bne_iff_ne] at hv2
        have hxl := lenOk_at HA.out (k := x.toNat) (by omega)
        have hxe : ((x.toNat : Nat) : Int) = x := by omega
        have hw1 := write_ok HT2.out HW.out hn HA.out (by decide) (by decide) x.toNat (by omega) (ls.getD x.toNat 0).toNat (by omega) (by omega) HBL.out
        rw [hxe] at hw1
        have HW1 := Sealed.mk hw1
        have HV := Sealed.mk hv
        clear hv hv2 hxl hxe hw1
        go_wp2_with (first
          | (go_at_call 22; refine HW1.out.mono ?_; rintro e w3 ⟨rfl, hc3, hw3⟩; have x3 := cell_chg hc hc3 hblk; have HC3 := Sealed.mk hc3; have HW3 := Sealed.mk hw3; have HO3 := Sealed.mk (owns_chg HO.out hc3 (by decide)); have HS3 : Sealed (w1.heap.size ≤ w3.heap.size) := Sealed.mk (Nat.le_trans HC.out.size hc3.size); clear hc3 hw3)
          | ((with_reducible refine gate_dst (N := 54) rfl ?_); refine wp_app1 w1.heap.size rfl (.tmp 48) (.tmp 53) 22 3 (.int .i64 0) 8 rfl Try.underlying22 info_i64 rfl (by decide) _ P.length _ _ rfl rfl rfl HO3.out HS3.out (by omega) ?_; intro v4 w4 ho4 hg4; have HO4 := Sealed.mk ho4; have HG4 := Sealed.mk hg4; clear ho4 hg4))
        go_roundg (sy.length - (i + 1))
        case measure => have := HK.out; omega
        case rel =>
          have hc4 : Chg w1.heap.size [43, 5, 3, 73] w1 w4 := (HC.out.trans (HC3.out.mono (Nat.le_refl _) (by simp))).grown HO3.out (Nat.le_refl _) (by simp) HG4.out
          have hgi : Chg w1.heap.size [3] w3 w4 := (Chg.refl _ _ _).grown HO3.out (Nat.le_refl _) (by simp) HG4.out
          have e1 : (sy.take (i + 1)).filter (validB ls) = P ++ [x] := by rw [HTK.out, HFS.out, if_pos HV.out]
          refine ⟨i + 1, by go_num, ⟨rfl⟩, ⟨hlt⟩, ⟨?_⟩, ⟨?_⟩, ⟨hc4⟩⟩
          · have ho := HO4.out
            rw [← nums_snoc] at ho
            rw [e1]
            simpa using ho
          · rw [e1, bitsOf_snoc]
            exact HW3.out.chg hgi (by decide) (by decide)
      · have hnv : ¬ (0 ≤ x ∧ x < ls.length ∧ ls.getD x.toNat 0 ≠ 0) := by
          intro h
          apply hv
          simp only [validB, Bool.and_eq_true, decide_eq_true_eq, bne_iff_ne]
          exact ⟨⟨h.1, h.2.1⟩, h.2.2⟩
        have HW1 := Sealed.mk (write_bad (g := gw) HT2.out x hnv hn)
        have HV : Sealed (validB ls x = false) := ⟨by simpa using hv⟩
        clear hnv hv
        go_wp2_with (go_at_call 22; refine HW1.out.mono ?_; rintro e w3 ⟨rfl, rfl⟩)
        go_roundg (sy.length - (i + 1))
        case measure => have := HK.out; omega
        case rel =>
          have e1 : (sy.take (i + 1)).filter (validB ls) = P := by rw [HTK.out, HFS.out, HV.out]; rfl
          refine ⟨i + 1, by go_num, ⟨rfl⟩, ⟨hlt⟩, ⟨?_⟩, ⟨?_⟩, HC⟩
          · rw [e1]; exact HO.out
          · rw [e1]; exact HW.out
    · have hi : i = sy.length := by have := HI.out; omega
      rw [hi, List.take_length] at HO HW
      have hdi : decide (i < sy.length) = false := decide_eq_false hlt
      have hall : ∀ k ∈ sy.filter (validB ls), validB ls k = true := fun k hk => (List.mem_filter.1 hk).2
      have hlf : (sy.filter (validB ls)).length ≤ 60 := by
        have h1 := List.length_filter_le (validB ls) sy
        omega
      have hbl := bitsOf_len HA.out _ hall
      obtain ⟨P, hP⟩ : ∃ P, P = sy.filter (validB ls) := ⟨_, rfl⟩
      rw [← hP] at HO HW hlf hbl hall
      have HALL := Sealed.mk hall
      obtain ⟨l, hl⟩ : ∃ l, l = bitsOf ls P := ⟨_, rfl⟩
      rw [← hl] at HW hbl
      have HL := Sealed.mk hl
      have HBL : Sealed (l.length ≤ 1000000000000) := ⟨by omega⟩
      have hts : (textOf l).size ≤ 140737488355328 := by rw [textOf_size]; omega
      obtain ⟨t, hte⟩ : ∃ t, t = textOf l := ⟨_, rfl⟩
      rw [← hte] at hts
      have HTE := Sealed.mk hte
      have HBITS : Sealed (IsBits (lf l)) := ⟨HW.out.1⟩
      clear hlt hi hall hbl hP hl hte HK HI
      go_wp2_with fail
      refine (text_ok HW.out HBL.out).mono ?_
      rw [← HTE.out]
      rintro e w3 ⟨rfl, hb⟩
      have HW3 := Sealed.mk (HW.out.chg (C := 0) (T := []) (Chg.of_below hb) (by simp) (by simp))
      have HO3 := Sealed.mk (owns_below HO.out hb)
      have HC3 := Sealed.mk (HC.out.below_step hb)
      clear hb HW HO HC
      go_wp2_with fail
      refine (newReader_any t w3).mono ?_
      rintro e w4 ⟨rfl, hr4, hb, hs4⟩
      have HR4 := Sealed.mk hr4
      have HW4 := Sealed.mk (HW3.out.chg (C := 0) (T := []) (Chg.of_below hb) (by simp) (by simp))
      have HO4 := Sealed.mk (owns_below HO3.out hb)
      have HC4 := Sealed.mk (HC3.out.below_step hb)
      have HG : Sealed (w1.heap.size ≤ w3.heap.size) := ⟨HC3.out.size⟩
      obtain ⟨gr, hgr⟩ : ∃ gr, gr = w3.heap.size := ⟨_, rfl⟩
      rw [← hgr] at HR4 HG
      rw [← hgr]
      clear hr4 hb hs4 HW3 HO3 HC3 hgr
      obtain ⟨A8, c8, hv8⟩ := own_slice HO4.out
      subst hv8
      go_wp2
      go_loopg [11] P.length (fun k s11 w' => ∃ i : Nat, s11 = .int .i64 i ∧ Sealed (k = P.length - i) ∧ Sealed (i ≤ P.length) ∧ Sealed (w'.ownsRow w1.heap.size 3 1 (.slice A8 P.length c8) P.length (nums .i64 P)) ∧ Sealed (WrSt w1.heap.size w' gw 43 [] l) ∧ Sealed (RdSt w' gr t (bitsOf ls (P.take i)).length) ∧ Sealed (Chg w1.heap.size [43, 5, 3, 73] w1 w'))
      case atStart => exact ⟨0, rfl, ⟨rfl⟩, ⟨Nat.zero_le _⟩, HO4, HW4, HR4, HC4⟩
      case round =>
        clear HO4 HW4 HR4 HC4
        obtain ⟨i, rfl, HK, HI, HO, HW, HR, HC⟩ := hrel
        by_cases hlt : i < P.length
        · have hbk := back_read hn HA.out HM.out HALL.out (by rw [← HL.out]; exact HBITS.out) hlt
          rw [← HL.out, ← HTE.out] at hbk
          have hrd := read_any (HT.out.later HC.out) HR.out hts hn HA.out
          rw [hbk] at hrd
          have HRD := Sealed.mk hrd
          obtain ⟨ad, c9, hv9⟩ := own_some HO.out (by omega)
          injection hv9 with hv9 hv9b hv9c
          subst hv9 hv9c
          clear hv9b
          obtain ⟨y, hy⟩ : ∃ y, y = P.getD i 0 := ⟨_, rfl⟩
          rw [← hy] at HRD
          have HYY := Sealed.mk hy
          clear hbk hrd hy
          have hyy : (y != y) = false := by simp
          go_wp2_with (go_at_call 19; refine HRD.out.mono ?_; rintro e w5 ⟨rfl, hr5, hc5⟩; have HO5 := Sealed.mk (owns_chg HO.out hc5 (by decide)); have x5 := own_cell HO5.out hlt; rw [← HYY.out] at x5; have HR5 := Sealed.mk hr5; have HC5 := Sealed.mk hc5; clear hr5 hc5)
          go_roundg (P.length - (i + 1))
          case measure => have := HK.out; omega
          case rel => exact ⟨i + 1, by go_num, ⟨rfl⟩, ⟨hlt⟩, HO5, ⟨HW.out.chg HC5.out (by decide) (by decide)⟩, HR5, ⟨HC.out.trans (HC5.out.mono HG.out (by simp))⟩⟩
        · have hi : i = P.length := by have := HI.out; omega
          rw [hi, List.take_length, ← HL.out] at HR
          have hdi2 : decide (i < P.length) = false := decide_eq_false hlt
          clear hi hlt
          go_wp2_with fail
          refine (at_any HR.out hts).mono ?_
          rintro e w6 ⟨rfl, n6, rfl⟩
          have HW6 : Sealed (WrSt w1.heap.size (wr.drewN n6) gw 43 [] l) := ⟨HW.out.chg ((Chg.refl 0 [] wr).drewN n6) (by simp) (by simp)⟩
          have HC6 := Sealed.mk (HC.out.drewN n6)
          go_wp2_with fail
          refine (len_ok HW6.out HBL.out).mono ?_
          rintro e w7 ⟨rfl, n7, rfl⟩
          have HC7 := Sealed.mk (HC.out.drewN (n6 + n7))
          go_wp2_with fail
          refine (trees_any _).mono ?_
          rintro e w8 ⟨rfl, hb⟩
          have HC8 := Sealed.mk (HC7.out.below_step hb)
          clear hb
          go_wp2
          go_ret
          exact ⟨rfl, ((C1.out.mono (T' := [43, 5, 3, 73]) (Nat.le_refl _) (by simp)).trans (HC8.out.mono HS.out (fun _ h => h))).to_below⟩
end Go.Proofs.Ytmdlhbhdlhjakaa
