/- The contract of the document's answer's Inflate. -/
import Derived.Test.YtmdlhbhdlhjakaaM37
import Derived.Test.YtmdlhbhdlhjakaaM42
set_option linter.unusedVariables false
set_option linter.unusedSimpArgs false
namespace Go.Proofs.Ytmdlhbhdlhjakaa
open Go.RowKit

theorem infl_bits {s : ByteArray} {most k p P1 Z1 a P2 Z2 b : Nat} {o : List Nat} (h1 : bitsR s p 0 1 = (P1, Z1, a)) (h2 : bitsR s P1 Z1 2 = (P2, Z2, b)) :
    (failN (decide (b = 3)) Z2 4 ≠ 0 → inflS s most (k + 1) p o = .error (failN (decide (b = 3)) Z2 4)) ∧
    (failN (decide (b = 3)) Z2 4 = 0 → getS s p 1 = .ok (a, P1) ∧ getS s P1 2 = .ok (b, P2) ∧ b < 3 ∧ a ≤ 1) := by
  have hfz : ∀ x z, z ≠ 0 → failN x z 4 = z := fun x z hz => by unfold failN; rw [if_neg (fun h => hz h.2)]
  cases g1 : getS s p 1 with
  | error e =>
    have he := getS_err g1
    subst he
    rw [bitsR_bad g1] at h1
    simp only [Prod.mk.injEq] at h1
    obtain ⟨rfl, rfl, rfl⟩ := h1
    rw [bitsR_err (by decide)] at h2
    simp only [Prod.mk.injEq] at h2
    obtain ⟨rfl, rfl, rfl⟩ := h2
    rw [hfz _ _ (by decide)]
    exact ⟨fun _ => by rw [inflS, g1], fun h => absurd h (by decide)⟩
  | ok r =>
    obtain ⟨a', q1⟩ := r
    rw [bitsR_ok g1] at h1
    simp only [Prod.mk.injEq] at h1
    obtain ⟨rfl, rfl, rfl⟩ := h1
    have ha : a' ≤ 1 := by have h3 := (getS_ok g1).2.2; have h4 := val_lt (bit_le s) p 1; omega
    cases g2 : getS s q1 2 with
    | error e =>
      have he := getS_err g2
      subst he
      rw [bitsR_bad g2] at h2
      simp only [Prod.mk.injEq] at h2
      obtain ⟨rfl, rfl, rfl⟩ := h2
      rw [hfz _ _ (by decide)]
      exact ⟨fun _ => by rw [inflS, g1]; simp only; rw [g2], fun h => absurd h (by decide)⟩
    | ok r =>
      obtain ⟨b', q2⟩ := r
      rw [bitsR_ok g2] at h2
      simp only [Prod.mk.injEq] at h2
      obtain ⟨rfl, rfl, rfl⟩ := h2
      have hb : b' < 4 := by have h3 := (getS_ok g2).2.2; have h4 := val_lt (bit_le s) q1 2; omega
      by_cases h3 : b' = 3
      · have hf : failN (decide (b' = 3)) 0 4 = 4 := by rw [decide_eq_true h3]; rfl
        rw [hf]
        subst h3
        exact ⟨fun _ => by rw [inflS, g1]; simp only; rw [g2]; rfl, fun h => absurd h (by decide)⟩
      · have hf : failN (decide (b' = 3)) 0 4 = 0 := by rw [decide_eq_false h3]; rfl
        rw [hf]
        exact ⟨fun h => absurd rfl h, fun _ => ⟨rfl, rfl, by omega, ha⟩⟩
theorem infl_go {s : ByteArray} {most k p p1 last kind p2 : Nat} {o : List Nat} {K : Except Nat (List Nat × Nat)} (h1 : getS s p 1 = .ok (last, p1)) (h2 : getS s p1 2 = .ok (kind, p2)) (h3 : kindS s most kind p2 o = K) :
    inflS s most (k + 1) p o = match (generalizing := false) K with
      | .error e => (.error e : Except Nat (List Nat × Nat))
      | .ok (o', p3) => if last = 1 then .ok (o', (p3 + 7) / 8) else inflS s most k p3 o' := by
  rw [inflS, h1]; simp only; rw [h2]; simp only; rw [h3]; rfl
def InfLive (B : Nat) (s : ByteArray) (AB : Option Addr) (cB most : Nat) (R : Except Nat (List Nat × Nat)) (w' : World) (x' : RS) (P : Int) (c L k : Nat) : Prop :=
  (c ≠ 0 ∧ R = .error c) ∨ (c = 0 ∧ ∃ (p : Nat) (o : List Nat) (A : Option Addr) (cap : Nat), x' = ⟨s, AB, 8 * s.size, cB, A, o.length, cap, (most : Int)⟩ ∧ P = (p : Int) ∧ p ≤ 8 * s.size ∧ o.length ≤ most ∧ w'.ownsRow B 5 1 (.slice A o.length cap) o.length (nums .u8 (castL o)) ∧
    ((L = 0 ∧ 8 * s.size < p + k ∧ inflS s most k p o = R) ∨ (L ≠ 0 ∧ R = .ok (o, (p + 7) / 8))))
theorem rinflate_neg (s : ByteArray) (most : Int) (hm : most < 0) (w : World) :
    Calls Try.prog 34 #[.string s, .int .i64 most] w fun e w' => e = inflEnd (.error 2) ∧ Below w.heap.size w w' := by
  have hd : decide (most < 0) = true := decide_eq_true hm
  go_enter Try.func34, Try.ntmps34
  go_wp2
  go_ret3
  exact ⟨rfl, Below.refl _ _⟩
set_option maxRecDepth 100000 in
set_option maxHeartbeats 8000000 in
theorem rinflate_any (s : ByteArray) (most : Nat) (hs : s.size ≤ 1000000) (hmm : most ≤ 1000000) (w : World) :
    Calls Try.prog 34 #[.string s, .int .i64 most] w fun e w' => e = inflEnd (inflateS s most) ∧ Below w.heap.size w w' := by
  obtain ⟨R, hR⟩ : ∃ R, R = inflateS s most := ⟨_, rfl⟩
  rw [← hR]
  have HR := Sealed.mk hR
  obtain ⟨B, hBe⟩ : ∃ B, B = w.heap.size := ⟨_, rfl⟩
  have HBE := Sealed.mk hBe
  have hB : B ≤ w.heap.size := by omega
  have hmi : decide ((most : Int) < 0) = false := decide_eq_false (by omega)
  clear hR hBe
  go_enter Try.func34, Try.ntmps34
  go_wp2_with fail
  refine (bits_any s w (Nat.le_trans hs (by decide))).mono ?_
  rintro e w1 ⟨v1, rfl, hoc, hb⟩
  obtain ⟨AB, cB, rfl⟩ := own_slice hoc
  have RB1 := Sealed.mk (ReadsT.of_own hoc)
  have X1 : Sealed (Chg B [5] w w1) := ⟨Chg.of_below hb⟩
  clear hoc hb hmi
  go_wp2_with (first
      | ((with_reducible refine gate_dst (N := 7) rfl ?_); refine ev_box (cs := zeroSt) (t := 101) ?hg ?hr ?_; (case hg => rfl); (case hr => first | (go_simp; done) | (go_simp; rfl)); intro gD w2 hg2 hb2 hB2 hs2; have GD : w.heap.size ≤ gD := (by rw [hg2]; exact X1.out.size); have RB2 := Sealed.mk (RB1.out.below hB2); have X2 := Sealed.mk (X1.out.below_step hB2); have D2 := Sealed.mk hb2; clear hg2 hb2 hB2 hs2 RB1 X1)
      | ((with_reducible refine gate_store (p := 7) rfl ?_); refine wp_store_arr rfl _ _ _ rfl (cells := [.string s, .slice AB (8 * s.size) cB, .int .i64 0, .slice none 0 0, .int .i64 (most : Int), .int .i64 0]) rfl rfl D2.out info_state rfl rfl ?_; intro w3 hb3 hc3 hk3 hs3; have RB3 := Sealed.mk (RB2.out.chg hc3 (by decide)); have X3 := Sealed.mk (X2.out.one_new hc3 GD); have D3 := Sealed.mk hb3; clear hb3 hc3 hk3 hs3 RB2 X2 D2))
  have HON : Sealed (w3.ownsRow B 5 1 (.slice none ([] : List Nat).length 0) ([] : List Nat).length (nums .u8 (castL []))) := ⟨own_nil _ _ _ _⟩
  go_loopg [8, 9, 10, 11] (8 * s.size + 1) (fun k s8 s9 s10 s11 w' => ∃ (x' : RS) (P : Int) (c L : Nat), s8 = .int .i64 L ∧ Sealed (IsBlk w' gD (x'.c P c) 101) ∧ Sealed (Chg B [5] w w') ∧ Sealed (ReadsT w' AB (sbits s (8 * s.size))) ∧ Sealed (InfLive B s AB cB most R w' x' P c L k))
  case atStart => exact ⟨⟨s, AB, 8 * s.size, cB, none, 0, 0, most⟩, 0, 0, 0, rfl, D3, X3, RB3, ⟨.inr ⟨rfl, 0, [], none, 0, rfl, rfl, Nat.zero_le _, Nat.zero_le _, HON.out, .inl ⟨rfl, by omega, HR.out.symm⟩⟩⟩⟩
  case round =>
    clear D3 X3 RB3 HON HR
    obtain ⟨x', P, c, L, rfl, HD, HX, HRB, HLV⟩ := hrel
    rcases HLV.out with ⟨hc0, hRe⟩ | ⟨rfl, p, o, A, cap, rfl, rfl, hp, hol, ho, hLL⟩
    · obtain ⟨s', AB', nB', cB', AO', nO', cO', mo'⟩ := x'
      have y5 := HD.out.cell 5 rfl
      have hne : ((c : Int) != 0) = true := by simp; omega
      have hne2 : ((c : Int) == 0) = false := beq_eq_false_iff_ne.2 (by omega)
      have HRE := Sealed.mk hRe
      clear hc0 hRe HLV
      by_cases hL : L = 0
      · have hLb : ((L : Int) == 0) = true := beq_iff_eq.2 (by omega)
        clear hL
        go_wp2
        go_quiet (fail)
        go_wp2
        go_ret3
        rw [HRE.out]
        exact ⟨ret_infl rfl rfl rfl, (HBE.out ▸ (HX.out.drewN _) : Chg w.heap.size [5] w _).to_below⟩
      · have hLb : ((L : Int) == 0) = false := beq_eq_false_iff_ne.2 (by omega)
        clear hL
        go_wp2
        go_quiet (fail)
        go_wp2
        go_ret3
        rw [HRE.out]
        exact ⟨ret_infl rfl rfl rfl, (HBE.out ▸ (HX.out.drewN _) : Chg w.heap.size [5] w _).to_below⟩
    · rcases hLL with ⟨rfl, hpk, hin⟩ | ⟨hL, hRe⟩
      rotate_left
      · have hLb : ((L : Int) == 0) = false := beq_eq_false_iff_ne.2 (by omega)
        have y5 := HD.out.cell 5 rfl
        have y3 := HD.out.cell 3 rfl
        have y2 := HD.out.cell 2 rfl
        have HRE := Sealed.mk hRe
        have hcv := fun n => run_own_string (P := Try.prog) (src := 41) (dst := 9) Try.underlying41 Try.underlying5 Try.underlying9 (owns_chg ho ((Chg.refl 0 [] wr).drewN n) (by simp))
        have HW : Sealed (∀ w, Calls Try.prog 68 #[.int .i64 p] w fun e w' => e = .returned (.int .i64 (8 * ((p + 7) / 8) : Nat)) ∧ ∃ n, w' = w.drewN n) := ⟨fun w => (whole_any p (by omega) w).mono fun e w' h => ⟨h.1, 0, h.2.symm⟩⟩
        have hq : p ≤ 8000000000 := by omega
        obtain ⟨W8, hW8⟩ : ∃ W8, W8 = 8 * ((p + 7) / 8) := ⟨_, rfl⟩
        have eq8 : Int.tdiv (W8 : Int) 8 = (((p + 7) / 8 : Nat) : Int) := by rw [Int.tdiv_eq_ediv_of_nonneg (by omega)]; omega
        have ew2 : IntKind.i64.wrap ((((p + 7) / 8 : Nat) : Int)) = (((p + 7) / 8 : Nat) : Int) := by rw [IntKind.wrap_i64]; omega
        rw [← hW8] at HW
        clear hL hRe HLV ho hW8
        go_wp2
        go_quiet ((go_at_call 68; exact Calls.quiet_of (HW.out _)))
        go_wp2
        go_ret3
        rw [HRE.out]
        exact ⟨ret_infl rfl (by omega) rfl, (HBE.out ▸ (HX.out.drewN _) : Chg w.heap.size [5] w _).to_below⟩
      · obtain ⟨f, rfl⟩ : ∃ f, gk = f + 1 := ⟨gk - 1, by omega⟩
        obtain ⟨P1, Z1, last, h1⟩ : ∃ P1 Z1 last, (P1, Z1, last) = bitsR s p 0 1 := ⟨_, _, _, rfl⟩
        obtain ⟨P2, Z2, kind, h2⟩ : ∃ P2 Z2 kind, (P2, Z2, kind) = bitsR s P1 Z1 2 := ⟨_, _, _, rfl⟩
        have HT := Sealed.mk (infl_bits (most := most) (k := f) (o := o) h1.symm h2.symm)
        have hP1 : P1 ≤ 8 * s.size := by have := bitsR_le (code := 0) (d := 1) hp; rw [← h1] at this; exact this
        have hP2 : P2 ≤ 8 * s.size := by have := bitsR_le (code := Z1) (d := 2) hP1; rw [← h2] at this; exact this
        have HB1 := Sealed.mk (fun (w : World) => rbits_tot ⟨s, AB, 8 * s.size, cB, A, o.length, cap, most⟩ p 0 1 (Nat.le_trans hs (by decide)) hp (by decide) w (Z := 0) (D := 1) rfl rfl)
        have HB2 := Sealed.mk (fun (w : World) => rbits_tot ⟨s, AB, 8 * s.size, cB, A, o.length, cap, most⟩ P1 Z1 2 (Nat.le_trans hs (by decide)) hP1 (by decide) w (Z := (Z1 : Int)) (D := 2) rfl rfl)
        simp only [← h1] at HB1
        simp only [← h2] at HB2
        obtain ⟨b3, hb3⟩ : ∃ b3, b3 = decide (kind = 3) := ⟨_, rfl⟩
        rw [← hb3] at HT
        have hb3I : ((kind : Int) == 3) = b3 := by
          rw [hb3]
          by_cases h : kind = 3
          · rw [decide_eq_true h]; exact beq_iff_eq.2 (by omega)
          · rw [decide_eq_false h]; exact beq_eq_false_iff_ne.2 (by omega)
        have HF := Sealed.mk (fun (w : World) => rfail_tot ⟨s, AB, 8 * s.size, cB, A, o.length, cap, most⟩ P2 Z2 4 b3 w (E := 4) rfl)
        obtain ⟨Z3, hZ3⟩ : ∃ Z3, Z3 = failN b3 Z2 4 := ⟨_, rfl⟩
        rw [← hZ3] at HT HF
        have HIN := Sealed.mk hin
        have HPK := Sealed.mk hpk
        have HO := Sealed.mk ho
        have y5 := HD.out.cell 5 rfl
        clear h1 h2 hb3 hZ3 hin hpk ho HLV
        go_wp2_with (first
            | ((with_reducible refine gate_dst (N := 27) rfl ?_); refine wp_load_arr rfl _ _ rfl rfl HD.out Try.underlying101 rfl info_state ?_))
        clear y5
        refine (HB1.out _).mono ?_
        rintro e w4 ⟨rfl, hb⟩
        have D4 := Sealed.mk (HD.out.below' hb)
        have O4 := Sealed.mk (owns_below HO.out hb)
        have RB4 := Sealed.mk (HRB.out.below hb)
        have X4 := Sealed.mk (HX.out.below_step hb)
        clear hb HD HO HRB HX
        go_wp2_with (first
            | ((with_reducible refine gate_store (p := 7) rfl ?_); refine wp_store_arr rfl _ _ _ rfl (cells := [.string s, .slice AB (8 * s.size) cB, .int .i64 P1, .slice A o.length cap, .int .i64 (most : Int), .int .i64 Z1]) rfl rfl D4.out info_state rfl rfl ?_; intro w5 hb5 hc5 hk5 hs5; have O5 := Sealed.mk (owns_chg O4.out hc5 (by decide)); have RB5 := Sealed.mk (RB4.out.chg hc5 (by decide)); have X5 := Sealed.mk (X4.out.one_new hc5 GD); have D5 := Sealed.mk hb5; clear hb5 hc5 hk5 hs5 O4 RB4 X4 D4)
            | ((with_reducible refine gate_dst (N := 32) rfl ?_); refine wp_load_arr rfl _ _ rfl rfl D5.out Try.underlying101 rfl info_state ?_))
        refine (HB2.out _).mono ?_
        rintro e w6 ⟨rfl, hb⟩
        have D6 := Sealed.mk (D5.out.below' hb)
        have O6 := Sealed.mk (owns_below O5.out hb)
        have RB6 := Sealed.mk (RB5.out.below hb)
        have X6 := Sealed.mk (X5.out.below_step hb)
        clear hb D5 O5 RB5 X5
        go_wp2_with (first
            | ((with_reducible refine gate_store (p := 7) rfl ?_); refine wp_store_arr rfl _ _ _ rfl (cells := [.string s, .slice AB (8 * s.size) cB, .int .i64 P2, .slice A o.length cap, .int .i64 (most : Int), .int .i64 Z2]) rfl rfl D6.out info_state rfl rfl ?_; intro w7 hb7 hc7 hk7 hs7; have O7 := Sealed.mk (owns_chg O6.out hc7 (by decide)); have RB7 := Sealed.mk (RB6.out.chg hc7 (by decide)); have X7 := Sealed.mk (X6.out.one_new hc7 GD); have D7 := Sealed.mk hb7; clear hb7 hc7 hk7 hs7 O6 RB6 X6 D6)
            | ((with_reducible refine gate_dst (N := 36) rfl ?_); refine wp_load_arr rfl _ _ rfl rfl D7.out Try.underlying101 rfl info_state ?_))
        refine (HF.out _).mono ?_
        rintro e w8 ⟨rfl, hb⟩
        have D8 := Sealed.mk (D7.out.below' hb)
        have O8 := Sealed.mk (owns_below O7.out hb)
        have RB8 := Sealed.mk (RB7.out.below hb)
        have X8 := Sealed.mk (X7.out.below_step hb)
        clear hb D7 O7 RB7 X7
        clear HB1 HB2 HF hb3I
        by_cases hz : Z3 = 0
        case neg =>
          have hne : ((Z3 : Int) != 0) = true := by simp; omega
          have HRE : Sealed (R = .error Z3) := ⟨HIN.out.symm.trans (HT.out.1 hz)⟩
          clear HT hz HIN
          go_wp2_with (first
              | ((with_reducible refine gate_store (p := 7) rfl ?_); refine wp_store_arr rfl _ _ _ rfl (cells := [.string s, .slice AB (8 * s.size) cB, .int .i64 P2, .slice A o.length cap, .int .i64 (most : Int), .int .i64 Z3]) rfl rfl D8.out info_state rfl rfl ?_; intro w9 hb9 hc9 hk9 hs9; have cD9_5 := hb9.cell 5 rfl; have fD9_5 := hb9.free 5; have O9 := Sealed.mk (owns_chg O8.out hc9 (by decide)); have RB9 := Sealed.mk (RB8.out.chg hc9 (by decide)); have X9 := Sealed.mk (X8.out.one_new hc9 GD); have D9 := Sealed.mk hb9; clear hb9 hc9 hk9 hs9 O8 RB8 X8 D8))
          go_quiet (fail)
          go_wp2
          go_ret3
          rw [HRE.out]
          exact ⟨ret_infl rfl rfl rfl, (HBE.out ▸ (X9.out.drewN _) : Chg w.heap.size [5] w _).to_below⟩
        case pos =>
          subst hz
          obtain ⟨e1, e2, hk3, hl1⟩ := HT.out.2 rfl
          have HE1 := Sealed.mk e1
          have HE2 := Sealed.mk e2
          have hpp1 := getS_ok e1
          have hpp2 := getS_ok e2
          have hpq : p < P2 := by omega
          clear e1 e2 HT hpp1 hpp2
          by_cases hkd0 : kind = 0
          case pos =>
            subst hkd0
            obtain ⟨K, hK'⟩ : ∃ K, kindS s most 0 P2 o = K := ⟨_, rfl⟩
            have hK := Sealed.mk hK'
            clear hK'
            go_wp2_with (first
                | ((with_reducible refine gate_store (p := 7) rfl ?_); refine wp_store_arr rfl _ _ _ rfl (cells := [.string s, .slice AB (8 * s.size) cB, .int .i64 P2, .slice A o.length cap, .int .i64 (most : Int), .int .i64 0]) rfl rfl D8.out info_state rfl rfl ?_; intro w9 hb9 hc9 hk9 hs9; have cD9_5 := hb9.cell 5 rfl; have fD9_5 := hb9.free 5; have O9 := Sealed.mk (owns_chg O8.out hc9 (by decide)); have RB9 := Sealed.mk (RB8.out.chg hc9 (by decide)); have X9 := Sealed.mk (X8.out.one_new hc9 GD); have D9 := Sealed.mk hb9; clear hb9 hc9 hk9 hs9 O8 RB8 X8 D8)
                | ((with_reducible refine gate_dst (N := 50) rfl ?_); refine wp_load_arr rfl _ _ rfl rfl D9.out Try.underlying101 rfl info_state ?_))
            refine (rstored10 (B := B) ⟨s, AB, 8 * s.size, cB, A, o.length, cap, most⟩ P2 most o hs hP2 (Nat.le_trans hB X9.out.size) rfl rfl (Nat.le_trans hol hmm) O9.out).mono ?_
            rintro e w10 ⟨hc, hm⟩
            have D10 := Sealed.mk (D9.out.chg hc (.inr (by decide)))
            have RB10 := Sealed.mk (RB9.out.chg hc (by decide))
            have X10 := Sealed.mk (X9.out.trans hc)
            clear D9 RB9 X9
            rw [show storedS s most P2 o = K from hK.out] at hm
            clear hc O9
            have hkp := HIN.out
            rw [infl_go HE1.out HE2.out hK.out] at hkp
            have HKP := Sealed.mk hkp
            clear hkp HIN HE1 HE2
            cases K with
            | error er =>
              obtain ⟨x2, p2, rfl⟩ := hm
              obtain ⟨s2, AB2, nB2, cB2, AO2, nO2, cO2, mo2⟩ := x2
              have her := kindS_bad hK.out
              have HRE : Sealed (R = .error er) := ⟨HKP.out.symm⟩
              clear HKP hK
              go_wp2_with (first
                  | ((with_reducible refine gate_store (p := 7) rfl ?_); refine wp_store_arr rfl _ _ _ rfl (cells := [.string s2, .slice AB2 nB2 cB2, .int .i64 p2, .slice AO2 nO2 cO2, .int .i64 mo2, .int .i64 er]) rfl rfl D10.out info_state rfl rfl ?_; intro w11 hb11 hc11 hk11 hs11; have RB11 := Sealed.mk (RB10.out.chg hc11 (by decide)); have X11 := Sealed.mk (X10.out.one_new hc11 GD); have D11 := Sealed.mk hb11; clear hb11 hc11 hk11 hs11 RB10 X10 D10))
              go_roundg 0
              case measure => omega
              case rel => exact ⟨⟨s2, AB2, nB2, cB2, AO2, nO2, cO2, mo2⟩, p2, er, last, rfl, D11, X11, RB11, ⟨.inl ⟨by omega, HRE.out⟩⟩⟩
            | ok r =>
              obtain ⟨o', q⟩ := r
              obtain ⟨A5, c5, rfl, ho⟩ := hm
              have hkpos := kindS_pos hK.out
              have HOW := Sealed.mk ho
              have HKP2 := HKP.out
              simp only at HKP2
              have HKP3 := Sealed.mk HKP2
              clear HKP HKP2 hK ho
              go_wp2_with (first
                  | ((with_reducible refine gate_store (p := 7) rfl ?_); refine wp_store_arr rfl _ _ _ rfl (cells := [.string s, .slice AB (8 * s.size) cB, .int .i64 q, .slice A5 o'.length c5, .int .i64 (most : Int), .int .i64 0]) rfl rfl D10.out info_state rfl rfl ?_; intro w11 hb11 hc11 hk11 hs11; have O11 := Sealed.mk (owns_chg HOW.out hc11 (by decide)); have RB11 := Sealed.mk (RB10.out.chg hc11 (by decide)); have X11 := Sealed.mk (X10.out.one_new hc11 GD); have D11 := Sealed.mk hb11; clear hb11 hc11 hk11 hs11 HOW RB10 X10 D10))
              go_roundg f
              case measure => omega
              case rel =>
                refine ⟨⟨s, AB, 8 * s.size, cB, A5, o'.length, c5, most⟩, q, 0, last, rfl, D11, X11, RB11, ⟨.inr ⟨rfl, q, o', A5, c5, rfl, rfl, hkpos.2.1, hkpos.2.2.2 hol, O11.out, ?_⟩⟩⟩
                have h := HKP3.out
                by_cases hl : last = 1
                · rw [if_pos hl] at h
                  exact .inr ⟨by omega, h.symm⟩
                · rw [if_neg hl] at h
                  exact .inl ⟨by omega, by have := HPK.out; omega, h⟩
          case neg =>
          by_cases hkd1 : kind = 1
          case pos =>
            subst hkd1
            obtain ⟨K, hK'⟩ : ∃ K, kindS s most 1 P2 o = K := ⟨_, rfl⟩
            have hK := Sealed.mk hK'
            clear hK'
            go_wp2_with (first
                | ((with_reducible refine gate_store (p := 7) rfl ?_); refine wp_store_arr rfl _ _ _ rfl (cells := [.string s, .slice AB (8 * s.size) cB, .int .i64 P2, .slice A o.length cap, .int .i64 (most : Int), .int .i64 0]) rfl rfl D8.out info_state rfl rfl ?_; intro w9 hb9 hc9 hk9 hs9; have cD9_5 := hb9.cell 5 rfl; have fD9_5 := hb9.free 5; have O9 := Sealed.mk (owns_chg O8.out hc9 (by decide)); have RB9 := Sealed.mk (RB8.out.chg hc9 (by decide)); have X9 := Sealed.mk (X8.out.one_new hc9 GD); have D9 := Sealed.mk hb9; clear hb9 hc9 hk9 hs9 O8 RB8 X8 D8))
            refine (rfixed10 _).mono ?_
            rintro e w10 ⟨A1, c1, A2, c2, rfl, hr1, hr2, hb, ht1, ht2⟩
            have RN0 : Sealed (ReadsT w10 A1 litL) := ⟨⟨hr1, ht1⟩⟩
            have RF0 : Sealed (ReadsT w10 A2 distL) := ⟨⟨hr2, ht2⟩⟩
            have D10 := Sealed.mk (D9.out.below' hb)
            have O10 := Sealed.mk (owns_below O9.out hb)
            have RB10 := Sealed.mk (RB9.out.below hb)
            have X10 := Sealed.mk (X9.out.below_step hb)
            clear hb hr1 hr2 ht1 ht2 D9 O9 RB9 X9
            go_wp2_with (first
                | ((with_reducible refine gate_dst (N := 58) rfl ?_); refine wp_load_arr rfl _ _ rfl rfl D10.out Try.underlying101 rfl info_state ?_))
            refine (rcoded10 (B := B) ⟨s, AB, 8 * s.size, cB, A, o.length, cap, most⟩ P2 most o (c0 := c1) (c1 := c2) hs hP2 (Nat.le_trans hB X10.out.size) rfl (Nat.le_trans hmm (by decide)) rfl hol rfl RB10.out RN0.out RF0.out (by rw [litL_ok.2.2]; decide) (by rw [litL_ok.2.2]; decide) litL_ok.1 litL_ok.2.1 (by rw [distL_ok.2.2]; decide) (by rw [distL_ok.2.2]; decide) distL_ok.1 distL_ok.2.1 litL_ok.2.2.symm distL_ok.2.2.symm O10.out rfl).mono ?_
            rintro e w11 ⟨hc, hm⟩
            have D11 := Sealed.mk (D10.out.chg hc (.inr (by decide)))
            have RB11 := Sealed.mk (RB10.out.chg hc (by decide))
            have X11 := Sealed.mk (X10.out.trans hc)
            clear D10 RB10 X10
            rw [show codedS s most litL distL (8 * s.size + 1) P2 o = K from hK.out] at hm
            clear hc O10
            have hkp := HIN.out
            rw [infl_go HE1.out HE2.out hK.out] at hkp
            have HKP := Sealed.mk hkp
            clear hkp HIN HE1 HE2
            cases K with
            | error er =>
              obtain ⟨x2, p2, rfl⟩ := hm
              obtain ⟨s2, AB2, nB2, cB2, AO2, nO2, cO2, mo2⟩ := x2
              have her := kindS_bad hK.out
              have HRE : Sealed (R = .error er) := ⟨HKP.out.symm⟩
              clear HKP hK
              go_wp2_with (first
                  | ((with_reducible refine gate_store (p := 7) rfl ?_); refine wp_store_arr rfl _ _ _ rfl (cells := [.string s2, .slice AB2 nB2 cB2, .int .i64 p2, .slice AO2 nO2 cO2, .int .i64 mo2, .int .i64 er]) rfl rfl D11.out info_state rfl rfl ?_; intro w12 hb12 hc12 hk12 hs12; have RB12 := Sealed.mk (RB11.out.chg hc12 (by decide)); have X12 := Sealed.mk (X11.out.one_new hc12 GD); have D12 := Sealed.mk hb12; clear hb12 hc12 hk12 hs12 RB11 X11 D11))
              go_roundg 0
              case measure => omega
              case rel => exact ⟨⟨s2, AB2, nB2, cB2, AO2, nO2, cO2, mo2⟩, p2, er, last, rfl, D12, X12, RB12, ⟨.inl ⟨by omega, HRE.out⟩⟩⟩
            | ok r =>
              obtain ⟨o', q⟩ := r
              obtain ⟨A5, c5, rfl, ho⟩ := hm
              have hkpos := kindS_pos hK.out
              have HOW := Sealed.mk ho
              have HKP2 := HKP.out
              simp only at HKP2
              have HKP3 := Sealed.mk HKP2
              clear HKP HKP2 hK ho
              go_wp2_with (first
                  | ((with_reducible refine gate_store (p := 7) rfl ?_); refine wp_store_arr rfl _ _ _ rfl (cells := [.string s, .slice AB (8 * s.size) cB, .int .i64 q, .slice A5 o'.length c5, .int .i64 (most : Int), .int .i64 0]) rfl rfl D11.out info_state rfl rfl ?_; intro w12 hb12 hc12 hk12 hs12; have O12 := Sealed.mk (owns_chg HOW.out hc12 (by decide)); have RB12 := Sealed.mk (RB11.out.chg hc12 (by decide)); have X12 := Sealed.mk (X11.out.one_new hc12 GD); have D12 := Sealed.mk hb12; clear hb12 hc12 hk12 hs12 HOW RB11 X11 D11))
              go_roundg f
              case measure => omega
              case rel =>
                refine ⟨⟨s, AB, 8 * s.size, cB, A5, o'.length, c5, most⟩, q, 0, last, rfl, D12, X12, RB12, ⟨.inr ⟨rfl, q, o', A5, c5, rfl, rfl, hkpos.2.1, hkpos.2.2.2 hol, O12.out, ?_⟩⟩⟩
                have h := HKP3.out
                by_cases hl : last = 1
                · rw [if_pos hl] at h
                  exact .inr ⟨by omega, h.symm⟩
                · rw [if_neg hl] at h
                  exact .inl ⟨by omega, by have := HPK.out; omega, h⟩
          case neg =>
            obtain hkd2 : kind = 2 := by omega
            subst hkd2
            obtain ⟨K, hK'⟩ : ∃ K, kindS s most 2 P2 o = K := ⟨_, rfl⟩
            have hK := Sealed.mk hK'
            clear hK'
            go_wp2_with (first
                | ((with_reducible refine gate_store (p := 7) rfl ?_); refine wp_store_arr rfl _ _ _ rfl (cells := [.string s, .slice AB (8 * s.size) cB, .int .i64 P2, .slice A o.length cap, .int .i64 (most : Int), .int .i64 0]) rfl rfl D8.out info_state rfl rfl ?_; intro w9 hb9 hc9 hk9 hs9; have cD9_5 := hb9.cell 5 rfl; have fD9_5 := hb9.free 5; have O9 := Sealed.mk (owns_chg O8.out hc9 (by decide)); have RB9 := Sealed.mk (RB8.out.chg hc9 (by decide)); have X9 := Sealed.mk (X8.out.one_new hc9 GD); have D9 := Sealed.mk hb9; clear hb9 hc9 hk9 hs9 O8 RB8 X8 D8)
                | ((with_reducible refine gate_dst (N := 46) rfl ?_); refine wp_load_arr rfl _ _ rfl rfl D9.out Try.underlying101 rfl info_state ?_))
            refine (rown10 (B := B) ⟨s, AB, 8 * s.size, cB, A, o.length, cap, most⟩ P2 most o hs hP2 (Nat.le_trans hB X9.out.size) rfl (Nat.le_trans hmm (by decide)) rfl hol rfl RB9.out O9.out).mono ?_
            rintro e w10 ⟨hc, hm⟩
            have D10 := Sealed.mk (D9.out.chg hc (.inr (by decide)))
            have RB10 := Sealed.mk (RB9.out.chg hc (by decide))
            have X10 := Sealed.mk (X9.out.trans hc)
            clear D9 RB9 X9
            rw [show ownS s most P2 o = K from hK.out] at hm
            clear hc O9
            have hkp := HIN.out
            rw [infl_go HE1.out HE2.out hK.out] at hkp
            have HKP := Sealed.mk hkp
            clear hkp HIN HE1 HE2
            cases K with
            | error er =>
              obtain ⟨x2, p2, rfl⟩ := hm
              obtain ⟨s2, AB2, nB2, cB2, AO2, nO2, cO2, mo2⟩ := x2
              have her := kindS_bad hK.out
              have HRE : Sealed (R = .error er) := ⟨HKP.out.symm⟩
              clear HKP hK
              go_wp2_with (first
                  | ((with_reducible refine gate_store (p := 7) rfl ?_); refine wp_store_arr rfl _ _ _ rfl (cells := [.string s2, .slice AB2 nB2 cB2, .int .i64 p2, .slice AO2 nO2 cO2, .int .i64 mo2, .int .i64 er]) rfl rfl D10.out info_state rfl rfl ?_; intro w11 hb11 hc11 hk11 hs11; have RB11 := Sealed.mk (RB10.out.chg hc11 (by decide)); have X11 := Sealed.mk (X10.out.one_new hc11 GD); have D11 := Sealed.mk hb11; clear hb11 hc11 hk11 hs11 RB10 X10 D10))
              go_roundg 0
              case measure => omega
              case rel => exact ⟨⟨s2, AB2, nB2, cB2, AO2, nO2, cO2, mo2⟩, p2, er, last, rfl, D11, X11, RB11, ⟨.inl ⟨by omega, HRE.out⟩⟩⟩
            | ok r =>
              obtain ⟨o', q⟩ := r
              obtain ⟨A5, c5, rfl, ho⟩ := hm
              have hkpos := kindS_pos hK.out
              have HOW := Sealed.mk ho
              have HKP2 := HKP.out
              simp only at HKP2
              have HKP3 := Sealed.mk HKP2
              clear HKP HKP2 hK ho
              go_wp2_with (first
                  | ((with_reducible refine gate_store (p := 7) rfl ?_); refine wp_store_arr rfl _ _ _ rfl (cells := [.string s, .slice AB (8 * s.size) cB, .int .i64 q, .slice A5 o'.length c5, .int .i64 (most : Int), .int .i64 0]) rfl rfl D10.out info_state rfl rfl ?_; intro w11 hb11 hc11 hk11 hs11; have O11 := Sealed.mk (owns_chg HOW.out hc11 (by decide)); have RB11 := Sealed.mk (RB10.out.chg hc11 (by decide)); have X11 := Sealed.mk (X10.out.one_new hc11 GD); have D11 := Sealed.mk hb11; clear hb11 hc11 hk11 hs11 HOW RB10 X10 D10))
              go_roundg f
              case measure => omega
              case rel =>
                refine ⟨⟨s, AB, 8 * s.size, cB, A5, o'.length, c5, most⟩, q, 0, last, rfl, D11, X11, RB11, ⟨.inr ⟨rfl, q, o', A5, c5, rfl, rfl, hkpos.2.1, hkpos.2.2.2 hol, O11.out, ?_⟩⟩⟩
                have h := HKP3.out
                by_cases hl : last = 1
                · rw [if_pos hl] at h
                  exact .inr ⟨by omega, h.symm⟩
                · rw [if_neg hl] at h
                  exact .inl ⟨by omega, by have := HPK.out; omega, h⟩
end Go.Proofs.Ytmdlhbhdlhjakaa
