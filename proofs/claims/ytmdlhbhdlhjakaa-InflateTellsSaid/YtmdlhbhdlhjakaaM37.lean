/- The contract of the document's answer's own. -/
import Derived.Test.YtmdlhbhdlhjakaaM36
import Derived.Test.YtmdlhbhdlhjakaaM29
set_option linter.unusedVariables false
set_option linter.unusedSimpArgs false
namespace Go.Proofs.Ytmdlhbhdlhjakaa
open Go.RowKit
attribute [local go_sem ↓] Go.wp_at_zero Go.wp_at_succ

theorem headT_len {s : ByteArray} : ∀ (k i p c : Nat) (l : List Int), (headT s k i p c l).2.2.length = l.length
  | 0, i, p, c, l => rfl
  | k + 1, i, p, c, l => by rw [headT, headT_len k, List.length_set]
theorem headT_le {s : ByteArray} : ∀ (k i p c : Nat) (l : List Int), p ≤ 8 * s.size → (headT s k i p c l).1 ≤ 8 * s.size
  | 0, i, p, c, l, h => h
  | k + 1, i, p, c, l, h => by rw [headT]; exact headT_le k _ _ _ _ (bitsR_le h)
theorem own_bits {s : ByteArray} {most p P1 Z1 a P2 Z2 b P3 Z3 c : Nat} {o : List Nat} (h1 : bitsR s p 0 5 = (P1, Z1, a)) (h2 : bitsR s P1 Z1 5 = (P2, Z2, b)) (h3 : bitsR s P2 Z2 4 = (P3, Z3, c)) :
    (Z3 ≠ 0 → ownS s most p o = .error Z3) ∧ (Z3 = 0 → getS s p 5 = .ok (a, P1) ∧ getS s P1 5 = .ok (b, P2) ∧ getS s P2 4 = .ok (c, P3)) ∧ ((29 < a ∨ 29 < b) → ownS s most p o = .error (failN true Z3 4)) := by
  have hfz : ∀ z, z ≠ 0 → failN true z 4 = z := fun z hz => by unfold failN; rw [if_neg (fun h => hz h.2)]
  cases g1 : getS s p 5 with
  | error e =>
    have he := getS_err g1
    subst he
    rw [bitsR_bad g1] at h1
    simp only [Prod.mk.injEq] at h1
    obtain ⟨rfl, rfl, rfl⟩ := h1
    rw [bitsR_err (by decide)] at h2
    simp only [Prod.mk.injEq] at h2
    obtain ⟨rfl, rfl, rfl⟩ := h2
    rw [bitsR_err (by decide)] at h3
    simp only [Prod.mk.injEq] at h3
    obtain ⟨rfl, rfl, rfl⟩ := h3
    have hO : ownS s most p o = .error 5 := by unfold ownS; rw [g1]
    exact ⟨fun _ => hO, fun h => absurd h (by decide), fun _ => hO⟩
  | ok r =>
    obtain ⟨a', q1⟩ := r
    rw [bitsR_ok g1] at h1
    simp only [Prod.mk.injEq] at h1
    obtain ⟨rfl, rfl, rfl⟩ := h1
    cases g2 : getS s q1 5 with
    | error e =>
      have he := getS_err g2
      subst he
      rw [bitsR_bad g2] at h2
      simp only [Prod.mk.injEq] at h2
      obtain ⟨rfl, rfl, rfl⟩ := h2
      rw [bitsR_err (by decide)] at h3
      simp only [Prod.mk.injEq] at h3
      obtain ⟨rfl, rfl, rfl⟩ := h3
      have hO : ownS s most p o = .error 5 := by unfold ownS; rw [g1]; simp only; rw [g2]
      exact ⟨fun _ => hO, fun h => absurd h (by decide), fun _ => hO⟩
    | ok r =>
      obtain ⟨b', q2⟩ := r
      rw [bitsR_ok g2] at h2
      simp only [Prod.mk.injEq] at h2
      obtain ⟨rfl, rfl, rfl⟩ := h2
      cases g3 : getS s q2 4 with
      | error e =>
        have he := getS_err g3
        subst he
        rw [bitsR_bad g3] at h3
        simp only [Prod.mk.injEq] at h3
        obtain ⟨rfl, rfl, rfl⟩ := h3
        have hO : ownS s most p o = .error 5 := by unfold ownS; rw [g1]; simp only; rw [g2]; simp only; rw [g3]
        exact ⟨fun _ => hO, fun h => absurd h (by decide), fun _ => hO⟩
      | ok r =>
        obtain ⟨c', q3⟩ := r
        rw [bitsR_ok g3] at h3
        simp only [Prod.mk.injEq] at h3
        obtain ⟨rfl, rfl, rfl⟩ := h3
        exact ⟨fun h => absurd rfl h, fun _ => ⟨rfl, rfl, rfl⟩, fun h => ownS_ab g1 g2 g3 h⟩
/-- The lengths of the codes of lengths: what they come to. -/
theorem own_heads {s : ByteArray} {many P P4 Z5 : Nat} {l : List Int} (h : headT s many 0 P 0 (List.replicate 19 0) = (P4, Z5, l)) :
    (failN (decide (checkOf l ≠ 0)) Z5 4 ≠ 0 → headsS s many P = .error (failN (decide (checkOf l ≠ 0)) Z5 4)) ∧ (failN (decide (checkOf l ≠ 0)) Z5 4 = 0 → headsS s many P = .ok (l, P4) ∧ checkOf l = 0) := by
  cases g : headFrom s many 0 P (List.replicate 19 0) with
  | error e =>
    have he := headT_bad g
    rw [h] at he
    simp only at he
    subst he
    have h1 := headFrom_bad g
    have hf : failN (decide (checkOf l ≠ 0)) Z5 4 = Z5 := by unfold failN; rw [if_neg (fun h => by omega)]
    rw [hf]
    exact ⟨fun _ => by unfold headsS; rw [g], fun h => by omega⟩
  | ok r =>
    obtain ⟨l', q⟩ := r
    rw [headT_ok g] at h
    simp only [Prod.mk.injEq] at h
    obtain ⟨rfl, rfl, rfl⟩ := h
    by_cases hc : checkOf l' = 0
    · have hf : failN (decide (checkOf l' ≠ 0)) 0 4 = 0 := by rw [decide_eq_false (fun h => h hc)]; rfl
      rw [hf]
      exact ⟨fun h => absurd rfl h, fun _ => ⟨by unfold headsS; rw [g]; simp only; rw [if_neg (fun h => h hc)], hc⟩⟩
    · have hf : failN (decide (checkOf l' ≠ 0)) 0 4 = 4 := by rw [decide_eq_true hc]; rfl
      rw [hf]
      exact ⟨fun _ => by unfold headsS; rw [g]; simp only; rw [if_pos hc], fun h => absurd h (by decide)⟩
theorem ReadsT.drewN {w : World} {A : Option Addr} {xs : List Int} (h : ReadsT w A xs) (n : Nat) : ReadsT (w.drewN n) A xs := ⟨⟨h.reads.1, h.reads.2⟩, h.typed⟩
theorem ReadsT.drew {w : World} {A : Option Addr} {xs : List Int} (h : ReadsT w A xs) : ReadsT w.drew A xs := ⟨⟨h.reads.1, h.reads.2⟩, h.typed⟩
theorem ReadsT.take {w : World} {A : Option Addr} {xs : List Int} (h : ReadsT w A xs) (n : Nat) : ReadsT w A (xs.take n) := ⟨reads_take h.reads n, h.typed⟩
theorem ReadsT.drop {w : World} {ad : Addr} {xs : List Int} (h : ReadsT w (some ad) xs) (n : Nat) : ReadsT w (some (ad.add n)) (xs.drop n) :=
  ⟨reads_drop h.reads n, fun ad' he => by injection he with he; subst he; rw [add_block]; exact h.typed ad rfl⟩
set_option maxRecDepth 100000 in
set_option maxHeartbeats 8000000 in
theorem rown10 {B : Nat} (x : RS) (p most : Nat) (o : List Nat) {w : World} (hs : x.s.size ≤ 1000000) (hp : p ≤ 8 * x.s.size) (hB : B ≤ w.heap.size) (hmo : x.most = (most : Int)) (hmm : most ≤ 100000000) (hn : x.nO = o.length) (hol : o.length ≤ most)
    (hnB : x.nB = 8 * x.s.size) (hBt : ReadsT w x.AB (sbits x.s (8 * x.s.size))) (ho : w.ownsRow B 5 1 (.slice x.AO x.nO x.cO) x.nO (nums .u8 (castL o))) :
    Calls Try.prog 67 #[x.v p 0] w (RtPost B x (ownS x.s most p o) w) := by
  obtain ⟨s, AB, nB, cB, AO, nO, cO, mo⟩ := x
  simp only at hs hp hmo hn ho hnB hBt ⊢
  subst hmo hn hnB
  obtain ⟨R, hR⟩ : ∃ R, R = ownS s most p o := ⟨_, rfl⟩
  rw [← hR]
  have HR := Sealed.mk hR
  have HO := Sealed.mk ho
  have RB0 := Sealed.mk hBt
  obtain ⟨P1, Z1, a, h1⟩ : ∃ P1 Z1 a, (P1, Z1, a) = bitsR s p 0 5 := ⟨_, _, _, rfl⟩
  obtain ⟨P2, Z2, b, h2⟩ : ∃ P2 Z2 b, (P2, Z2, b) = bitsR s P1 Z1 5 := ⟨_, _, _, rfl⟩
  obtain ⟨P3, Z3, c, h3⟩ : ∃ P3 Z3 c, (P3, Z3, c) = bitsR s P2 Z2 4 := ⟨_, _, _, rfl⟩
  have HT := Sealed.mk (own_bits (most := most) (o := o) h1.symm h2.symm h3.symm)
  have hP1 : P1 ≤ 8 * s.size := by have := bitsR_le (code := 0) (d := 5) hp; rw [← h1] at this; exact this
  have hP2 : P2 ≤ 8 * s.size := by have := bitsR_le (code := Z1) (d := 5) hP1; rw [← h2] at this; exact this
  have hP3 : P3 ≤ 8 * s.size := by have := bitsR_le (code := Z2) (d := 4) hP2; rw [← h3] at this; exact this
  have hav : a ≤ 65535 := by have := bitsR_val (s := s) (p := p) (code := 0) (d := 5) (by decide); rw [← h1] at this; exact this
  have hbv : b ≤ 65535 := by have := bitsR_val (s := s) (p := P1) (code := Z1) (d := 5) (by decide); rw [← h2] at this; exact this
  have hcv : c ≤ 15 := by
    have h4 : (bitsR s P2 Z2 4).2.2 ≤ 15 := by
      unfold bitsR
      split
      · cases g : getS s P2 4 with
        | error e => simp [valOf]
        | ok r =>
          obtain ⟨n, q⟩ := r
          have h1 := (getS_ok g).2.2
          have h2 := val_lt (bit_le s) P2 4
          simp only [valOf]; omega
      · simp
    rw [← h3] at h4; exact h4
  have HB1 := Sealed.mk (fun (w : World) => rbits_tot ⟨s, AB, 8 * s.size, cB, AO, o.length, cO, most⟩ p 0 5 (Nat.le_trans hs (by decide)) hp (by decide) w (Z := 0) (D := 5) rfl rfl)
  have HB2 := Sealed.mk (fun (w : World) => rbits_tot ⟨s, AB, 8 * s.size, cB, AO, o.length, cO, most⟩ P1 Z1 5 (Nat.le_trans hs (by decide)) hP1 (by decide) w (Z := (Z1 : Int)) (D := 5) rfl rfl)
  have HB3 := Sealed.mk (fun (w : World) => rbits_tot ⟨s, AB, 8 * s.size, cB, AO, o.length, cO, most⟩ P2 Z2 4 (Nat.le_trans hs (by decide)) hP2 (by decide) w (Z := (Z2 : Int)) (D := 4) rfl rfl)
  simp only [← h1] at HB1
  simp only [← h2] at HB2
  simp only [← h3] at HB3
  clear h1 h2 h3 hR ho hBt
  go_enter Try.func67, Try.ntmps67
  go_wp2_with (first
      | ((with_reducible refine gate_dst (N := 1) rfl ?_); refine ev_box (cs := [.string s, .slice AB (8 * s.size) cB, .int .i64 p, .slice AO o.length cO, .int .i64 (most : Int), .int .i64 0]) (t := 101) ?hg ?hr ?_; (case hg => rfl); (case hr => first | (go_simp; done) | (go_simp; rfl)); intro gD w1 hg1 hb1 hB1 hs1; have GD : w.heap.size ≤ gD := (by rw [hg1]; exact Nat.le_refl _); have O1 := Sealed.mk (owns_below HO.out hB1); have RB1 := Sealed.mk (RB0.out.below hB1); have X1 := Sealed.mk ((Chg.refl B [5] w).below_step hB1); have D1 := Sealed.mk hb1; clear hg1 hb1 hB1 hs1 HO RB0)
      | ((with_reducible refine gate_dst (N := 2) rfl ?_); refine ev_box (cs := zeroSt) (t := 101) ?hg ?hr ?_; (case hg => rfl); (case hr => first | (go_simp; done) | (go_simp; rfl)); intro gZ w2 hg2 hb2 hB2 hs2; have GZ : w.heap.size ≤ gZ := (by rw [hg2]; exact X1.out.size); have NDZ : gD ≠ gZ := (by have := D1.out.lt; omega); have D2 := Sealed.mk (D1.out.below' hB2); have O2 := Sealed.mk (owns_below O1.out hB2); have RB2 := Sealed.mk (RB1.out.below hB2); have X2 := Sealed.mk (X1.out.below_step hB2); have Z2 := Sealed.mk hb2; clear hg2 hb2 hB2 hs2 D1 O1 RB1 X1)
      | ((with_reducible refine gate_dst (N := 11) rfl ?_); refine wp_load_arr rfl _ _ rfl rfl D2.out Try.underlying101 rfl info_state ?_))
  refine (HB1.out _).mono ?_
  rintro e w3 ⟨rfl, hb⟩
  have D3 := Sealed.mk (D2.out.below' hb)
  have Z3 := Sealed.mk (Z2.out.below' hb)
  have O3 := Sealed.mk (owns_below O2.out hb)
  have RB3 := Sealed.mk (RB2.out.below hb)
  have X3 := Sealed.mk (X2.out.below_step hb)
  clear hb D2 Z2 O2 RB2 X2
  go_wp2_with (first
      | ((with_reducible refine gate_store (p := 1) rfl ?_); refine wp_store_arr rfl _ _ _ rfl (cells := [.string s, .slice AB (8 * s.size) cB, .int .i64 P1, .slice AO o.length cO, .int .i64 (most : Int), .int .i64 Z1]) rfl rfl D3.out info_state rfl rfl ?_; intro w4 hb4 hc4 hk4 hs4; have Z4 := Sealed.mk (Z3.out.kept hk4 (fun h => NDZ h.symm)); have O4 := Sealed.mk (owns_chg O3.out hc4 (by decide)); have RB4 := Sealed.mk (RB3.out.chg hc4 (by decide)); have X4 := Sealed.mk (X3.out.one_new hc4 GD); have D4 := Sealed.mk hb4; clear hb4 hc4 hk4 hs4 Z3 O3 RB3 X3 D3)
      | ((with_reducible refine gate_dst (N := 16) rfl ?_); refine wp_load_arr rfl _ _ rfl rfl D4.out Try.underlying101 rfl info_state ?_))
  refine (HB2.out _).mono ?_
  rintro e w5 ⟨rfl, hb⟩
  have D5 := Sealed.mk (D4.out.below' hb)
  have Z5 := Sealed.mk (Z4.out.below' hb)
  have O5 := Sealed.mk (owns_below O4.out hb)
  have RB5 := Sealed.mk (RB4.out.below hb)
  have X5 := Sealed.mk (X4.out.below_step hb)
  clear hb D4 Z4 O4 RB4 X4
  go_wp2_with (first
      | ((with_reducible refine gate_store (p := 1) rfl ?_); refine wp_store_arr rfl _ _ _ rfl (cells := [.string s, .slice AB (8 * s.size) cB, .int .i64 P2, .slice AO o.length cO, .int .i64 (most : Int), .int .i64 Z2]) rfl rfl D5.out info_state rfl rfl ?_; intro w6 hb6 hc6 hk6 hs6; have Z6 := Sealed.mk (Z5.out.kept hk6 (fun h => NDZ h.symm)); have O6 := Sealed.mk (owns_chg O5.out hc6 (by decide)); have RB6 := Sealed.mk (RB5.out.chg hc6 (by decide)); have X6 := Sealed.mk (X5.out.one_new hc6 GD); have D6 := Sealed.mk hb6; clear hb6 hc6 hk6 hs6 Z5 O5 RB5 X5 D5)
      | ((with_reducible refine gate_dst (N := 21) rfl ?_); refine wp_load_arr rfl _ _ rfl rfl D6.out Try.underlying101 rfl info_state ?_))
  refine (HB3.out _).mono ?_
  rintro e w7 ⟨rfl, hb⟩
  have D7 := Sealed.mk (D6.out.below' hb)
  have Z7 := Sealed.mk (Z6.out.below' hb)
  have O7 := Sealed.mk (owns_below O6.out hb)
  have RB7 := Sealed.mk (RB6.out.below hb)
  have X7 := Sealed.mk (X6.out.below_step hb)
  clear hb D6 Z6 O6 RB6 X6
  clear HB1 HB2 HB3
  by_cases hab : 29 < a ∨ 29 < b
  case pos =>
    obtain ⟨Z4, hZ4⟩ : ∃ Z4, Z4 = failN true Z3 4 := ⟨_, rfl⟩
    have HF := Sealed.mk (fun (w : World) => rfail_tot ⟨s, AB, 8 * s.size, cB, AO, o.length, cO, most⟩ P3 Z3 4 true w (E := 4) rfl)
    rw [← hZ4] at HF
    have hz : Z4 ≠ 0 := by
      rw [hZ4]; unfold failN
      by_cases h : Z3 = 0
      · rw [if_pos ⟨rfl, h⟩]; decide
      · rw [if_neg (fun h' => h h'.2)]; exact h
    have hne : ((Z4 : Int) != 0) = true := by simp; omega
    have HRE : Sealed (R = .error Z4) := ⟨by rw [HR.out, hZ4]; exact HT.out.2.2 hab⟩
    clear hZ4 hz HT HR
    by_cases h29 : 29 < a
    · have hd : decide ((29 : Int) < (a : Int)) = true := decide_eq_true (by omega)
      clear hab h29
      go_wp2_with (first
          | ((with_reducible refine gate_store (p := 1) rfl ?_); refine wp_store_arr rfl _ _ _ rfl (cells := [.string s, .slice AB (8 * s.size) cB, .int .i64 P3, .slice AO o.length cO, .int .i64 (most : Int), .int .i64 Z3]) rfl rfl D7.out info_state rfl rfl ?_; intro w8 hb8 hc8 hk8 hs8; have Z8 := Sealed.mk (Z7.out.kept hk8 (fun h => NDZ h.symm)); have O8 := Sealed.mk (owns_chg O7.out hc8 (by decide)); have RB8 := Sealed.mk (RB7.out.chg hc8 (by decide)); have X8 := Sealed.mk (X7.out.one_new hc8 GD); have D8 := Sealed.mk hb8; clear hb8 hc8 hk8 hs8 Z7 O7 RB7 X7 D7)
          | ((with_reducible refine gate_dst (N := 25) rfl ?_); refine wp_load_arr rfl _ _ rfl rfl D8.out Try.underlying101 rfl info_state ?_))
      refine (HF.out _).mono ?_
      rintro e w9 ⟨rfl, hb⟩
      have D9 := Sealed.mk (D8.out.below' hb)
      have Z9 := Sealed.mk (Z8.out.below' hb)
      have O9 := Sealed.mk (owns_below O8.out hb)
      have RB9 := Sealed.mk (RB8.out.below hb)
      have X9 := Sealed.mk (X8.out.below_step hb)
      clear hb D8 Z8 O8 RB8 X8
      go_wp2_with (first
          | ((with_reducible refine gate_store (p := 1) rfl ?_); refine wp_store_arr rfl _ _ _ rfl (cells := [.string s, .slice AB (8 * s.size) cB, .int .i64 P3, .slice AO o.length cO, .int .i64 (most : Int), .int .i64 Z4]) rfl rfl D9.out info_state rfl rfl ?_; intro w10 hb10 hc10 hk10 hs10; have cD10_5 := hb10.cell 5 rfl; have fD10_5 := hb10.free 5; have Z10 := Sealed.mk (Z9.out.kept hk10 (fun h => NDZ h.symm)); have O10 := Sealed.mk (owns_chg O9.out hc10 (by decide)); have RB10 := Sealed.mk (RB9.out.chg hc10 (by decide)); have X10 := Sealed.mk (X9.out.one_new hc10 GD); have D10 := Sealed.mk hb10; clear hb10 hc10 hk10 hs10 Z9 O9 RB9 X9 D9)
          | ((with_reducible refine gate_dst (N := 36) rfl ?_); refine wp_load_arr rfl _ _ rfl rfl D10.out Try.underlying101 rfl info_state ?_)
          | ((with_reducible refine gate_store (p := 2) rfl ?_); refine wp_store_arr rfl _ _ _ rfl (cells := [.string s, .slice AB (8 * s.size) cB, .int .i64 P3, .slice AO o.length cO, .int .i64 (most : Int), .int .i64 Z4]) rfl rfl Z10.out info_state rfl rfl ?_; intro w11 hb11 hc11 hk11 hs11; have D11 := Sealed.mk (D10.out.kept hk11 NDZ); have O11 := Sealed.mk (owns_chg O10.out hc11 (by decide)); have RB11 := Sealed.mk (RB10.out.chg hc11 (by decide)); have X11 := Sealed.mk (X10.out.one_new hc11 GZ); have Z11 := Sealed.mk hb11; clear hb11 hc11 hk11 hs11 D10 O10 RB10 X10 Z10))
      refine bodyPost_ret (results_cell rfl _ rfl Z11.out Try.underlying101 rfl info_state) rfl ?_
      rw [HRE.out]
      exact ⟨X11.out, ⟨s, AB, 8 * s.size, cB, AO, o.length, cO, most⟩, P3, rfl⟩
    · have hd : decide ((29 : Int) < (a : Int)) = false := decide_eq_false (by omega)
      have hd3 : ¬ (29 : Int) < (a : Int) := by omega
      have hd2 : decide ((29 : Int) < (b : Int)) = true := decide_eq_true (by omega)
      clear hab h29
      go_wp2_with (first
          | ((with_reducible refine gate_store (p := 1) rfl ?_); refine wp_store_arr rfl _ _ _ rfl (cells := [.string s, .slice AB (8 * s.size) cB, .int .i64 P3, .slice AO o.length cO, .int .i64 (most : Int), .int .i64 Z3]) rfl rfl D7.out info_state rfl rfl ?_; intro w8 hb8 hc8 hk8 hs8; have Z8 := Sealed.mk (Z7.out.kept hk8 (fun h => NDZ h.symm)); have O8 := Sealed.mk (owns_chg O7.out hc8 (by decide)); have RB8 := Sealed.mk (RB7.out.chg hc8 (by decide)); have X8 := Sealed.mk (X7.out.one_new hc8 GD); have D8 := Sealed.mk hb8; clear hb8 hc8 hk8 hs8 Z7 O7 RB7 X7 D7)
          | ((with_reducible refine gate_dst (N := 25) rfl ?_); refine wp_load_arr rfl _ _ rfl rfl D8.out Try.underlying101 rfl info_state ?_))
      refine (HF.out _).mono ?_
      rintro e w9 ⟨rfl, hb⟩
      have D9 := Sealed.mk (D8.out.below' hb)
      have Z9 := Sealed.mk (Z8.out.below' hb)
      have O9 := Sealed.mk (owns_below O8.out hb)
      have RB9 := Sealed.mk (RB8.out.below hb)
      have X9 := Sealed.mk (X8.out.below_step hb)
      clear hb D8 Z8 O8 RB8 X8
      go_wp2_with (first
          | ((with_reducible refine gate_store (p := 1) rfl ?_); refine wp_store_arr rfl _ _ _ rfl (cells := [.string s, .slice AB (8 * s.size) cB, .int .i64 P3, .slice AO o.length cO, .int .i64 (most : Int), .int .i64 Z4]) rfl rfl D9.out info_state rfl rfl ?_; intro w10 hb10 hc10 hk10 hs10; have cD10_5 := hb10.cell 5 rfl; have fD10_5 := hb10.free 5; have Z10 := Sealed.mk (Z9.out.kept hk10 (fun h => NDZ h.symm)); have O10 := Sealed.mk (owns_chg O9.out hc10 (by decide)); have RB10 := Sealed.mk (RB9.out.chg hc10 (by decide)); have X10 := Sealed.mk (X9.out.one_new hc10 GD); have D10 := Sealed.mk hb10; clear hb10 hc10 hk10 hs10 Z9 O9 RB9 X9 D9)
          | ((with_reducible refine gate_dst (N := 36) rfl ?_); refine wp_load_arr rfl _ _ rfl rfl D10.out Try.underlying101 rfl info_state ?_)
          | ((with_reducible refine gate_store (p := 2) rfl ?_); refine wp_store_arr rfl _ _ _ rfl (cells := [.string s, .slice AB (8 * s.size) cB, .int .i64 P3, .slice AO o.length cO, .int .i64 (most : Int), .int .i64 Z4]) rfl rfl Z10.out info_state rfl rfl ?_; intro w11 hb11 hc11 hk11 hs11; have D11 := Sealed.mk (D10.out.kept hk11 NDZ); have O11 := Sealed.mk (owns_chg O10.out hc11 (by decide)); have RB11 := Sealed.mk (RB10.out.chg hc11 (by decide)); have X11 := Sealed.mk (X10.out.one_new hc11 GZ); have Z11 := Sealed.mk hb11; clear hb11 hc11 hk11 hs11 D10 O10 RB10 X10 Z10))
      refine bodyPost_ret (results_cell rfl _ rfl Z11.out Try.underlying101 rfl info_state) rfl ?_
      rw [HRE.out]
      exact ⟨X11.out, ⟨s, AB, 8 * s.size, cB, AO, o.length, cO, most⟩, P3, rfl⟩
  case neg =>
    have hd : decide ((29 : Int) < (a : Int)) = false := decide_eq_false (by omega)
    have hd3 : ¬ (29 : Int) < (a : Int) := by omega
    have hd2 : decide ((29 : Int) < (b : Int)) = false := decide_eq_false (by omega)
    have HF := Sealed.mk (fun (w : World) => rfail_tot ⟨s, AB, 8 * s.size, cB, AO, o.length, cO, most⟩ P3 Z3 4 false w (E := 4) rfl)
    rw [show failN false Z3 4 = Z3 from rfl] at HF
    have ha29 : a ≤ 29 := by omega
    have hb29 : b ≤ 29 := by omega
    have HAB := Sealed.mk hab
    clear hab
    go_wp2_with (first
        | ((with_reducible refine gate_store (p := 1) rfl ?_); refine wp_store_arr rfl _ _ _ rfl (cells := [.string s, .slice AB (8 * s.size) cB, .int .i64 P3, .slice AO o.length cO, .int .i64 (most : Int), .int .i64 Z3]) rfl rfl D7.out info_state rfl rfl ?_; intro w8 hb8 hc8 hk8 hs8; have Z8 := Sealed.mk (Z7.out.kept hk8 (fun h => NDZ h.symm)); have O8 := Sealed.mk (owns_chg O7.out hc8 (by decide)); have RB8 := Sealed.mk (RB7.out.chg hc8 (by decide)); have X8 := Sealed.mk (X7.out.one_new hc8 GD); have D8 := Sealed.mk hb8; clear hb8 hc8 hk8 hs8 Z7 O7 RB7 X7 D7)
        | ((with_reducible refine gate_dst (N := 25) rfl ?_); refine wp_load_arr rfl _ _ rfl rfl D8.out Try.underlying101 rfl info_state ?_))
    refine (HF.out _).mono ?_
    rintro e w9 ⟨rfl, hb⟩
    have D9 := Sealed.mk (D8.out.below' hb)
    have Z9 := Sealed.mk (Z8.out.below' hb)
    have O9 := Sealed.mk (owns_below O8.out hb)
    have RB9 := Sealed.mk (RB8.out.below hb)
    have X9 := Sealed.mk (X8.out.below_step hb)
    clear hb D8 Z8 O8 RB8 X8
    clear HF hd hd2 hd3
    by_cases hz : Z3 = 0
    case neg =>
      have hne : ((Z3 : Int) != 0) = true := by simp; omega
      have HRE : Sealed (R = .error Z3) := ⟨by rw [HR.out]; exact HT.out.1 hz⟩
      clear HT HR hz
      go_wp2_with (first
          | ((with_reducible refine gate_store (p := 1) rfl ?_); refine wp_store_arr rfl _ _ _ rfl (cells := [.string s, .slice AB (8 * s.size) cB, .int .i64 P3, .slice AO o.length cO, .int .i64 (most : Int), .int .i64 Z3]) rfl rfl D9.out info_state rfl rfl ?_; intro w10 hb10 hc10 hk10 hs10; have cD10_5 := hb10.cell 5 rfl; have fD10_5 := hb10.free 5; have Z10 := Sealed.mk (Z9.out.kept hk10 (fun h => NDZ h.symm)); have O10 := Sealed.mk (owns_chg O9.out hc10 (by decide)); have RB10 := Sealed.mk (RB9.out.chg hc10 (by decide)); have X10 := Sealed.mk (X9.out.one_new hc10 GD); have D10 := Sealed.mk hb10; clear hb10 hc10 hk10 hs10 Z9 O9 RB9 X9 D9)
          | ((with_reducible refine gate_dst (N := 36) rfl ?_); refine wp_load_arr rfl _ _ rfl rfl D10.out Try.underlying101 rfl info_state ?_)
          | ((with_reducible refine gate_store (p := 2) rfl ?_); refine wp_store_arr rfl _ _ _ rfl (cells := [.string s, .slice AB (8 * s.size) cB, .int .i64 P3, .slice AO o.length cO, .int .i64 (most : Int), .int .i64 Z3]) rfl rfl Z10.out info_state rfl rfl ?_; intro w11 hb11 hc11 hk11 hs11; have D11 := Sealed.mk (D10.out.kept hk11 NDZ); have O11 := Sealed.mk (owns_chg O10.out hc11 (by decide)); have RB11 := Sealed.mk (RB10.out.chg hc11 (by decide)); have X11 := Sealed.mk (X10.out.one_new hc11 GZ); have Z11 := Sealed.mk hb11; clear hb11 hc11 hk11 hs11 D10 O10 RB10 X10 Z10))
      refine bodyPost_ret (results_cell rfl _ rfl Z11.out Try.underlying101 rfl info_state) rfl ?_
      rw [HRE.out]
      exact ⟨X11.out, ⟨s, AB, 8 * s.size, cB, AO, o.length, cO, most⟩, P3, rfl⟩
    case pos =>
      subst hz
      obtain ⟨e1, e2, e3⟩ := HT.out.2.1 rfl
      have HE1 := Sealed.mk e1
      have HE2 := Sealed.mk e2
      have HE3 := Sealed.mk e3
      clear e1 e2 e3 HT
      obtain ⟨P4, Z5, l, h4⟩ : ∃ P4 Z5 l, (P4, Z5, l) = headT s (c + 4) 0 P3 0 (List.replicate 19 0) := ⟨_, _, _, rfl⟩
      have HHD := Sealed.mk (own_heads h4.symm)
      have hll : l.length = 19 := by have := headT_len (s := s) (c + 4) 0 P3 0 (List.replicate 19 0); rw [← h4] at this; exact this
      have hP4 : P4 ≤ 8 * s.size := by have := headT_le (s := s) (c + 4) 0 P3 0 (List.replicate 19 0) hP3; rw [← h4] at this; exact this
      have HLL := Sealed.mk hll
      have hc4 : (c : Int) + 4 = ((c + 4 : Nat) : Int) := by omega
      have HHE := Sealed.mk (fun (w : World) => rheads10 ⟨s, AB, 8 * s.size, cB, AO, o.length, cO, most⟩ P3 0 (c + 4) (w := w) hs hP3 (by omega) (Z := 0) (M := (c : Int) + 4) rfl hc4)
      simp only [← h4] at HHE
      clear h4 hll hc4
      go_wp2_with (first
          | ((with_reducible refine gate_store (p := 1) rfl ?_); refine wp_store_arr rfl _ _ _ rfl (cells := [.string s, .slice AB (8 * s.size) cB, .int .i64 P3, .slice AO o.length cO, .int .i64 (most : Int), .int .i64 0]) rfl rfl D9.out info_state rfl rfl ?_; intro w10 hb10 hc10 hk10 hs10; have cD10_5 := hb10.cell 5 rfl; have fD10_5 := hb10.free 5; have Z10 := Sealed.mk (Z9.out.kept hk10 (fun h => NDZ h.symm)); have O10 := Sealed.mk (owns_chg O9.out hc10 (by decide)); have RB10 := Sealed.mk (RB9.out.chg hc10 (by decide)); have X10 := Sealed.mk (X9.out.one_new hc10 GD); have D10 := Sealed.mk hb10; clear hb10 hc10 hk10 hs10 Z9 O9 RB9 X9 D9)
          | ((with_reducible refine gate_dst (N := 38) rfl ?_); refine wp_load_arr rfl _ _ rfl rfl D10.out Try.underlying101 rfl info_state ?_))
      refine (HHE.out _).mono ?_
      rintro e w11 ⟨gl, rfl, hbl, hb⟩
      have RT11 := Sealed.mk (ReadsT.of_blk hbl (by rw [HLL.out]; decide))
      have D11 := Sealed.mk (D10.out.below' hb)
      have Z11 := Sealed.mk (Z10.out.below' hb)
      have O11 := Sealed.mk (owns_below O10.out hb)
      have RB11 := Sealed.mk (RB10.out.below hb)
      have X11 := Sealed.mk (X10.out.below_step hb)
      clear hb hbl HHE D10 Z10 O10 RB10 X10
      go_wp2_with (first
          | ((with_reducible refine gate_store (p := 1) rfl ?_); refine wp_store_arr rfl _ _ _ rfl (cells := [.string s, .slice AB (8 * s.size) cB, .int .i64 P4, .slice AO o.length cO, .int .i64 (most : Int), .int .i64 Z5]) rfl rfl D11.out info_state rfl rfl ?_; intro w12 hb12 hc12 hk12 hs12; have Z12 := Sealed.mk (Z11.out.kept hk12 (fun h => NDZ h.symm)); have O12 := Sealed.mk (owns_chg O11.out hc12 (by decide)); have RB12 := Sealed.mk (RB11.out.chg hc12 (by decide)); have RT12 := Sealed.mk (RT11.out.chg hc12 (by decide)); have X12 := Sealed.mk (X11.out.one_new hc12 GD); have D12 := Sealed.mk hb12; clear hb12 hc12 hk12 hs12 Z11 O11 RB11 RT11 X11 D11))
      obtain ⟨bk, hbk⟩ : ∃ bk, bk = decide (checkOf l ≠ 0) := ⟨_, rfl⟩
      rw [← hbk] at HHD
      have hbI : (checkOf l != 0) = bk := by
        rw [hbk]
        by_cases h : checkOf l = 0
        · rw [decide_eq_false (fun h' => h' h), h]; rfl
        · rw [decide_eq_true h]; simpa using h
      obtain ⟨Z6, hZ6⟩ : ∃ Z6, Z6 = failN bk Z5 4 := ⟨_, rfl⟩
      rw [← hZ6] at HHD
      have HCK : Sealed (∀ w', ReadsT w' (some ⟨gl, 0, none⟩) l → Calls Try.prog 76 #[.slice (some ⟨gl, 0, none⟩) 19 19] w' fun e w'' => e = .returned (.int .i64 (checkOf l)) ∧ Below w'.heap.size w' w'') := ⟨fun w' h => by
        have h1 := rcheck_any (some ⟨gl, 0, none⟩) 19 l w' h.reads
        rw [HLL.out] at h1
        exact h1⟩
      have HFL := Sealed.mk (fun (w : World) => rfail_tot ⟨s, AB, 8 * s.size, cB, AO, o.length, cO, most⟩ P4 Z5 4 bk w (E := 4) rfl)
      rw [← hZ6] at HFL
      obtain ⟨ck, hck⟩ : ∃ ck, ck = checkOf l := ⟨_, rfl⟩
      rw [← hck] at HCK hbI
      have HCKE := Sealed.mk hck
      clear hbk hZ6 hck
      go_cut [] (fun wx => Sealed (IsBlk wx gD [.string s, .slice AB (8 * s.size) cB, .int .i64 P4, .slice AO o.length cO, .int .i64 (most : Int), .int .i64 Z6] 101) ∧ Sealed (IsBlk wx gZ zeroSt 101) ∧ Sealed (wx.ownsRow B 5 1 (.slice AO o.length cO) o.length (nums .u8 (castL o))) ∧ Sealed (ReadsT wx AB (sbits s (8 * s.size))) ∧ Sealed (ReadsT wx (some ⟨gl, 0, none⟩) l) ∧ Sealed (Chg B [5] w wx))
      case first =>
        have z0 := D12.out.cell 0 rfl
        have z1 := D12.out.cell 1 rfl
        have z2 := D12.out.cell 2 rfl
        have z3 := D12.out.cell 3 rfl
        have z4 := D12.out.cell 4 rfl
        have z5 := D12.out.cell 5 rfl
        go_region_law (first
          | (go_simp; go_at_call 76; refine (HCK.out _ RT12.out.drew).mono ?_; rintro e w13 ⟨rfl, hb⟩; have D13 := Sealed.mk (D12.out.drew.below' hb); have Z13 := Sealed.mk (Z12.out.drew.below' hb); have O13 := Sealed.mk (owns_below (w := World.drew _) O12.out hb); have RB13 := Sealed.mk (RB12.out.drew.below hb); have RT13 := Sealed.mk (RT12.out.drew.below hb); have X13 := Sealed.mk (X12.out.drew.below_step hb); have k13_0 := D13.out.cell 0 rfl; have k13_1 := D13.out.cell 1 rfl; have k13_2 := D13.out.cell 2 rfl; have k13_3 := D13.out.cell 3 rfl; have k13_4 := D13.out.cell 4 rfl; have k13_5 := D13.out.cell 5 rfl; clear hb)
          | (go_simp; go_at_call 64; refine (HFL.out _).mono ?_; rintro e w14 ⟨rfl, hb⟩; have D14 := Sealed.mk (D13.out.below' hb); have Z14 := Sealed.mk (Z13.out.below' hb); have O14 := Sealed.mk (owns_below O13.out hb); have RB14 := Sealed.mk (RB13.out.below hb); have RT14 := Sealed.mk (RT13.out.below hb); have X14 := Sealed.mk (X13.out.below_step hb); have k14_0 := D14.out.cell 0 rfl; have k14_1 := D14.out.cell 1 rfl; have k14_2 := D14.out.cell 2 rfl; have k14_3 := D14.out.cell 3 rfl; have k14_4 := D14.out.cell 4 rfl; have k14_5 := D14.out.cell 5 rfl; have f14_0 := D14.out.free 0; have f14_1 := D14.out.free 1; have f14_2 := D14.out.free 2; have f14_3 := D14.out.free 3; have f14_4 := D14.out.free 4; have f14_5 := D14.out.free 5; clear hb))
        all_goals
          clear z0 z1 z2 z3 z4 z5
          have DD : Sealed (IsBlk ((((((w14.setCell ⟨gD, 0, none⟩ (.string s)).setCell ⟨gD, 1, none⟩ (.slice AB (8 * s.size) cB)).setCell ⟨gD, 2, none⟩ (.int .i64 P4)).setCell ⟨gD, 3, none⟩ (.slice AO o.length cO)).setCell ⟨gD, 4, none⟩ (.int .i64 (most : Int))).setCell ⟨gD, 5, none⟩ (.int .i64 Z6)) gD [.string s, .slice AB (8 * s.size) cB, .int .i64 P4, .slice AO o.length cO, .int .i64 (most : Int), .int .i64 Z6] 101) := ⟨((((((D14.out.set 0 _).set 1 _).set 2 _).set 3 _).set 4 _).set 5 _)⟩
          have CC : Chg gD [101] w14 ((((((w14.setCell ⟨gD, 0, none⟩ (.string s)).setCell ⟨gD, 1, none⟩ (.slice AB (8 * s.size) cB)).setCell ⟨gD, 2, none⟩ (.int .i64 P4)).setCell ⟨gD, 3, none⟩ (.slice AO o.length cO)).setCell ⟨gD, 4, none⟩ (.int .i64 (most : Int))).setCell ⟨gD, 5, none⟩ (.int .i64 Z6)) := by
            have b0 := D14.out
            have b1 := b0.set 0 (.string s)
            have b2 := b1.set 1 (.slice AB (8 * s.size) cB)
            have b3 := b2.set 2 (.int .i64 P4)
            have b4 := b3.set 3 (.slice AO o.length cO)
            have b5 := b4.set 4 (.int .i64 (most : Int))
            exact (((((((Chg.refl gD [101] w14).set b0 (Nat.le_refl _) (by simp) 0 _).set b1 (Nat.le_refl _) (by simp) 1 _).set b2 (Nat.le_refl _) (by simp) 2 _).set b3 (Nat.le_refl _) (by simp) 3 _).set b4 (Nat.le_refl _) (by simp) 4 _).set b5 (Nat.le_refl _) (by simp) 5 _)
          have ZZ : Sealed (IsBlk ((((((w14.setCell ⟨gD, 0, none⟩ (.string s)).setCell ⟨gD, 1, none⟩ (.slice AB (8 * s.size) cB)).setCell ⟨gD, 2, none⟩ (.int .i64 P4)).setCell ⟨gD, 3, none⟩ (.slice AO o.length cO)).setCell ⟨gD, 4, none⟩ (.int .i64 (most : Int))).setCell ⟨gD, 5, none⟩ (.int .i64 Z6)) gZ zeroSt 101) := ⟨((((((Z14.out.far (fun h => NDZ h.symm) _).far (fun h => NDZ h.symm) _).far (fun h => NDZ h.symm) _).far (fun h => NDZ h.symm) _).far (fun h => NDZ h.symm) _).far (fun h => NDZ h.symm) _)⟩
          have OO := Sealed.mk (owns_chg O14.out CC (by decide))
          have QRB := Sealed.mk (RB14.out.chg CC (by decide))
          have QRT := Sealed.mk (RT14.out.chg CC (by decide))
          have XX := Sealed.mk (X14.out.one_new CC GD)
          go_wp2_with fail
          go_meet
          exact ⟨DD, ZZ, OO, QRB, QRT, XX⟩
      case rest =>
        clear D12 Z12 O12 RB12 RT12 X12
        obtain ⟨D15, Z15, O15, RB15, RT15, X15⟩ := hcut
        by_cases hz6 : Z6 = 0
        case neg =>
          have hne : ((Z6 : Int) != 0) = true := by simp; omega
          have HRE : Sealed (R = .error Z6) := ⟨by rw [HR.out]; exact ownS_h HE1.out HE2.out HE3.out HAB.out (HHD.out.1 hz6)⟩
          have y5 := D15.out.cell 5 rfl
          clear HHD HR hz6
          go_wp2_with (first
              | ((with_reducible refine gate_dst (N := 52) rfl ?_); refine wp_load_arr rfl _ _ rfl rfl D15.out Try.underlying101 rfl info_state ?_)
              | ((with_reducible refine gate_store (p := 2) rfl ?_); refine wp_store_arr rfl _ _ _ rfl (cells := [.string s, .slice AB (8 * s.size) cB, .int .i64 P4, .slice AO o.length cO, .int .i64 (most : Int), .int .i64 Z6]) rfl rfl Z15.out info_state rfl rfl ?_; intro w16 hb16 hc16 hk16 hs16; have D16 := Sealed.mk (D15.out.kept hk16 NDZ); have O16 := Sealed.mk (owns_chg O15.out hc16 (by decide)); have RB16 := Sealed.mk (RB15.out.chg hc16 (by decide)); have RT16 := Sealed.mk (RT15.out.chg hc16 (by decide)); have X16 := Sealed.mk (X15.out.one_new hc16 GZ); have Z16 := Sealed.mk hb16; clear hb16 hc16 hk16 hs16 D15 O15 RB15 RT15 X15 Z15))
          refine bodyPost_ret (results_cell rfl _ rfl Z16.out Try.underlying101 rfl info_state) rfl ?_
          rw [HRE.out]
          exact ⟨X16.out, ⟨s, AB, 8 * s.size, cB, AO, o.length, cO, most⟩, P4, rfl⟩
        case pos =>
          subst hz6
          obtain ⟨e4, e5⟩ := HHD.out.2 rfl
          have HH4 := Sealed.mk e4
          have HMT : Sealed (mayOf (checkOf l) = 0) := ⟨by rw [e5]; rfl⟩
          have HAT : Sealed (l.all lenOk = true) := ⟨may_zero (by rw [HLL.out]; decide) HMT.out⟩
          have y5 := D15.out.cell 5 rfl
          obtain ⟨many, hmany⟩ : ∃ many, many = a + 257 + (b + 1) := ⟨_, rfl⟩
          have hmI : (a : Int) + (b : Int) + 258 = (many : Int) := by omega
          have hm1000 : many ≤ 1000 := by omega
          have HMY := Sealed.mk hmany
          clear e4 e5 HHD HFL HCK HCKE hbI hmany
          go_wp2_with (first
              | ((with_reducible refine gate_dst (N := 54) rfl ?_); refine wp_load_arr rfl _ _ rfl rfl D15.out Try.underlying101 rfl info_state ?_))
          refine (rrow10 ⟨s, AB, 8 * s.size, cB, AO, o.length, cO, most⟩ P4 many (c0 := 19) (tl := l) hs hP4 rfl RB15.out RT15.out HLL.out HAT.out HMT.out hm1000 rfl).mono ?_
          rintro e w16 ⟨hb, hm⟩
          have D16 := Sealed.mk (D15.out.below' hb)
          have Z16 := Sealed.mk (Z15.out.below' hb)
          have O16 := Sealed.mk (owns_below O15.out hb)
          have RB16 := Sealed.mk (RB15.out.below hb)
          have RT16 := Sealed.mk (RT15.out.below hb)
          have X16 := Sealed.mk (X15.out.below_step hb)
          clear hb y5 hmI D15 Z15 O15 RB15 RT15 X15
          cases hrow : rowS s l many (many + 1) P4 [] with
          | error er =>
            rw [hrow] at hm
            obtain ⟨x2, p2, v2, rfl⟩ := hm
            obtain ⟨s2, AB2, nB2, cB2, AO2, nO2, cO2, mo2⟩ := x2
            have her := rowS_bad hrow
            have hne : ((er : Int) != 0) = true := by simp; omega
            have HRE : Sealed (R = .error er) := ⟨by rw [HR.out]; exact ownS_r HE1.out HE2.out HE3.out HAB.out HH4.out (by rw [← HMY.out]; exact hrow)⟩
            clear hrow HR
            go_wp2_with (first
                | ((with_reducible refine gate_store (p := 1) rfl ?_); refine wp_store_arr rfl _ _ _ rfl (cells := [.string s2, .slice AB2 nB2 cB2, .int .i64 p2, .slice AO2 nO2 cO2, .int .i64 mo2, .int .i64 er]) rfl rfl D16.out info_state rfl rfl ?_; intro w17 hb17 hc17 hk17 hs17; have cD17_5 := hb17.cell 5 rfl; have fD17_5 := hb17.free 5; have Z17 := Sealed.mk (Z16.out.kept hk17 (fun h => NDZ h.symm)); have O17 := Sealed.mk (owns_chg O16.out hc17 (by decide)); have RB17 := Sealed.mk (RB16.out.chg hc17 (by decide)); have RT17 := Sealed.mk (RT16.out.chg hc17 (by decide)); have X17 := Sealed.mk (X16.out.one_new hc17 GD); have D17 := Sealed.mk hb17; clear hb17 hc17 hk17 hs17 Z16 O16 RB16 RT16 X16 D16)
                | ((with_reducible refine gate_dst (N := 66) rfl ?_); refine wp_load_arr rfl _ _ rfl rfl D17.out Try.underlying101 rfl info_state ?_)
                | ((with_reducible refine gate_store (p := 2) rfl ?_); refine wp_store_arr rfl _ _ _ rfl (cells := [.string s2, .slice AB2 nB2 cB2, .int .i64 p2, .slice AO2 nO2 cO2, .int .i64 mo2, .int .i64 er]) rfl rfl Z17.out info_state rfl rfl ?_; intro w18 hb18 hc18 hk18 hs18; have D18 := Sealed.mk (D17.out.kept hk18 NDZ); have O18 := Sealed.mk (owns_chg O17.out hc18 (by decide)); have RB18 := Sealed.mk (RB17.out.chg hc18 (by decide)); have RT18 := Sealed.mk (RT17.out.chg hc18 (by decide)); have X18 := Sealed.mk (X17.out.one_new hc18 GZ); have Z18 := Sealed.mk hb18; clear hb18 hc18 hk18 hs18 D17 O17 RB17 RT17 X17 Z17))
            refine bodyPost_ret (results_cell rfl _ rfl Z18.out Try.underlying101 rfl info_state) rfl ?_
            rw [HRE.out]
            exact ⟨X18.out, ⟨s2, AB2, nB2, cB2, AO2, nO2, cO2, mo2⟩, p2, rfl⟩
          | ok r =>
            rw [hrow] at hm
            obtain ⟨row, q⟩ := r
            obtain ⟨A5, c5, rfl, how⟩ := hm
            obtain ⟨hrl, hrb⟩ := rowS_len (by rw [HLL.out]; decide) (by rw [HLL.out]; decide) hrow (Nat.zero_le _) (by simp)
            have hrp := (rowS_pos hrow).2 hP4
            have HE := Sealed.mk (HR.out.trans (ownS_end (most := most) (o := o) HE1.out HE2.out HE3.out HAB.out HH4.out (by rw [← HMY.out]; exact hrow)))
            obtain ⟨gr, c8, he7⟩ := own_head2 how (by rw [hrl, HMY.out]; omega)
            injection he7 with e1 e2 e3
            subst e1
            subst e3
            have hcap : row.length ≤ c5 := by
              obtain ⟨_, A', c', he, hc, _⟩ := Reads.of_own how
              injection he with _ _ he3
              omega
            have RR0 := Sealed.mk (ReadsT.of_own how)
            have HRB := Sealed.mk hrb
            have HRL : Sealed (row.length = a + 257 + (b + 1)) := ⟨by rw [hrl]; exact HMY.out⟩
            have hrn : row.length = a + 257 + (b + 1) := HRL.out
            obtain ⟨N, hN⟩ : ∃ N, N = row.length := ⟨_, rfl⟩
            rw [← hN] at hrn hcap ⊢
            have HN := Sealed.mk hN
            clear e2 hrow how hrl hrb HR HH4 HE1 HE2 HE3 HMT HAT hN
            have ew1 : IntKind.i64.wrap ((a : Int) + 257) = (a : Int) + 257 := by rw [IntKind.wrap_i64]; omega
            have hw1 : 0 ≤ (a : Int) + 257 := by omega
            have hw2 : ((a : Int) + 257).toNat = a + 257 := by omega
            have hw3 : (a : Int) + 257 ≤ (N : Int) := by omega
            have hw4 : (a : Int) + 257 ≤ (c5 : Int) := by omega
            have hw5 : (N : Int) ≤ (c5 : Int) := by omega
            clear hrn
            go_upto_region 14 with (first
                | ((with_reducible refine gate_store (p := 1) rfl ?_); refine wp_store_arr rfl _ _ _ rfl (cells := [.string s, .slice AB (8 * s.size) cB, .int .i64 q, .slice AO o.length cO, .int .i64 (most : Int), .int .i64 0]) rfl rfl D16.out info_state rfl rfl ?_; intro w17 hb17 hc17 hk17 hs17; have cD17_5 := hb17.cell 5 rfl; have fD17_5 := hb17.free 5; have Z17 := Sealed.mk (Z16.out.kept hk17 (fun h => NDZ h.symm)); have O17 := Sealed.mk (owns_chg O16.out hc17 (by decide)); have RB17 := Sealed.mk (RB16.out.chg hc17 (by decide)); have RR17 := Sealed.mk (RR0.out.chg hc17 (by decide)); have X17 := Sealed.mk (X16.out.one_new hc17 GD); have D17 := Sealed.mk hb17; clear hb17 hc17 hk17 hs17 Z16 O16 RB16 RR0 X16 D16))
            have hw6 : ¬ c5 = a + 257 := by have := HRL.out; have := HN.out; omega
            have hw8 : N - (a + 257) = b + 1 := by rw [HN.out, HRL.out]; omega
            go_cut [8, 9] (fun s8 s9 wx => s8 = .slice (some ⟨gr, 0, none⟩) (a + 257) c5 ∧ s9 = .slice (some ⟨gr, a + 257, none⟩) (b + 1) (c5 - (a + 257)) ∧ Sealed (IsBlk wx gD [.string s, .slice AB (8 * s.size) cB, .int .i64 q, .slice AO o.length cO, .int .i64 (most : Int), .int .i64 0] 101) ∧ Sealed (IsBlk wx gZ zeroSt 101) ∧ Sealed (wx.ownsRow B 5 1 (.slice AO o.length cO) o.length (nums .u8 (castL o))) ∧ Sealed (ReadsT wx AB (sbits s (8 * s.size))) ∧ Sealed (ReadsT wx (some ⟨gr, 0, none⟩) (castL row)) ∧ Sealed (Chg B [5] w wx))
            case first =>
              go_quiet (fail)
              go_wp2_with fail
              go_meet
              exact ⟨rfl, rfl, ⟨D17.out.drewN _⟩, ⟨Z17.out.drewN _⟩, ⟨O17.out⟩, ⟨RB17.out.drewN _⟩, ⟨RR17.out.drewN _⟩, ⟨X17.out.drewN _⟩⟩
            case rest =>
              clear D17 Z17 O17 RB17 RR17 X17 cD17_5 fD17_5 ew1 hw1 hw2 hw3 hw4 hw5 hw6 hw8
              obtain ⟨rfl, rfl, D18, Z18, O18, RB18, RR18, X18⟩ := hcut
              have htk : castL (row.take (a + 257)) = (castL row).take (a + 257) := by simp [castL, List.map_take]
              have hdr : castL (row.drop (a + 257)) = (castL row).drop (a + 257) := by simp [castL, List.map_drop]
              have HTL : Sealed ((castL (row.take (a + 257))).length = a + 257) := ⟨by simp [castL, HRL.out]⟩
              have HDL : Sealed ((castL (row.drop (a + 257))).length = b + 1) := ⟨by simp [castL, HRL.out]⟩
              have HDD : Sealed ((row.drop (a + 257)).length = b + 1) := ⟨by simp [HRL.out]⟩
              have hadd : (⟨gr, 0, none⟩ : Addr).add (a + 257) = ⟨gr, a + 257, none⟩ := add_plain gr (a + 257)
              have HRT : Sealed (∀ w', ReadsT w' (some ⟨gr, 0, none⟩) (castL row) → ReadsT w' (some ⟨gr, 0, none⟩) (castL (row.take (a + 257)))) := ⟨fun w' h => by rw [htk]; exact h.take _⟩
              have HRD : Sealed (∀ w', ReadsT w' (some ⟨gr, 0, none⟩) (castL row) → ReadsT w' (some ⟨gr, a + 257, none⟩) (castL (row.drop (a + 257)))) := ⟨fun w' h => by rw [hdr, ← hadd]; exact h.drop _⟩
              have HFB : Sealed (∀ x ∈ row.drop (a + 257), x ≤ 100) := ⟨fun x hx => by have := HRB.out x (List.mem_of_mem_drop hx); omega⟩
              obtain ⟨ck2, hck2⟩ : ∃ ck2, ck2 = checkOf (castL (row.take (a + 257))) := ⟨_, rfl⟩
              have HCK : Sealed (∀ w', ReadsT w' (some ⟨gr, 0, none⟩) (castL row) → Calls Try.prog 76 #[.slice (some ⟨gr, 0, none⟩) (a + 257) c5] w' fun e w'' => e = .returned (.int .i64 ck2) ∧ Below w'.heap.size w' w'') := ⟨fun w' h => by
                have h1 := rcheck_any (some ⟨gr, 0, none⟩) c5 _ w' (HRT.out w' h).reads
                rw [HTL.out, ← hck2] at h1
                exact h1⟩
              obtain ⟨rb, hrb⟩ : ∃ rb, rb = reachB (row.drop (a + 257)) := ⟨_, rfl⟩
              have HFA : Sealed (∀ w', ReadsT w' (some ⟨gr, 0, none⟩) (castL row) → Calls Try.prog 98 #[.slice (some ⟨gr, a + 257, none⟩) (b + 1) (c5 - (a + 257))] w' fun e w'' => e = .returned (.bool rb) ∧ Below w'.heap.size w' w'') := ⟨fun w' h => by
                rw [hrb]
                exact rfar_any (cap := c5 - (a + 257)) (row.drop (a + 257)) (HRD.out w' h).reads (by rw [HDD.out]; omega) HFB.out HDD.out.symm⟩
              obtain ⟨y, hy⟩ : ∃ y, y = row.getD 256 0 := ⟨_, rfl⟩
              have HXC : Sealed (∀ w', ReadsT w' (some ⟨gr, 0, none⟩) (castL row) → w'.cell? ⟨gr, 256, none⟩ = some (.int .i64 (y : Int))) := ⟨fun w' h => by
                obtain ⟨ad, e, hc⟩ := h.reads.cell 256 (by simp [castL, HRL.out]; omega)
                injection e with e
                subst e
                rw [castL_getD, ← hy, add_plain] at hc
                exact hc⟩
              obtain ⟨b7, hb7⟩ : ∃ b7, b7 = rowBad row (a + 257) := ⟨_, rfl⟩
              rw [← hb7] at HE
              have HFL := Sealed.mk (fun (w : World) => rfail_tot ⟨s, AB, 8 * s.size, cB, AO, o.length, cO, most⟩ q 0 4 b7 w (E := 4) rfl)
              obtain ⟨Z7, hZ7⟩ : ∃ Z7, Z7 = failN b7 0 4 := ⟨_, rfl⟩
              rw [← hZ7] at HFL
              have HB7 := Sealed.mk hb7
              have HZ7 := Sealed.mk hZ7
              have HCK2 := Sealed.mk hck2
              have HRB2 := Sealed.mk hrb
              have HYE := Sealed.mk hy
              have h256 : (256 : Int) < (a : Int) + 257 := by omega
              have h256n : 256 < a + 257 := by omega
              clear hck2 hrb hy hb7 hZ7 htk hdr hadd
              go_upto_region 15 with (fail)
              go_cut [] (fun wx => Sealed (IsBlk wx gD [.string s, .slice AB (8 * s.size) cB, .int .i64 q, .slice AO o.length cO, .int .i64 (most : Int), .int .i64 Z7] 101) ∧ Sealed (IsBlk wx gZ zeroSt 101) ∧ Sealed (wx.ownsRow B 5 1 (.slice AO o.length cO) o.length (nums .u8 (castL o))) ∧ Sealed (ReadsT wx AB (sbits s (8 * s.size))) ∧ Sealed (ReadsT wx (some ⟨gr, 0, none⟩) (castL row)) ∧ Sealed (Chg B [5] w wx))
              case first =>
                by_cases hck : ck2 = 0
                case neg =>
                  have hne : (ck2 != 0) = true := by simpa using hck
                  have hbt : b7 = true := by rw [HB7.out]; exact rowBad_ck (by rw [← HCK2.out]; exact hck)
                  subst hbt
                  clear hck
                  have z0 := D18.out.cell 0 rfl
                  have z1 := D18.out.cell 1 rfl
                  have z2 := D18.out.cell 2 rfl
                  have z3 := D18.out.cell 3 rfl
                  have z4 := D18.out.cell 4 rfl
                  have z5 := D18.out.cell 5 rfl
                  have zx := HXC.out _ RR18.out
                  first
                    | go_region_law (first
                      | (go_simp; go_at_call 76; refine (HCK.out _ RR18.out.drew).mono ?_; rintro e w19 ⟨rfl, hb⟩; have D19 := Sealed.mk (D18.out.drew.below' hb); have Z19 := Sealed.mk (Z18.out.drew.below' hb); have O19 := Sealed.mk (owns_below (w := World.drew _) O18.out hb); have RB19 := Sealed.mk (RB18.out.drew.below hb); have RR19 := Sealed.mk (RR18.out.drew.below hb); have X19 := Sealed.mk (X18.out.drew.below_step hb); have k19_0 := D19.out.cell 0 rfl; have k19_1 := D19.out.cell 1 rfl; have k19_2 := D19.out.cell 2 rfl; have k19_3 := D19.out.cell 3 rfl; have k19_4 := D19.out.cell 4 rfl; have k19_5 := D19.out.cell 5 rfl; clear hb)
                      | (go_simp; go_at_call 64; refine (HFL.out _).mono ?_; rintro e w20 ⟨rfl, hb⟩; have D20 := Sealed.mk (D19.out.below' hb); have Z20 := Sealed.mk (Z19.out.below' hb); have O20 := Sealed.mk (owns_below O19.out hb); have RB20 := Sealed.mk (RB19.out.below hb); have RR20 := Sealed.mk (RR19.out.below hb); have X20 := Sealed.mk (X19.out.below_step hb); have k20_0 := D20.out.cell 0 rfl; have k20_1 := D20.out.cell 1 rfl; have k20_2 := D20.out.cell 2 rfl; have k20_3 := D20.out.cell 3 rfl; have k20_4 := D20.out.cell 4 rfl; have k20_5 := D20.out.cell 5 rfl; have f20_0 := D20.out.free 0; have f20_1 := D20.out.free 1; have f20_2 := D20.out.free 2; have f20_3 := D20.out.free 3; have f20_4 := D20.out.free 4; have f20_5 := D20.out.free 5; clear hb))
                    | fail
                  all_goals
                    clear z0 z1 z2 z3 z4 z5 zx
                    have DD : Sealed (IsBlk ((((((w20.setCell ⟨gD, 0, none⟩ (.string s)).setCell ⟨gD, 1, none⟩ (.slice AB (8 * s.size) cB)).setCell ⟨gD, 2, none⟩ (.int .i64 q)).setCell ⟨gD, 3, none⟩ (.slice AO o.length cO)).setCell ⟨gD, 4, none⟩ (.int .i64 (most : Int))).setCell ⟨gD, 5, none⟩ (.int .i64 Z7)) gD [.string s, .slice AB (8 * s.size) cB, .int .i64 q, .slice AO o.length cO, .int .i64 (most : Int), .int .i64 Z7] 101) := ⟨((((((D20.out.set 0 _).set 1 _).set 2 _).set 3 _).set 4 _).set 5 _)⟩
                    have CC : Chg gD [101] w20 ((((((w20.setCell ⟨gD, 0, none⟩ (.string s)).setCell ⟨gD, 1, none⟩ (.slice AB (8 * s.size) cB)).setCell ⟨gD, 2, none⟩ (.int .i64 q)).setCell ⟨gD, 3, none⟩ (.slice AO o.length cO)).setCell ⟨gD, 4, none⟩ (.int .i64 (most : Int))).setCell ⟨gD, 5, none⟩ (.int .i64 Z7)) := by
                      have b0 := D20.out
                      have b1 := b0.set 0 (.string s)
                      have b2 := b1.set 1 (.slice AB (8 * s.size) cB)
                      have b3 := b2.set 2 (.int .i64 q)
                      have b4 := b3.set 3 (.slice AO o.length cO)
                      have b5 := b4.set 4 (.int .i64 (most : Int))
                      exact (((((((Chg.refl gD [101] w20).set b0 (Nat.le_refl _) (by simp) 0 _).set b1 (Nat.le_refl _) (by simp) 1 _).set b2 (Nat.le_refl _) (by simp) 2 _).set b3 (Nat.le_refl _) (by simp) 3 _).set b4 (Nat.le_refl _) (by simp) 4 _).set b5 (Nat.le_refl _) (by simp) 5 _)
                    have ZZ : Sealed (IsBlk ((((((w20.setCell ⟨gD, 0, none⟩ (.string s)).setCell ⟨gD, 1, none⟩ (.slice AB (8 * s.size) cB)).setCell ⟨gD, 2, none⟩ (.int .i64 q)).setCell ⟨gD, 3, none⟩ (.slice AO o.length cO)).setCell ⟨gD, 4, none⟩ (.int .i64 (most : Int))).setCell ⟨gD, 5, none⟩ (.int .i64 Z7)) gZ zeroSt 101) := ⟨((((((Z20.out.far (fun h => NDZ h.symm) _).far (fun h => NDZ h.symm) _).far (fun h => NDZ h.symm) _).far (fun h => NDZ h.symm) _).far (fun h => NDZ h.symm) _).far (fun h => NDZ h.symm) _)⟩
                    have OO := Sealed.mk (owns_chg O20.out CC (by decide))
                    have QRB := Sealed.mk (RB20.out.chg CC (by decide))
                    have QRR := Sealed.mk (RR20.out.chg CC (by decide))
                    have XX := Sealed.mk (X20.out.one_new CC GD)
                    go_wp2_with fail
                    go_meet
                    exact ⟨DD, ZZ, OO, QRB, QRR, XX⟩
                case pos =>
                  subst hck
                  have hne : ((0 : Int) != 0) = false := rfl
                  by_cases hy0 : y = 0
                  case pos =>
                    have hyb : ((y : Int) == 0) = true := beq_iff_eq.2 (by omega)
                    have hbt : b7 = true := by rw [HB7.out]; exact rowBad_zero (by rw [← HYE.out]; exact hy0)
                    subst hbt
                    clear hy0
                    have z0 := D18.out.cell 0 rfl
                    have z1 := D18.out.cell 1 rfl
                    have z2 := D18.out.cell 2 rfl
                    have z3 := D18.out.cell 3 rfl
                    have z4 := D18.out.cell 4 rfl
                    have z5 := D18.out.cell 5 rfl
                    have zx := HXC.out _ RR18.out
                    first
                      | go_region_law (first
                        | (go_simp; go_at_call 76; refine (HCK.out _ RR18.out.drew).mono ?_; rintro e w21 ⟨rfl, hb⟩; have D21 := Sealed.mk (D18.out.drew.below' hb); have Z21 := Sealed.mk (Z18.out.drew.below' hb); have O21 := Sealed.mk (owns_below (w := World.drew _) O18.out hb); have RB21 := Sealed.mk (RB18.out.drew.below hb); have RR21 := Sealed.mk (RR18.out.drew.below hb); have X21 := Sealed.mk (X18.out.drew.below_step hb); have k21_0 := D21.out.cell 0 rfl; have k21_1 := D21.out.cell 1 rfl; have k21_2 := D21.out.cell 2 rfl; have k21_3 := D21.out.cell 3 rfl; have k21_4 := D21.out.cell 4 rfl; have k21_5 := D21.out.cell 5 rfl; have kx21 := HXC.out _ RR21.out; clear hb)
                        | (go_simp; go_at_call 64; refine (HFL.out _).mono ?_; rintro e w22 ⟨rfl, hb⟩; have D22 := Sealed.mk (D21.out.below' hb); have Z22 := Sealed.mk (Z21.out.below' hb); have O22 := Sealed.mk (owns_below O21.out hb); have RB22 := Sealed.mk (RB21.out.below hb); have RR22 := Sealed.mk (RR21.out.below hb); have X22 := Sealed.mk (X21.out.below_step hb); have k22_0 := D22.out.cell 0 rfl; have k22_1 := D22.out.cell 1 rfl; have k22_2 := D22.out.cell 2 rfl; have k22_3 := D22.out.cell 3 rfl; have k22_4 := D22.out.cell 4 rfl; have k22_5 := D22.out.cell 5 rfl; have f22_0 := D22.out.free 0; have f22_1 := D22.out.free 1; have f22_2 := D22.out.free 2; have f22_3 := D22.out.free 3; have f22_4 := D22.out.free 4; have f22_5 := D22.out.free 5; clear hb))
                      | fail
                    all_goals
                      clear z0 z1 z2 z3 z4 z5 zx
                      have DD : Sealed (IsBlk ((((((w22.setCell ⟨gD, 0, none⟩ (.string s)).setCell ⟨gD, 1, none⟩ (.slice AB (8 * s.size) cB)).setCell ⟨gD, 2, none⟩ (.int .i64 q)).setCell ⟨gD, 3, none⟩ (.slice AO o.length cO)).setCell ⟨gD, 4, none⟩ (.int .i64 (most : Int))).setCell ⟨gD, 5, none⟩ (.int .i64 Z7)) gD [.string s, .slice AB (8 * s.size) cB, .int .i64 q, .slice AO o.length cO, .int .i64 (most : Int), .int .i64 Z7] 101) := ⟨((((((D22.out.set 0 _).set 1 _).set 2 _).set 3 _).set 4 _).set 5 _)⟩
                      have CC : Chg gD [101] w22 ((((((w22.setCell ⟨gD, 0, none⟩ (.string s)).setCell ⟨gD, 1, none⟩ (.slice AB (8 * s.size) cB)).setCell ⟨gD, 2, none⟩ (.int .i64 q)).setCell ⟨gD, 3, none⟩ (.slice AO o.length cO)).setCell ⟨gD, 4, none⟩ (.int .i64 (most : Int))).setCell ⟨gD, 5, none⟩ (.int .i64 Z7)) := by
                        have b0 := D22.out
                        have b1 := b0.set 0 (.string s)
                        have b2 := b1.set 1 (.slice AB (8 * s.size) cB)
                        have b3 := b2.set 2 (.int .i64 q)
                        have b4 := b3.set 3 (.slice AO o.length cO)
                        have b5 := b4.set 4 (.int .i64 (most : Int))
                        exact (((((((Chg.refl gD [101] w22).set b0 (Nat.le_refl _) (by simp) 0 _).set b1 (Nat.le_refl _) (by simp) 1 _).set b2 (Nat.le_refl _) (by simp) 2 _).set b3 (Nat.le_refl _) (by simp) 3 _).set b4 (Nat.le_refl _) (by simp) 4 _).set b5 (Nat.le_refl _) (by simp) 5 _)
                      have ZZ : Sealed (IsBlk ((((((w22.setCell ⟨gD, 0, none⟩ (.string s)).setCell ⟨gD, 1, none⟩ (.slice AB (8 * s.size) cB)).setCell ⟨gD, 2, none⟩ (.int .i64 q)).setCell ⟨gD, 3, none⟩ (.slice AO o.length cO)).setCell ⟨gD, 4, none⟩ (.int .i64 (most : Int))).setCell ⟨gD, 5, none⟩ (.int .i64 Z7)) gZ zeroSt 101) := ⟨((((((Z22.out.far (fun h => NDZ h.symm) _).far (fun h => NDZ h.symm) _).far (fun h => NDZ h.symm) _).far (fun h => NDZ h.symm) _).far (fun h => NDZ h.symm) _).far (fun h => NDZ h.symm) _)⟩
                      have OO := Sealed.mk (owns_chg O22.out CC (by decide))
                      have QRB := Sealed.mk (RB22.out.chg CC (by decide))
                      have QRR := Sealed.mk (RR22.out.chg CC (by decide))
                      have XX := Sealed.mk (X22.out.one_new CC GD)
                      go_wp2_with fail
                      go_meet
                      exact ⟨DD, ZZ, OO, QRB, QRR, XX⟩
                  case neg =>
                    have hyb : ((y : Int) == 0) = false := beq_eq_false_iff_ne.2 (by omega)
                    have hbt : (!rb) = b7 := by
                      cases hr : rb with
                      | false => rw [HB7.out, rowBad_reach (by rw [← HRB2.out]; exact hr)]; rfl
                      | true => rw [HB7.out, rowBad_no HCK2.out.symm (by rw [← HYE.out]; exact hy0) (by rw [← HRB2.out]; exact hr)]; rfl
                    clear hy0
                    have z0 := D18.out.cell 0 rfl
                    have z1 := D18.out.cell 1 rfl
                    have z2 := D18.out.cell 2 rfl
                    have z3 := D18.out.cell 3 rfl
                    have z4 := D18.out.cell 4 rfl
                    have z5 := D18.out.cell 5 rfl
                    have zx := HXC.out _ RR18.out
                    first
                      | go_region_law (first
                        | (go_simp; go_at_call 76; refine (HCK.out _ RR18.out.drew).mono ?_; rintro e w23 ⟨rfl, hb⟩; have D23 := Sealed.mk (D18.out.drew.below' hb); have Z23 := Sealed.mk (Z18.out.drew.below' hb); have O23 := Sealed.mk (owns_below (w := World.drew _) O18.out hb); have RB23 := Sealed.mk (RB18.out.drew.below hb); have RR23 := Sealed.mk (RR18.out.drew.below hb); have X23 := Sealed.mk (X18.out.drew.below_step hb); have k23_0 := D23.out.cell 0 rfl; have k23_1 := D23.out.cell 1 rfl; have k23_2 := D23.out.cell 2 rfl; have k23_3 := D23.out.cell 3 rfl; have k23_4 := D23.out.cell 4 rfl; have k23_5 := D23.out.cell 5 rfl; have kx23 := HXC.out _ RR23.out; clear hb)
                        | (go_simp; go_at_call 98; refine (HFA.out _ RR23.out).mono ?_; rintro e w24 ⟨rfl, hb⟩; have D24 := Sealed.mk (D23.out.below' hb); have Z24 := Sealed.mk (Z23.out.below' hb); have O24 := Sealed.mk (owns_below O23.out hb); have RB24 := Sealed.mk (RB23.out.below hb); have RR24 := Sealed.mk (RR23.out.below hb); have X24 := Sealed.mk (X23.out.below_step hb); have k24_0 := D24.out.cell 0 rfl; have k24_1 := D24.out.cell 1 rfl; have k24_2 := D24.out.cell 2 rfl; have k24_3 := D24.out.cell 3 rfl; have k24_4 := D24.out.cell 4 rfl; have k24_5 := D24.out.cell 5 rfl; clear hb)
                        | (go_simp; go_at_call 64; refine (HFL.out _).mono ?_; rintro e w25 ⟨rfl, hb⟩; have D25 := Sealed.mk (D24.out.below' hb); have Z25 := Sealed.mk (Z24.out.below' hb); have O25 := Sealed.mk (owns_below O24.out hb); have RB25 := Sealed.mk (RB24.out.below hb); have RR25 := Sealed.mk (RR24.out.below hb); have X25 := Sealed.mk (X24.out.below_step hb); have k25_0 := D25.out.cell 0 rfl; have k25_1 := D25.out.cell 1 rfl; have k25_2 := D25.out.cell 2 rfl; have k25_3 := D25.out.cell 3 rfl; have k25_4 := D25.out.cell 4 rfl; have k25_5 := D25.out.cell 5 rfl; have f25_0 := D25.out.free 0; have f25_1 := D25.out.free 1; have f25_2 := D25.out.free 2; have f25_3 := D25.out.free 3; have f25_4 := D25.out.free 4; have f25_5 := D25.out.free 5; clear hb))
                      | fail
                    all_goals
                      clear z0 z1 z2 z3 z4 z5 zx
                      have DD : Sealed (IsBlk ((((((w25.setCell ⟨gD, 0, none⟩ (.string s)).setCell ⟨gD, 1, none⟩ (.slice AB (8 * s.size) cB)).setCell ⟨gD, 2, none⟩ (.int .i64 q)).setCell ⟨gD, 3, none⟩ (.slice AO o.length cO)).setCell ⟨gD, 4, none⟩ (.int .i64 (most : Int))).setCell ⟨gD, 5, none⟩ (.int .i64 Z7)) gD [.string s, .slice AB (8 * s.size) cB, .int .i64 q, .slice AO o.length cO, .int .i64 (most : Int), .int .i64 Z7] 101) := ⟨((((((D25.out.set 0 _).set 1 _).set 2 _).set 3 _).set 4 _).set 5 _)⟩
                      have CC : Chg gD [101] w25 ((((((w25.setCell ⟨gD, 0, none⟩ (.string s)).setCell ⟨gD, 1, none⟩ (.slice AB (8 * s.size) cB)).setCell ⟨gD, 2, none⟩ (.int .i64 q)).setCell ⟨gD, 3, none⟩ (.slice AO o.length cO)).setCell ⟨gD, 4, none⟩ (.int .i64 (most : Int))).setCell ⟨gD, 5, none⟩ (.int .i64 Z7)) := by
                        have b0 := D25.out
                        have b1 := b0.set 0 (.string s)
                        have b2 := b1.set 1 (.slice AB (8 * s.size) cB)
                        have b3 := b2.set 2 (.int .i64 q)
                        have b4 := b3.set 3 (.slice AO o.length cO)
                        have b5 := b4.set 4 (.int .i64 (most : Int))
                        exact (((((((Chg.refl gD [101] w25).set b0 (Nat.le_refl _) (by simp) 0 _).set b1 (Nat.le_refl _) (by simp) 1 _).set b2 (Nat.le_refl _) (by simp) 2 _).set b3 (Nat.le_refl _) (by simp) 3 _).set b4 (Nat.le_refl _) (by simp) 4 _).set b5 (Nat.le_refl _) (by simp) 5 _)
                      have ZZ : Sealed (IsBlk ((((((w25.setCell ⟨gD, 0, none⟩ (.string s)).setCell ⟨gD, 1, none⟩ (.slice AB (8 * s.size) cB)).setCell ⟨gD, 2, none⟩ (.int .i64 q)).setCell ⟨gD, 3, none⟩ (.slice AO o.length cO)).setCell ⟨gD, 4, none⟩ (.int .i64 (most : Int))).setCell ⟨gD, 5, none⟩ (.int .i64 Z7)) gZ zeroSt 101) := ⟨((((((Z25.out.far (fun h => NDZ h.symm) _).far (fun h => NDZ h.symm) _).far (fun h => NDZ h.symm) _).far (fun h => NDZ h.symm) _).far (fun h => NDZ h.symm) _).far (fun h => NDZ h.symm) _)⟩
                      have OO := Sealed.mk (owns_chg O25.out CC (by decide))
                      have QRB := Sealed.mk (RB25.out.chg CC (by decide))
                      have QRR := Sealed.mk (RR25.out.chg CC (by decide))
                      have XX := Sealed.mk (X25.out.one_new CC GD)
                      go_wp2_with fail
                      go_meet
                      exact ⟨DD, ZZ, OO, QRB, QRR, XX⟩
              case rest =>
                clear D18 Z18 O18 RB18 RR18 X18
                obtain ⟨D26, Z26, O26, RB26, RR26, X26⟩ := hcut
                by_cases hz7 : Z7 = 0
                case neg =>
                  have hb7t : b7 = true := by
                    cases h : b7 with
                    | true => rfl
                    | false => exact absurd (by rw [HZ7.out, h]; rfl) hz7
                  have hz4 : Z7 = 4 := by rw [HZ7.out, hb7t]; rfl
                  have hne : ((Z7 : Int) != 0) = true := by simp; omega
                  have HRE : Sealed (R = .error Z7) := ⟨by rw [HE.out, if_pos hb7t, hz4]⟩
                  have y5 := D26.out.cell 5 rfl
                  clear hb7t hz4 hz7
                  go_wp2_with (first
                      | ((with_reducible refine gate_dst (N := 94) rfl ?_); refine wp_load_arr rfl _ _ rfl rfl D26.out Try.underlying101 rfl info_state ?_)
                      | ((with_reducible refine gate_store (p := 2) rfl ?_); refine wp_store_arr rfl _ _ _ rfl (cells := [.string s, .slice AB (8 * s.size) cB, .int .i64 q, .slice AO o.length cO, .int .i64 (most : Int), .int .i64 Z7]) rfl rfl Z26.out info_state rfl rfl ?_; intro w27 hb27 hc27 hk27 hs27; have D27 := Sealed.mk (D26.out.kept hk27 NDZ); have O27 := Sealed.mk (owns_chg O26.out hc27 (by decide)); have RB27 := Sealed.mk (RB26.out.chg hc27 (by decide)); have RR27 := Sealed.mk (RR26.out.chg hc27 (by decide)); have X27 := Sealed.mk (X26.out.one_new hc27 GZ); have Z27 := Sealed.mk hb27; clear hb27 hc27 hk27 hs27 D26 O26 RB26 RR26 X26 Z26))
                  refine bodyPost_ret (results_cell rfl _ rfl Z27.out Try.underlying101 rfl info_state) rfl ?_
                  rw [HRE.out]
                  exact ⟨X27.out, ⟨s, AB, 8 * s.size, cB, AO, o.length, cO, most⟩, q, rfl⟩
                case pos =>
                  have hb7f : b7 = false := by
                    cases h : b7 with
                    | false => rfl
                    | true => exact absurd (show (4 : Nat) = 0 by rw [← hz7, HZ7.out, h]; rfl) (by decide)
                  have HEC : Sealed (R = codedS s most (castL (row.take (a + 257))) (castL (row.drop (a + 257))) (8 * s.size + 1) q o) := ⟨by rw [HE.out, hb7f]; rfl⟩
                  obtain ⟨hkA, hkB⟩ : checkOf (castL (row.take (a + 257))) = 0 ∧ reachB (row.drop (a + 257)) = true := by
                    have h := HB7.out
                    rw [hb7f] at h
                    constructor
                    · by_cases hc : checkOf (castL (row.take (a + 257))) = 0
                      · exact hc
                      · rw [rowBad_ck hc] at h; cases h
                    · cases hr : reachB (row.drop (a + 257)) with
                      | true => rfl
                      | false => rw [rowBad_reach hr] at h; cases h
                  have HMA : Sealed (mayOf (checkOf (castL (row.take (a + 257)))) = 0) := ⟨by rw [hkA]; rfl⟩
                  have HMB : Sealed (mayOf (checkOf (castL (row.drop (a + 257)))) = 0) := ⟨reach_may (by rw [HDD.out]; omega) hkB⟩
                  have HLA : Sealed ((castL (row.take (a + 257))).all lenOk = true) := ⟨may_zero (by rw [HTL.out]; omega) HMA.out⟩
                  have HLB : Sealed ((castL (row.drop (a + 257))).all lenOk = true) := ⟨may_zero (by rw [HDL.out]; omega) HMB.out⟩
                  subst hz7
                  have y5 := D26.out.cell 5 rfl
                  clear hb7f hkA hkB HE HB7 HZ7 HFL HFA HXC HCK HCK2 HRB2 HYE
                  go_wp2_with (first
                      | ((with_reducible refine gate_dst (N := 95) rfl ?_); refine wp_load_arr rfl _ _ rfl rfl D26.out Try.underlying101 rfl info_state ?_))
                  refine (rcoded10 (B := B) ⟨s, AB, 8 * s.size, cB, AO, o.length, cO, most⟩ q most o (c0 := c5) (c1 := c5 - (a + 257)) hs hrp (Nat.le_trans hB X26.out.size) rfl hmm rfl hol rfl RB26.out (HRT.out _ RR26.out) (HRD.out _ RR26.out) (by rw [HTL.out]; omega) (by rw [HTL.out]; omega) HLA.out HMA.out (by rw [HDL.out]; omega) (by rw [HDL.out]; omega) HLB.out HMB.out HTL.out.symm HDL.out.symm O26.out rfl).mono ?_
                  rintro e w27 ⟨hc, hm⟩
                  have D27 := Sealed.mk (D26.out.chg hc (.inr (by decide)))
                  have Z27 := Sealed.mk (Z26.out.chg hc (.inr (by decide)))
                  have RB27 := Sealed.mk (RB26.out.chg hc (by decide))
                  have RR27 := Sealed.mk (RR26.out.chg hc (by decide))
                  have X27 := Sealed.mk (X26.out.trans hc)
                  clear D26 Z26 RB26 RR26 X26
                  rw [← HEC.out] at hm
                  clear hc y5 HEC O26
                  cases R with
                  | error er =>
                    obtain ⟨x2, p2, rfl⟩ := hm
                    obtain ⟨s2, AB2, nB2, cB2, AO2, nO2, cO2, mo2⟩ := x2
                    go_wp2_with (first
                        | ((with_reducible refine gate_store (p := 2) rfl ?_); refine wp_store_arr rfl _ _ _ rfl (cells := [.string s2, .slice AB2 nB2 cB2, .int .i64 p2, .slice AO2 nO2 cO2, .int .i64 mo2, .int .i64 er]) rfl rfl Z27.out info_state rfl rfl ?_; intro w28 hb28 hc28 hk28 hs28; have D28 := Sealed.mk (D27.out.kept hk28 NDZ); have RB28 := Sealed.mk (RB27.out.chg hc28 (by decide)); have RR28 := Sealed.mk (RR27.out.chg hc28 (by decide)); have X28 := Sealed.mk (X27.out.one_new hc28 GZ); have Z28 := Sealed.mk hb28; clear hb28 hc28 hk28 hs28 D27 RB27 RR27 X27 Z27))
                    refine bodyPost_ret (results_cell rfl _ rfl Z28.out Try.underlying101 rfl info_state) rfl ?_
                    exact ⟨X28.out, ⟨s2, AB2, nB2, cB2, AO2, nO2, cO2, mo2⟩, p2, rfl⟩
                  | ok r =>
                    obtain ⟨o', q'⟩ := r
                    obtain ⟨A6, c6, rfl, ho⟩ := hm
                    have HOW := Sealed.mk ho
                    clear ho
                    go_wp2_with (first
                        | ((with_reducible refine gate_store (p := 2) rfl ?_); refine wp_store_arr rfl _ _ _ rfl (cells := [.string s, .slice AB (8 * s.size) cB, .int .i64 q', .slice A6 o'.length c6, .int .i64 (most : Int), .int .i64 0]) rfl rfl Z27.out info_state rfl rfl ?_; intro w28 hb28 hc28 hk28 hs28; have D28 := Sealed.mk (D27.out.kept hk28 NDZ); have O28 := Sealed.mk (owns_chg HOW.out hc28 (by decide)); have RB28 := Sealed.mk (RB27.out.chg hc28 (by decide)); have RR28 := Sealed.mk (RR27.out.chg hc28 (by decide)); have X28 := Sealed.mk (X27.out.one_new hc28 GZ); have Z28 := Sealed.mk hb28; clear hb28 hc28 hk28 hs28 D27 HOW RB27 RR27 X27 Z27))
                    refine bodyPost_ret (results_cell rfl _ rfl Z28.out Try.underlying101 rfl info_state) rfl ?_
                    exact ⟨X28.out, A6, c6, rfl, O28.out⟩
end Go.Proofs.Ytmdlhbhdlhjakaa
