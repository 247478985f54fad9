/- The contract of the document's answer's copied. -/
import Derived.Deep.DeepCutAuto
import Derived.Deep.DrawnRows
import Derived.Test.YtmdlhbhdlhjakaaM33
import Derived.Test.YtmdlhbhdlhjakaaM23
set_option linter.unusedVariables false
set_option linter.unusedSimpArgs false
namespace Go.Proofs.Ytmdlhbhdlhjakaa
open Go.RowKit
attribute [local go_sem ↓] Go.wp_at_zero Go.wp_at_succ

set_option maxRecDepth 100000 in
set_option maxHeartbeats 4000000 in
theorem rcopied10 {B : Nat} (x : RS) (p most k : Nat) (o : List Nat) {A0 A1 : Option Addr} {c0 c1 : Nat} {fl : List Int} {w : World} (hs : x.s.size ≤ 1000000) (hp : p ≤ 8 * x.s.size) (hB : B ≤ w.heap.size) (hmo : x.most = (most : Int)) (hmm : most ≤ 100000000) (hn : x.nO = o.length) (hol : o.length ≤ most) (hk : k < 29)
    (hnB : x.nB = 8 * x.s.size) (hBt : Reads w .i64 x.AB (sbits x.s (8 * x.s.size))) (h0 : Reads w .i64 A0 fl) (h1 : Reads w .i64 A1 (codesOf fl)) (hfn : fl.length ≤ 320) (hl0 : 0 < fl.length) (ha : fl.all lenOk = true) {N : Nat} (hN : N = fl.length)
    (ho : w.ownsRow B 5 1 (.slice x.AO x.nO x.cO) x.nO (nums .u8 (castL o))) {KI : Int} (hKI : KI = (k : Int)) :
    Calls Try.prog 95 #[x.v p 0, .int .i64 KI, .slice A0 N c0, .slice A1 N c1] w (RtPost B x (repeatS x.s most fl k p o) w) := by
  subst hN hKI
  obtain ⟨s, AB, nB, cB, AO, nO, cO, mo⟩ := x
  simp only at hs hp hmo hn ho hnB hBt ⊢
  subst hmo hn hnB
  obtain ⟨R, hR⟩ : ∃ R, R = repeatS s most fl k p o := ⟨_, rfl⟩
  rw [← hR]
  have HR := Sealed.mk hR
  have HO := Sealed.mk ho
  obtain ⟨P1, Z1, m, h1r⟩ : ∃ P1 Z1 m, (P1, Z1, m) = bitsR s p 0 (extraOf lenT k) := ⟨_, _, _, rfl⟩
  obtain ⟨P2, Z2, d, h2r⟩ : ∃ P2 Z2 d, (P2, Z2, d) = symR s fl P1 Z1 := ⟨_, _, _, rfl⟩
  have HT := Sealed.mk (copied_one (most := most) (o := o) hl0 h1r.symm h2r.symm)
  have hex : extraOf lenT k ≤ 5 := (by decide : ∀ k, k < 29 → extraOf lenT k ≤ 5) k hk
  have hP1 : P1 ≤ 8 * s.size := by have := bitsR_le (code := 0) (d := extraOf lenT k) hp; rw [← h1r] at this; exact this
  have hP2 : P2 ≤ 8 * s.size := by have := symR_le (ls := fl) (code := Z1) hP1; rw [← h2r] at this; exact this
  have hmv : m ≤ 65535 := by have := bitsR_val (s := s) (p := p) (code := 0) (d := extraOf lenT k) (by omega); rw [← h1r] at this; exact this
  have hdv : d < 320 := by have := symR_val (s := s) (p := P1) (code := Z1) hl0; rw [← h2r] at this; exact Nat.lt_of_lt_of_le this hfn
  have hlo : leastOf lenT k ≤ 258 := (by decide : ∀ k, k < 29 → leastOf lenT k ≤ 258) k hk
  have HEX := Sealed.mk (fun (w : World) => extra_any k 8 4 (by omega) (by omega) (by omega) (by omega) w)
  have HLE := Sealed.mk (fun (w : World) => length10_any k hk w)
  have HB1 := Sealed.mk (fun (w : World) => rbits_tot ⟨s, AB, 8 * s.size, cB, AO, o.length, cO, most⟩ p 0 (extraOf lenT k) (Nat.le_trans hs (by decide)) hp (by omega) w (Z := 0) (D := (extraOf lenT k : Nat)) rfl rfl)
  simp only [← h1r] at HB1
  have HSY : Sealed (∀ w', Below w.heap.size w w' → Calls Try.prog 94 #[RS.v ⟨s, AB, 8 * s.size, cB, AO, o.length, cO, most⟩ P1 Z1, .slice A0 fl.length c0, .slice A1 fl.length c1] w' fun e w'' => e = .returned (.tuple #[RS.v ⟨s, AB, 8 * s.size, cB, AO, o.length, cO, most⟩ P2 Z2, .int .i64 d]) ∧ Below w'.heap.size w' w'') := ⟨fun w' h => by
    have hh := rsym_tot ⟨s, AB, 8 * s.size, cB, AO, o.length, cO, most⟩ P1 Z1 (c0 := c0) (c1 := c1) (ls := fl) (w := w') (Nat.le_trans hs (by decide)) hP1 rfl (hBt.below h) (h0.below h) (h1.below h) hfn hl0 ha rfl rfl
    simp only [← h2r] at hh
    exact hh⟩
  have HTWO := Sealed.mk (fun (h1 : toldS s (lenT.getD k (0, 0)) p = .ok (leastOf lenT k + m, P1)) (h2 : symS s fl P1 = .ok (d, P2)) (h3 : d < 30) (P3 Z4 b : Nat) (h4 : bitsR s P2 0 (extraOf distT d) = (P3, Z4, b)) => copied_two (most := most) (o := o) h1 h2 h3 h4)
  have hlo3 : 3 ≤ leastOf lenT k := (by decide : ∀ k, k < 29 → 3 ≤ leastOf lenT k) k hk
  obtain ⟨bd, hbd⟩ : ∃ bd, bd = decide (29 < d) := ⟨_, rfl⟩
  rw [← hbd] at HT
  have hdI : decide ((29 : Int) < (d : Int)) = bd := by rw [hbd]; exact decide_eq_decide.2 (by omega)
  have hdN : decide (29 < d) = bd := hbd.symm
  obtain ⟨Z3, hZ3⟩ : ∃ Z3, Z3 = failN bd Z2 4 := ⟨_, rfl⟩
  have HF := Sealed.mk (fun (w : World) => rfail_tot ⟨s, AB, 8 * s.size, cB, AO, o.length, cO, most⟩ P2 Z2 4 bd w (E := 4) rfl)
  rw [← hZ3] at HF HT
  have hex28 : k = 28 → extraOf lenT k = 0 := fun h => by subst h; decide
  have hexk : k ≠ 28 → extraN k 8 4 = extraOf lenT k := fun h => (lenSum_ok k (by omega)).2.1
  have HX2 := Sealed.mk hex28
  have HX3 := Sealed.mk hexk
  have hexn : extraN k 8 4 ≤ 10 := (by decide : ∀ k, k < 29 → extraN k 8 4 ≤ 10) k hk
  generalize extraOf lenT k = ex at *
  generalize extraN k 8 4 = exn at *
  generalize leastOf lenT k = lo at *
  obtain ⟨n, hn⟩ : ∃ n, n = lo + m := ⟨_, rfl⟩
  rw [← hn] at HT HTWO
  have hnI : (lo : Int) + (m : Int) = (n : Int) := by omega
  have hn3 : 3 ≤ n := by omega
  have hnl : n ≤ 100000 := by omega
  clear h1r h2r hR ho hBt h0 h1 ha hZ3 hex28 hexk hbd hn
  go_enter Try.func95, Try.ntmps95
  go_upto_if 18 with (first
    | ((with_reducible refine gate_dst (N := 4) rfl ?_); refine ev_box (cs := [.string s, .slice AB (8 * s.size) cB, .int .i64 p, .slice AO o.length cO, .int .i64 (most : Int), .int .i64 0]) (t := 101) ?hg ?hr ?_; (case hg => rfl); (case hr => first | (go_simp; done) | (go_simp; rfl)); intro g1 w1 hg1 hb1 hB1 hs1; have GE1 : w.heap.size ≤ g1 := (by rw [hg1]; exact Nat.le_refl _); have B1 := Sealed.mk hb1; have L1 := Sealed.mk hB1; clear hg1 hb1 hB1 hs1)
    | ((with_reducible refine gate_dst (N := 8) rfl ?_); refine ev_box (cs := zeroSt) (t := 101) ?hg ?hr ?_; (case hg => rfl); (case hr => first | (go_simp; done) | (go_simp; rfl)); intro g2 w2 hg2 hb2 hB2 hs2; have HNE : g1 ≠ g2 := (by have := B1.out.lt; omega); have GE2 : w.heap.size ≤ g2 := (by rw [hg2]; exact L1.out.size); have B2 := Sealed.mk hb2; have D1 := Sealed.mk (B1.out.below' hB2); have C2 : Sealed (Chg w.heap.size [] w w2) := ⟨(Chg.of_below L1.out).below_step hB2⟩; have x5 := D1.out.cell 5 rfl; have x0 := D1.out.cell 0 rfl; have x1 := D1.out.cell 1 rfl; have x2 := D1.out.cell 2 rfl; have f5 := D1.out.free 5; clear hg2 hb2 hB2 hs2 B1 L1)
    | (go_at_call 59; refine (HEX.out _).mono ?_; rintro e w3 ⟨rfl, rfl⟩))
  clear x5 x0 x1 x2 f5
  go_cut [9] (fun s9 wx => s9 = .int .i64 (ex : Int) ∧ wx = w2)
  case first =>
    by_cases h28 : k = 28
    · have h28b : ((k : Int) == 28) = true := by rw [h28]; rfl
      obtain rfl := HX2.out h28
      clear h28
      go_wp2
      go_meet
      exact ⟨rfl, rfl⟩
    · have h28b : ((k : Int) == 28) = false := beq_eq_false_iff_ne.2 (by omega)
      obtain rfl := HX3.out h28
      clear h28
      go_wp2
      go_meet
      exact ⟨rfl, rfl⟩
  case rest =>
    obtain ⟨rfl, rfl⟩ := hcut
    go_wp2_with (first
    | ((with_reducible refine gate_dst (N := 20) rfl ?_); refine wp_load_arr rfl _ _ rfl rfl D1.out Try.underlying101 rfl info_state ?_))
    refine (HB1.out _).mono ?_
    rintro e w4 ⟨rfl, hb⟩
    have D4 := Sealed.mk (D1.out.below' hb)
    have E4 := Sealed.mk (B2.out.below' hb)
    have X4 := Sealed.mk (C2.out.below_step hb)
    clear hb D1 B2 C2
    go_wp2_with (first
    | ((with_reducible refine gate_store (p := 4) rfl ?_); refine wp_store_arr rfl _ _ _ rfl (cells := [.string s, .slice AB (8 * s.size) cB, .int .i64 P1, .slice AO o.length cO, .int .i64 (most : Int), .int .i64 Z1]) rfl rfl D4.out info_state rfl rfl ?_; intro w5 hb5 hc5 hk5 hs5; have B5 := Sealed.mk hb5; have C5 := Sealed.mk hc5; have K5 := Sealed.mk hk5; clear hb5 hc5 hk5 hs5))
    have E5 := Sealed.mk (E4.out.kept K5.out (fun h => HNE h.symm))
    have X5 := Sealed.mk (X4.out.one_new C5.out GE1)
    clear D4 E4 X4 C5 K5
    refine (HLE.out _).mono ?_
    rintro e w6 ⟨rfl, rfl⟩
    go_wp2_with (first
    | ((with_reducible refine gate_dst (N := 30) rfl ?_); refine wp_load_arr rfl _ _ rfl rfl B5.out Try.underlying101 rfl info_state ?_))
    refine (HSY.out _ X5.out.to_below).mono ?_
    rintro e w6 ⟨rfl, hb⟩
    have D6 := Sealed.mk (B5.out.below' hb)
    have E6 := Sealed.mk (E5.out.below' hb)
    have X6 := Sealed.mk (X5.out.below_step hb)
    clear hb B5 E5 X5
    go_wp2_with (first
    | ((with_reducible refine gate_store (p := 4) rfl ?_); refine wp_store_arr rfl _ _ _ rfl (cells := [.string s, .slice AB (8 * s.size) cB, .int .i64 P2, .slice AO o.length cO, .int .i64 (most : Int), .int .i64 Z2]) rfl rfl D6.out info_state rfl rfl ?_; intro w7 hb7 hc7 hk7 hs7; have B7 := Sealed.mk hb7; have C7 := Sealed.mk hc7; have K7 := Sealed.mk hk7; clear hb7 hc7 hk7 hs7)
    | ((with_reducible refine gate_dst (N := 36) rfl ?_); refine wp_load_arr rfl _ _ rfl rfl B7.out Try.underlying101 rfl info_state ?_))
    have E7 := Sealed.mk (E6.out.kept K7.out (fun h => HNE h.symm))
    have X7 := Sealed.mk (X6.out.one_new C7.out GE1)
    clear D6 E6 X6 C7 K7
    refine (HF.out _).mono ?_
    rintro e w8 ⟨rfl, hb⟩
    have D8 := Sealed.mk (B7.out.below' hb)
    have E8 := Sealed.mk (E7.out.below' hb)
    have X8 := Sealed.mk (X7.out.below_step hb)
    clear hb B7 E7 X7
    by_cases hz : Z3 = 0
    case neg =>
      have hne : ((Z3 : Int) != 0) = true := by simp; omega
      have HRE : Sealed (R = .error Z3) := ⟨HR.out.trans (HT.out.1 hz)⟩
      clear hz
      go_wp2_with (first
    | ((with_reducible refine gate_store (p := 4) rfl ?_); refine wp_store_arr rfl _ _ _ rfl (cells := [.string s, .slice AB (8 * s.size) cB, .int .i64 P2, .slice AO o.length cO, .int .i64 (most : Int), .int .i64 Z3]) rfl rfl D8.out info_state rfl rfl ?_; intro w9 hb9 hc9 hk9 hs9; have B9 := Sealed.mk hb9; have C9 := Sealed.mk hc9; have K9 := Sealed.mk hk9; have y5 := hb9.cell 5 rfl; clear hb9 hc9 hk9 hs9)
    | ((with_reducible refine gate_dst (N := 43) rfl ?_); refine wp_load_arr rfl _ _ rfl rfl B9.out Try.underlying101 rfl info_state ?_)
    | ((with_reducible refine gate_store (p := 8) rfl ?_); refine wp_store_arr rfl _ _ _ rfl (cells := [.string s, .slice AB (8 * s.size) cB, .int .i64 P2, .slice AO o.length cO, .int .i64 (most : Int), .int .i64 Z3]) rfl rfl (E8.out.kept K9.out (fun h => HNE h.symm)) info_state rfl rfl ?_; intro w10 hb10 hc10 hk10 hs10; have B10 := Sealed.mk hb10; have C10 := Sealed.mk hc10; have K10 := Sealed.mk hk10; clear hb10 hc10 hk10 hs10))
      refine bodyPost_ret (results_cell rfl _ rfl B10.out Try.underlying101 rfl info_state) rfl ?_
      rw [HRE.out]
      exact ⟨((X8.out.one_new C9.out GE1).one_new C10.out GE2).mono hB (by simp), ⟨s, AB, 8 * s.size, cB, AO, o.length, cO, most⟩, P2, rfl⟩
    case pos =>
      subst hz
      obtain ⟨e1, e2, hd30⟩ := HT.out.2 rfl
      have HT1 := Sealed.mk e1
      have HT2 := Sealed.mk e2
      clear e1 e2 HT
      go_wp2_with (first
    | ((with_reducible refine gate_store (p := 4) rfl ?_); refine wp_store_arr rfl _ _ _ rfl (cells := [.string s, .slice AB (8 * s.size) cB, .int .i64 P2, .slice AO o.length cO, .int .i64 (most : Int), .int .i64 0]) rfl rfl D8.out info_state rfl rfl ?_; intro w9 hb9 hc9 hk9 hs9; have B9 := Sealed.mk hb9; have C9 := Sealed.mk hc9; have K9 := Sealed.mk hk9; have y5 := hb9.cell 5 rfl; clear hb9 hc9 hk9 hs9))
      have E9 := Sealed.mk (E8.out.kept K9.out (fun h => HNE h.symm))
      have X9 := Sealed.mk (X8.out.one_new C9.out GE1)
      clear D8 E8 X8 C9 K9 HB1 HSY HF HEX HLE
      obtain ⟨P3, Z4, b, h3r⟩ : ∃ P3 Z4 b, (P3, Z4, b) = bitsR s P2 0 (extraOf distT d) := ⟨_, _, _, rfl⟩
      have hed := distSum_ok d hd30
      have HEX : Sealed (∀ w : World, Calls Try.prog 59 #[.int .i64 d, .int .i64 4, .int .i64 2] w fun e w' => e = .returned (.int .i64 (extraOf distT d : Nat)) ∧ w = w') := ⟨fun w => by have h := extra_any d 4 2 (by omega) (by omega) (by omega) (by omega) w; rw [hed.2.1] at h; exact h⟩
      have hed13 : extraOf distT d ≤ 16 := (by decide : ∀ d, d < 30 → extraOf distT d ≤ 16) d hd30
      have HB3 := Sealed.mk (fun (w : World) => rbits_tot ⟨s, AB, 8 * s.size, cB, AO, o.length, cO, most⟩ P2 0 (extraOf distT d) (Nat.le_trans hs (by decide)) hP2 hed13 w (Z := 0) (D := (extraOf distT d : Nat)) rfl rfl)
      simp only [← h3r] at HB3
      have H3R := Sealed.mk h3r
      have HT3 := Sealed.mk (HTWO.out HT1.out HT2.out hd30 P3 Z4 b h3r.symm)
      generalize extraOf distT d = ed at *
      clear h3r hed
      have z0 := B9.out.cell 0 rfl
      have z1 := B9.out.cell 1 rfl
      have z2 := B9.out.cell 2 rfl
      have z3 := B9.out.cell 3 rfl
      have z4 := B9.out.cell 4 rfl
      go_cut [10] (fun s10 wx => s10 = .int .i64 (b : Int) ∧ Sealed (IsBlk wx g1 [.string s, .slice AB (8 * s.size) cB, .int .i64 P3, .slice AO o.length cO, .int .i64 (most : Int), .int .i64 Z4] 101) ∧ Sealed (IsBlk wx g2 zeroSt 101) ∧ Sealed (Chg w.heap.size [] w wx))
      case first =>
        go_region_law (first
          | (go_simp; go_at_call 59; refine (HEX.out _).mono ?_; rintro e w10 ⟨rfl, rfl⟩)
          | (go_simp; go_at_call 63; refine (HB3.out _).mono ?_; rintro e w10 ⟨rfl, hb⟩; have D10 := Sealed.mk (B9.out.drew.below' hb); have E10 := Sealed.mk (E9.out.drew.below' hb); have X10 := Sealed.mk (X9.out.drew.below_step hb); have k0 := D10.out.cell 0 rfl; have k1 := D10.out.cell 1 rfl; have k2 := D10.out.cell 2 rfl; have k3 := D10.out.cell 3 rfl; have k4 := D10.out.cell 4 rfl; have k5 := D10.out.cell 5 rfl; have f0 := D10.out.free 0; have f1 := D10.out.free 1; have f2 := D10.out.free 2; have f3 := D10.out.free 3; have f4 := D10.out.free 4; have f5 := D10.out.free 5; clear hb))
        all_goals
          have D11 : Sealed (IsBlk ((((((w10.setCell ⟨g1, 0, none⟩ (.string s)).setCell ⟨g1, 1, none⟩ (.slice AB (8 * s.size) cB)).setCell ⟨g1, 2, none⟩ (.int .i64 P3)).setCell ⟨g1, 3, none⟩ (.slice AO o.length cO)).setCell ⟨g1, 4, none⟩ (.int .i64 (most : Int))).setCell ⟨g1, 5, none⟩ (.int .i64 Z4)) g1 [.string s, .slice AB (8 * s.size) cB, .int .i64 P3, .slice AO o.length cO, .int .i64 (most : Int), .int .i64 Z4] 101) := ⟨(((((D10.out.set 0 _).set 1 _).set 2 _).set 3 _).set 4 _).set 5 _⟩
          have hq : ∀ {v : World}, IsBlk v g2 zeroSt 101 → ∀ i u, IsBlk (v.setCell ⟨g1, i, none⟩ u) g2 zeroSt 101 := fun h i u => h.far (fun h => HNE h.symm) u
          have E11 : Sealed (IsBlk ((((((w10.setCell ⟨g1, 0, none⟩ (.string s)).setCell ⟨g1, 1, none⟩ (.slice AB (8 * s.size) cB)).setCell ⟨g1, 2, none⟩ (.int .i64 P3)).setCell ⟨g1, 3, none⟩ (.slice AO o.length cO)).setCell ⟨g1, 4, none⟩ (.int .i64 (most : Int))).setCell ⟨g1, 5, none⟩ (.int .i64 Z4)) g2 zeroSt 101) := ⟨hq (hq (hq (hq (hq (hq E10.out 0 _) 1 _) 2 _) 3 _) 4 _) 5 _⟩
          have X11 : Sealed (Chg w.heap.size [] w ((((((w10.setCell ⟨g1, 0, none⟩ (.string s)).setCell ⟨g1, 1, none⟩ (.slice AB (8 * s.size) cB)).setCell ⟨g1, 2, none⟩ (.int .i64 P3)).setCell ⟨g1, 3, none⟩ (.slice AO o.length cO)).setCell ⟨g1, 4, none⟩ (.int .i64 (most : Int))).setCell ⟨g1, 5, none⟩ (.int .i64 Z4))) := ⟨(((((X10.out.set_new GE1 _).set_new GE1 _).set_new GE1 _).set_new GE1 _).set_new GE1 _).set_new GE1 _⟩
          clear hq k0 k1 k2 k3 k4 k5 f0 f1 f2 f3 f4 f5 z0 z1 z2 z3 z4 y5 D10 E10 X10 E9 X9 B9
          generalize ((((((w10.setCell ⟨g1, 0, none⟩ (.string s)).setCell ⟨g1, 1, none⟩ (.slice AB (8 * s.size) cB)).setCell ⟨g1, 2, none⟩ (.int .i64 P3)).setCell ⟨g1, 3, none⟩ (.slice AO o.length cO)).setCell ⟨g1, 4, none⟩ (.int .i64 (most : Int))).setCell ⟨g1, 5, none⟩ (.int .i64 Z4)) = w11 at D11 E11 X11 ⊢
          go_wp2_with fail
          go_meet
          exact ⟨rfl, D11, E11, X11⟩
      case rest =>
        obtain ⟨rfl, D11, E11, X11⟩ := hcut
        clear z0 z1 z2 z3 z4 y5 E9 X9 B9
        have hdb : leastOf distT d + b ≤ 100000 := by
          have h1 := (by decide : ∀ d, d < 30 → leastOf distT d ≤ 24577) d hd30
          have h2 := bitsR_val (s := s) (p := P2) (code := 0) (d := ed) hed13
          rw [← H3R.out] at h2
          have h3 : b ≤ 65535 := h2
          omega
        have HDI := Sealed.mk (fun (w : World) => distance10_any d hd30 w)
        have hld1 : 1 ≤ leastOf distT d := (by decide : ∀ d, d < 30 → 1 ≤ leastOf distT d) d hd30
        generalize leastOf distT d = ld at *
        obtain ⟨fb, hfb⟩ : ∃ fb, fb = ld + b := ⟨_, rfl⟩
        rw [← hfb] at HT3
        have hfbI : (ld : Int) + (b : Int) = (fb : Int) := by omega
        have hfb1 : 1 ≤ fb := by omega
        have hfbl : fb ≤ 100000 := by omega
        clear hfb
        obtain ⟨b5, hb5⟩ : ∃ b5, b5 = decide (o.length < fb) := ⟨_, rfl⟩
        have hb5I : decide ((o.length : Int) < (fb : Int)) = b5 := by rw [hb5]; exact decide_eq_decide.2 (by omega)
        have hb5N : decide (o.length < fb) = b5 := hb5.symm
        obtain ⟨b6, hb6⟩ : ∃ b6, b6 = decide (most < o.length + n) := ⟨_, rfl⟩
        have hb6I : decide ((most : Int) < (o.length : Int) + (n : Int)) = b6 := by rw [hb6]; exact decide_eq_decide.2 (by omega)
        have HB5 := Sealed.mk hb5
        have HB6 := Sealed.mk hb6
        clear hb5 hb6
        go_wp2_with fail
        refine (HDI.out _).mono ?_
        rintro e w12 ⟨rfl, rfl⟩
        have z3 := D11.out.cell 3 rfl
        have z4 := D11.out.cell 4 rfl
        go_wp2_with (first
    | ((with_reducible refine gate_dst (N := 55) rfl ?_); refine wp_load_arr rfl _ _ rfl rfl D11.out Try.underlying101 rfl info_state ?_))
        refine (rfail_tot ⟨s, AB, 8 * s.size, cB, AO, o.length, cO, most⟩ P3 Z4 3 b5 _ (E := 3) rfl).mono ?_
        rintro e w13 ⟨rfl, hb⟩
        have D13 := Sealed.mk (D11.out.below' hb)
        have E13 := Sealed.mk (E11.out.below' hb)
        have X13 := Sealed.mk (X11.out.below_step hb)
        clear hb D11 E11 X11 z3 z4
        generalize hZ5 : failN b5 Z4 3 = Z5
        have HZ5 := Sealed.mk hZ5
        clear hZ5
        go_wp2_with (first
    | ((with_reducible refine gate_store (p := 4) rfl ?_); refine wp_store_arr rfl _ _ _ rfl (cells := [.string s, .slice AB (8 * s.size) cB, .int .i64 P3, .slice AO o.length cO, .int .i64 (most : Int), .int .i64 Z5]) rfl rfl D13.out info_state rfl rfl ?_; intro w15 hb15 hc15 hk15 hs15; have B15 := Sealed.mk hb15; have C15 := Sealed.mk hc15; have K15 := Sealed.mk hk15; have y3 := hb15.cell 3 rfl; have y4 := hb15.cell 4 rfl; clear hb15 hc15 hk15 hs15)
    | ((with_reducible refine gate_dst (N := 62) rfl ?_); refine wp_load_arr rfl _ _ rfl rfl B15.out Try.underlying101 rfl info_state ?_))
        have E15 := Sealed.mk (E13.out.kept K15.out (fun h => HNE h.symm))
        have X15 := Sealed.mk (X13.out.one_new C15.out GE1)
        clear D13 E13 X13 C15 K15 y3 y4
        refine (rfail_tot ⟨s, AB, 8 * s.size, cB, AO, o.length, cO, most⟩ P3 Z5 7 b6 _ (E := 7) rfl).mono ?_
        rintro e w16 ⟨rfl, hb⟩
        have D16 := Sealed.mk (B15.out.below' hb)
        have E16 := Sealed.mk (E15.out.below' hb)
        have X16 := Sealed.mk (X15.out.below_step hb)
        clear hb B15 E15 X15
        generalize hZ6 : failN b6 Z5 7 = Z6
        have HZ6 := Sealed.mk hZ6
        clear hZ6
        go_wp2_with (first
    | ((with_reducible refine gate_store (p := 4) rfl ?_); refine wp_store_arr rfl _ _ _ rfl (cells := [.string s, .slice AB (8 * s.size) cB, .int .i64 P3, .slice AO o.length cO, .int .i64 (most : Int), .int .i64 Z6]) rfl rfl D16.out info_state rfl rfl ?_; intro w17 hb17 hc17 hk17 hs17; have B17 := Sealed.mk hb17; have C17 := Sealed.mk hc17; have K17 := Sealed.mk hk17; clear hb17 hc17 hk17 hs17))
        have E17 := Sealed.mk (E16.out.kept K17.out (fun h => HNE h.symm))
        have X17 := Sealed.mk (X16.out.one_new C17.out GE1)
        have h3 := HT3.out
        rw [← HB5.out, ← HB6.out, HZ5.out, HZ6.out] at h3
        have HT4 := Sealed.mk h3
        clear h3 HT3 D16 E16 X16 C17 K17 hb5I hb5N hb6I hnI hfbI HDI HB5 HB6 HZ5 HZ6
        by_cases hz6 : Z6 = 0
        case neg =>
          have hne6 : ((Z6 : Int) == 0) = false := beq_eq_false_iff_ne.2 (by omega)
          have HRE : Sealed (R = .error Z6) := ⟨HR.out.trans (HT4.out.1 hz6)⟩
          clear hz6
          go_wp2
          go_loopg [14] 0 (fun f s14 w' => s14 = .int .i64 0 ∧ Sealed (IsBlk w' g1 [.string s, .slice AB (8 * s.size) cB, .int .i64 P3, .slice AO o.length cO, .int .i64 (most : Int), .int .i64 Z6] 101) ∧ Sealed (IsBlk w' g2 zeroSt 101) ∧ Sealed (Chg w.heap.size [] w w'))
          case atStart => exact ⟨rfl, B17, E17, X17⟩
          case round =>
            clear B17 E17 X17
            obtain ⟨rfl, HD, HZ, HC⟩ := hrel
            have y5 := HD.out.cell 5 rfl
            go_wp2_with (first
    | ((with_reducible refine gate_dst (N := 96) rfl ?_); refine wp_load_arr rfl _ _ rfl rfl HD.out Try.underlying101 rfl info_state ?_)
    | ((with_reducible refine gate_store (p := 8) rfl ?_); refine wp_store_arr rfl _ _ _ rfl (cells := [.string s, .slice AB (8 * s.size) cB, .int .i64 P3, .slice AO o.length cO, .int .i64 (most : Int), .int .i64 Z6]) rfl rfl HZ.out info_state rfl rfl ?_; intro w20 hb20 hc20 hk20 hs20; have B20 := Sealed.mk hb20; have C20 := Sealed.mk hc20; have K20 := Sealed.mk hk20; clear hb20 hc20 hk20 hs20))
            refine bodyPost_ret (results_cell rfl _ rfl B20.out Try.underlying101 rfl info_state) rfl ?_
            rw [HRE.out]
            exact ⟨(HC.out.one_new C20.out GE2).mono hB (by simp), ⟨s, AB, 8 * s.size, cB, AO, o.length, cO, most⟩, P3, rfl⟩
        case pos =>
          subst hz6
          obtain ⟨hRok, hfar, hmob⟩ := HT4.out.2 rfl
          have HRE : Sealed (R = .ok (copyL fb n o, P3)) := ⟨HR.out.trans hRok⟩
          have HO17 := Sealed.mk (owns_chg HO.out X17.out (by simp))
          have XB17 : Sealed (Chg B [5] w w17) := ⟨X17.out.mono hB (by simp)⟩
          have hBg : Sealed (B ≤ w17.heap.size) := ⟨Nat.le_trans hB X17.out.size⟩
          clear hRok HT4 HR
          go_wp2
          go_loopg [14] n (fun f s14 w' => ∃ (j : Nat) (A : Option Addr) (c : Nat), s14 = .int .i64 j ∧ j ≤ n ∧ Sealed (f = n - j) ∧ Sealed (IsBlk w' g1 [.string s, .slice AB (8 * s.size) cB, .int .i64 P3, .slice A (o.length + j) c, .int .i64 (most : Int), .int .i64 0] 101) ∧ Sealed (IsBlk w' g2 zeroSt 101) ∧ Sealed (w'.ownsRow B 5 1 (.slice A (o.length + j) c) (o.length + j) (nums .u8 (castL (copyL fb j o)))) ∧ Sealed (Chg B [5] w w'))
          case atStart => exact ⟨0, AO, cO, rfl, by omega, ⟨rfl⟩, B17, E17, HO17, XB17⟩
          case round =>
            clear B17 E17 HO17 XB17 X17
            obtain ⟨j, A, c, rfl, hj, HF, HD, HZ, HOJ, HC⟩ := hrel
            by_cases hlt : j < n
            · have hlt' : decide (j < n) = true := decide_eq_true hlt
              have hlen := copyL_len fb j o
              obtain ⟨g7, c8, he7⟩ := own_head2 HOJ.out (by omega)
              injection he7 with e1 e2 e3
              subst e1
              subst e3
              clear e2
              have x3 := HD.out.cell 3 rfl
              have x5 := HD.out.cell 5 rfl
              have f3 := HD.out.free 3
              obtain ⟨y, hy⟩ : ∃ y, y = (copyL fb j o).getD (o.length + j - fb) 0 := ⟨_, rfl⟩
              have xc := own_cell HOJ.out (i := o.length + j - fb) (by omega)
              have hgy : (castL (copyL fb j o)).getD (o.length + j - fb) 0 = (y : Int) := by rw [hy]; simp [castL, List.getD_eq_getElem?_getD, List.getElem?_map, List.getElem?_eq_getElem (show o.length + j - fb < (copyL fb j o).length by rw [hlen]; omega)]
              rw [hgy, add_plain] at xc
              have hi1 : 0 ≤ (o.length : Int) + (j : Int) - (fb : Int) := by omega
              have hi5 : (fb : Int) ≤ (o.length : Int) + (j : Int) := by omega
              have hi2 : (o.length : Int) + (j : Int) - (fb : Int) < (o.length : Int) + (j : Int) := by omega
              have hi3 : ((o.length : Int) + (j : Int) - (fb : Int)).toNat = o.length + j - fb := by omega
              have hi4 : IntKind.i64.wrap ((o.length : Int) + (j : Int) - (fb : Int)) = (o.length : Int) + (j : Int) - (fb : Int) := by rw [IntKind.wrap_i64]; omega
              have HOD : Sealed (wr.drew.ownsRow B 5 1 (.slice (some ⟨g7, 0, none⟩) (o.length + j) c) (o.length + j) (nums .u8 (castL (copyL fb j o)))) := ⟨HOJ.out⟩
              have HB0 : Sealed (B ≤ wr.heap.size) := ⟨Nat.le_trans hB HC.out.size⟩
              have HY : Sealed (copyL fb (j + 1) o = copyL fb j o ++ [y]) := ⟨by rw [copyL_snoc, hlen, hy]⟩
              have HGR : Sealed (∀ v1 w', w'.ownsRow B 5 1 v1 (o.length + j + 1) (nums .u8 (castL (copyL fb j o)) ++ [.int .u8 (y : Int)]) → wr.drew.grownBy w' (Value.slice (some ⟨g7, 0, none⟩) (o.length + j) c).ownBlock →
                  IsBlk w' g1 [.string s, .slice AB (8 * s.size) cB, .int .i64 P3, .slice (some ⟨g7, 0, none⟩) (o.length + j) c, .int .i64 (most : Int), .int .i64 0] 101 ∧ IsBlk w' g2 zeroSt 101 ∧ Chg B [5] w w' ∧ w'.ownsRow B 5 1 v1 (o.length + (j + 1)) (nums .u8 (castL (copyL fb (j + 1) o)))) := ⟨fun v1 w' h1 h2 => by
                refine ⟨HD.out.drew.grown h2 (HD.out.drew.own_ne HOD.out (by decide)), HZ.out.drew.grown h2 (HZ.out.drew.own_ne HOD.out (by decide)), HC.out.drew.grown HOD.out (Nat.le_refl _) (by simp) h2, ?_⟩
                rw [HY.out, castL_snoc', nums_snoc]; exact h1⟩
              have k3 := fun ob => (HD.out.alloc ob).cell 3 rfl
              have k5 := fun ob => (HD.out.alloc ob).cell 5 rfl
              clear hgy hy hlen
              go_wp2
              go_region_law (first | (refine step_app1 (W := wr.drew) B rfl (.tmp 83) (.tmp 93) 41 5 (.int .u8 0) 1 rfl Try.underlying41 info_u8 rfl (by decide) _ (o.length + j) _ (.int .u8 (y : Int)) rfl rfl rfl HOD.out HB0.out (by omega) ?_; intro v3 w3 ho3 hg3; have HG3 := Sealed.mk (HGR.out _ _ ho3 hg3); obtain ⟨A3, c3, rfl⟩ := own_slice ho3; have q3 := HG3.out.1.free 3; have r3 := HG3.out.1.cell 3 rfl; clear ho3 hg3))
              all_goals
                go_wp2
                go_roundg (n - (j + 1))
                case measure => have := HF.out; omega
                case rel => exact ⟨j + 1, A3, c3, by go_num, hlt, ⟨rfl⟩, ⟨HG3.out.1.set 3 _⟩, ⟨HG3.out.2.1.far (fun h => HNE h.symm) _⟩, ⟨owns_chg HG3.out.2.2.2 ((Chg.refl g1 [101] _).set HG3.out.1 (Nat.le_refl _) (by simp) 3 _) (by decide)⟩, ⟨HG3.out.2.2.1.set_new GE1 _⟩⟩
            · obtain rfl : j = n := by omega
              have hlt' : decide (j < j) = false := decide_eq_false hlt
              clear hlt
              go_wp2_with (first
    | ((with_reducible refine gate_dst (N := 96) rfl ?_); refine wp_load_arr rfl _ _ rfl rfl HD.out Try.underlying101 rfl info_state ?_)
    | ((with_reducible refine gate_store (p := 8) rfl ?_); refine wp_store_arr rfl _ _ _ rfl (cells := [.string s, .slice AB (8 * s.size) cB, .int .i64 P3, .slice A (o.length + j) c, .int .i64 (most : Int), .int .i64 0]) rfl rfl HZ.out info_state rfl rfl ?_; intro w20 hb20 hc20 hk20 hs20; have B20 := Sealed.mk hb20; have C20 := Sealed.mk hc20; have K20 := Sealed.mk hk20; clear hb20 hc20 hk20 hs20))
              refine bodyPost_ret (results_cell rfl _ rfl B20.out Try.underlying101 rfl info_state) rfl ?_
              rw [HRE.out]
              have hlen := copyL_len fb j o
              have ho := owns_chg HOJ.out C20.out (by decide)
              rw [← hlen] at ho
              refine ⟨HC.out.one_new C20.out GE2, A, c, ?_, ho⟩
              rw [hlen]
end Go.Proofs.Ytmdlhbhdlhjakaa
