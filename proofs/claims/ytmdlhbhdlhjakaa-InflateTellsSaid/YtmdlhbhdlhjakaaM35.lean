/- The contract of the document's answer's coded. -/
import Derived.Test.YtmdlhbhdlhjakaaM34
import Derived.Test.YtmdlhbhdlhjakaaM24
set_option linter.unusedVariables false
set_option linter.unusedSimpArgs false
namespace Go.Proofs.Ytmdlhbhdlhjakaa
open Go.RowKit

/-! ### a row of numbers that is read, in a block of whole numbers -/
structure ReadsT (w : World) (A : Option Addr) (xs : List Int) : Prop where
  reads : Reads w .i64 A xs
  typed : ∀ ad, A = some ad → Typed w ad.block 3
theorem add_block (a : Addr) (j : Nat) : (a.add j).block = a.block := by unfold Addr.add; split <;> rfl
section
variable {w w' : World} {A : Option Addr} {xs : List Int}
theorem ReadsT.chg {B : Nat} {T : List TypeId} (h : ReadsT w A xs) (hc : Chg B T w w') (hn : 3 ∉ T) : ReadsT w' A xs := by
  have hk : ∀ ad, A = some ad → w'.heap[ad.block]? = w.heap[ad.block]? := fun ad he => by
    obtain ⟨cs, fz, hh⟩ := h.typed ad he
    refine hc.block ad.block (lt_of_block hh) (.inr fun t ht hty => ?_)
    obtain ⟨cs', fz', hh'⟩ := hty
    rw [hh] at hh'
    simp at hh'
    exact hn (hh'.2.1 ▸ ht)
  refine ⟨⟨h.reads.1, fun hp => ?_⟩, fun ad he => ?_⟩
  · obtain ⟨ad, he, hcell⟩ := h.reads.2 hp
    refine ⟨ad, he, fun j hj => ?_⟩
    rw [World.cell?_of_block (w := w) (by rw [add_block]; exact hk ad he)]
    exact hcell j hj
  · obtain ⟨cs, fz, hh⟩ := h.typed ad he
    exact ⟨cs, fz, (hk ad he).trans hh⟩
theorem ReadsT.below (h : ReadsT w A xs) (hb : Below w.heap.size w w') : ReadsT w' A xs := h.chg (B := 0) (T := []) (Chg.of_below hb) (by simp)
theorem ReadsT.of_own {base n c : Nat} (h : w.ownsRow base 3 1 (.slice A n c) n (nums .i64 xs)) : ReadsT w A xs := by
  refine ⟨?_, fun ad he => ?_⟩
  · obtain ⟨_, A', c', he, _, hr⟩ := Reads.of_own h
    injection he with he _ _
    rw [he]; exact hr
  rcases h.2 with ⟨hv, _⟩ | ⟨g, cap, cur, hv, hb, hh, _⟩
  · injection hv with hv _ _; rw [hv] at he; cases he
  · injection hv with hv _ _
    rw [hv] at he
    injection he with he
    subst he
    exact ⟨_, _, hh⟩
theorem ReadsT.of_blk {g : Nat} (h : IsBlk w g (nums .i64 xs) 3) (hl : xs.length ≤ 9223372036854775807) : ReadsT w (some ⟨g, 0, none⟩) xs :=
  ⟨blk_reads h hl, fun ad he => by injection he with he; subst he; exact h.typed⟩
end

/-! ### coded -/
theorem coded_one {s : ByteArray} {most f p P1 Z1 n : Nat} {nl fl : List Int} {o : List Nat} (h0 : 0 < nl.length) (h1 : symR s nl p 0 = (P1, Z1, n)) :
    (failN (decide (285 < n)) Z1 4 ≠ 0 → codedS s most nl fl (f + 1) p o = .error (failN (decide (285 < n)) Z1 4)) ∧
    (failN (decide (285 < n)) Z1 4 = 0 → symS s nl p = .ok (n, P1) ∧ n < 286) := by
  cases g1 : symS s nl p with
  | error e =>
    obtain ⟨P, hP⟩ := symR_bad g1
    rw [hP] at h1
    obtain ⟨rfl, rfl, rfl⟩ : P = P1 ∧ e = Z1 ∧ 0 = n := by simpa using h1
    have he := symS_err g1
    have hf : failN (decide (285 < 0)) e 4 = e := by unfold failN; rw [if_neg (fun h => by omega)]
    rw [hf]
    exact ⟨fun _ => codedS_e1 g1, fun h => by omega⟩
  | ok r =>
    obtain ⟨n', q⟩ := r
    rw [symR_ok g1 h0] at h1
    obtain ⟨rfl, rfl, rfl⟩ : q = P1 ∧ 0 = Z1 ∧ n' = n := by simpa using h1
    by_cases h : 285 < n'
    · have hf : failN (decide (285 < n')) 0 4 = 4 := by rw [decide_eq_true h]; rfl
      rw [hf]
      exact ⟨fun _ => codedS_e2 g1 (by omega), fun h => absurd h (by decide)⟩
    · have hf : failN (decide (285 < n')) 0 4 = 0 := by rw [decide_eq_false h]; rfl
      rw [hf]
      exact ⟨fun h => absurd rfl h, fun _ => ⟨rfl, by omega⟩⟩
/-- What holds of the State between two rounds. -/
def CodLive (B : Nat) (s : ByteArray) (AB : Option Addr) (cB most : Nat) (nl fl : List Int) (R : Except Nat (List Nat × Nat)) (w' : World) (x' : RS) (P : Int) (c k : Nat) : Prop :=
  (c ≠ 0 ∧ R = .error c) ∨ (c = 0 ∧ ∃ (p : Nat) (o : List Nat) (A : Option Addr) (cap : Nat), x' = ⟨s, AB, 8 * s.size, cB, A, o.length, cap, (most : Int)⟩ ∧ P = (p : Int) ∧ p ≤ 8 * s.size ∧ o.length ≤ most ∧ 8 * s.size < p + k ∧ codedS s most nl fl k p o = R ∧ w'.ownsRow B 5 1 (.slice A o.length cap) o.length (nums .u8 (castL o)))
set_option maxRecDepth 100000 in
set_option maxHeartbeats 4000000 in
theorem rcoded10 {B : Nat} (x : RS) (p most : Nat) (o : List Nat) {A0 A1 : Option Addr} {c0 c1 : Nat} {nl fl : List Int} {w : World} (hs : x.s.size ≤ 1000000) (hp : p ≤ 8 * x.s.size) (hB : B ≤ w.heap.size) (hmo : x.most = (most : Int)) (hmm : most ≤ 100000000) (hn : x.nO = o.length) (hol : o.length ≤ most)
    (hnB : x.nB = 8 * x.s.size) (hBt : ReadsT w x.AB (sbits x.s (8 * x.s.size))) (h0 : ReadsT w A0 nl) (h1 : ReadsT w A1 fl) (hnn : nl.length ≤ 320) (hn0 : 0 < nl.length) (han : nl.all lenOk = true) (hmn : mayOf (checkOf nl) = 0) (hfn : fl.length ≤ 320) (hl0 : 0 < fl.length) (haf : fl.all lenOk = true) (hmf : mayOf (checkOf fl) = 0)
    {N0 N1 : Nat} (hN0 : N0 = nl.length) (hN1 : N1 = fl.length) (ho : w.ownsRow B 5 1 (.slice x.AO x.nO x.cO) x.nO (nums .u8 (castL o))) {F : Nat} (hF : F = 8 * x.s.size + 1) :
    Calls Try.prog 66 #[x.v p 0, .slice A0 N0 c0, .slice A1 N1 c1] w (RtPost B x (codedS x.s most nl fl F p o) w) := by
  subst hN0 hN1
  obtain ⟨s, AB, nB, cB, AO, nO, cO, mo⟩ := x
  simp only at hs hp hmo hn ho hnB hBt hF ⊢
  subst hmo hn hnB
  obtain ⟨R, hR⟩ : ∃ R, R = codedS s most nl fl F p o := ⟨_, rfl⟩
  rw [← hR]
  have HR := Sealed.mk hR
  have HO := Sealed.mk ho
  have RB0 := Sealed.mk hBt
  have RN0 := Sealed.mk h0
  have RF0 := Sealed.mk h1
  have HAN := Sealed.mk han
  have HMN := Sealed.mk hmn
  have HAF := Sealed.mk haf
  have HMF := Sealed.mk hmf
  have HF := Sealed.mk hF
  have HS8 := Sealed.mk (show 8 * s.size < p + F by omega)
  clear hR ho hBt h0 h1 han hmn haf hmf hF
  go_enter Try.func66, Try.ntmps66
  go_wp2_with (first
      | ((with_reducible refine gate_dst (N := 3) rfl ?_); refine ev_box (cs := [.string s, .slice AB (8 * s.size) cB, .int .i64 p, .slice AO o.length cO, .int .i64 (most : Int), .int .i64 0]) (t := 101) ?hg ?hr ?_; (case hg => rfl); (case hr => first | (go_simp; done) | (go_simp; rfl)); intro gD w1 hg1 hb1 hB1 hs1; have GD : w.heap.size ≤ gD := (by rw [hg1]; exact Nat.le_refl _); have O1 := Sealed.mk (owns_below HO.out hB1); have RB1 := Sealed.mk (RB0.out.below hB1); have RN1 := Sealed.mk (RN0.out.below hB1); have RF1 := Sealed.mk (RF0.out.below hB1); have X1 := Sealed.mk ((Chg.refl B [5] w).below_step hB1); have D1 := Sealed.mk hb1; clear hg1 hb1 hB1 hs1 HO RB0 RN0 RF0)
      | ((with_reducible refine gate_dst (N := 6) rfl ?_); refine ev_box (cs := zeroSt) (t := 101) ?hg ?hr ?_; (case hg => rfl); (case hr => first | (go_simp; done) | (go_simp; rfl)); intro gZ w2 hg2 hb2 hB2 hs2; have GZ : w.heap.size ≤ gZ := (by rw [hg2]; exact X1.out.size); have NDZ : gD ≠ gZ := (by have := D1.out.lt; omega); have D2 := Sealed.mk (D1.out.below' hB2); have O2 := Sealed.mk (owns_below O1.out hB2); have RB2 := Sealed.mk (RB1.out.below hB2); have RN2 := Sealed.mk (RN1.out.below hB2); have RF2 := Sealed.mk (RF1.out.below hB2); have X2 := Sealed.mk (X1.out.below_step hB2); have Z2 := Sealed.mk hb2; clear hg2 hb2 hB2 hs2 D1 O1 RB1 RN1 RF1 X1))
  refine (rcodes_good (cap := c0) RN2.out.reads hnn HAN.out HMN.out).mono ?_
  rintro e w3 ⟨v1, rfl, hoc, hb⟩
  have D3 := Sealed.mk (D2.out.below' hb)
  have Z3 := Sealed.mk (Z2.out.below' hb)
  have O3 := Sealed.mk (owns_below O2.out hb)
  have RB3 := Sealed.mk (RB2.out.below hb)
  have RN3 := Sealed.mk (RN2.out.below hb)
  have RF3 := Sealed.mk (RF2.out.below hb)
  have X3 := Sealed.mk (X2.out.below_step hb)
  clear hb D2 Z2 O2 RB2 RN2 RF2 X2
  obtain ⟨A2, c2, rfl⟩ := own_slice hoc
  have RL0 := Sealed.mk (ReadsT.of_own hoc)
  clear hoc
  go_wp2_with fail
  refine (rcodes_good (cap := c1) RF3.out.reads hfn HAF.out HMF.out).mono ?_
  rintro e w4 ⟨v2, rfl, hoc, hb⟩
  have D4 := Sealed.mk (D3.out.below' hb)
  have Z4 := Sealed.mk (Z3.out.below' hb)
  have O4 := Sealed.mk (owns_below O3.out hb)
  have RB4 := Sealed.mk (RB3.out.below hb)
  have RN4 := Sealed.mk (RN3.out.below hb)
  have RF4 := Sealed.mk (RF3.out.below hb)
  have RL4 := Sealed.mk (RL0.out.below hb)
  have X4 := Sealed.mk (X3.out.below_step hb)
  clear hb D3 Z3 O3 RB3 RN3 RF3 RL0 X3
  obtain ⟨A3, c3, rfl⟩ := own_slice hoc
  have RM0 := Sealed.mk (ReadsT.of_own hoc)
  clear hoc
  go_wp2
  go_loopg [11, 12] F (fun k s11 s12 w' => ∃ (x' : RS) (P : Int) (c : Nat), Sealed (IsBlk w' gD (x'.c P c) 101) ∧ Sealed (IsBlk w' gZ zeroSt 101) ∧ Sealed (Chg B [5] w w') ∧ Sealed (ReadsT w' AB (sbits s (8 * s.size))) ∧ Sealed (ReadsT w' A0 nl) ∧ Sealed (ReadsT w' A1 fl) ∧ Sealed (ReadsT w' A2 (codesOf nl)) ∧ Sealed (ReadsT w' A3 (codesOf fl)) ∧ Sealed (CodLive B s AB cB most nl fl R w' x' P c k))
  case atStart => exact ⟨⟨s, AB, 8 * s.size, cB, AO, o.length, cO, most⟩, p, 0, D4, Z4, X4, RB4, RN4, RF4, RL4, RM0, ⟨.inr ⟨rfl, p, o, AO, cO, rfl, rfl, hp, hol, HS8.out, HR.out.symm, O4.out⟩⟩⟩
  case round =>
    clear D4 Z4 X4 RB4 RN4 RF4 RL4 RM0 O4 HR HS8 HF hp hol
    obtain ⟨x', P, c, HD, HZ, HX, HRB, HRN, HRF, HRL, HRM, HLV⟩ := hrel
    rcases HLV.out with ⟨hc0, hRe⟩ | ⟨rfl, p, o, A, cap, rfl, rfl, hp, hol, hpk, hco, ho⟩
    · have hne : ((c : Int) == 0) = false := beq_eq_false_iff_ne.2 (by omega)
      have HRE := Sealed.mk hRe
      obtain ⟨s', AB', nB', cB', AO', nO', cO', mo'⟩ := x'
      have y5 := HD.out.cell 5 rfl
      clear hc0 hRe HLV
      go_wp2_with (first
          | ((with_reducible refine gate_dst (N := 68) rfl ?_); refine wp_load_arr rfl _ _ rfl rfl HD.out Try.underlying101 rfl info_state ?_)
          | ((with_reducible refine gate_store (p := 6) rfl ?_); refine wp_store_arr rfl _ _ _ rfl (cells := [.string s', .slice AB' nB' cB', .int .i64 P, .slice AO' nO' cO', .int .i64 mo', .int .i64 c]) rfl rfl HZ.out info_state rfl rfl ?_; intro w5 hb5 hc5 hk5 hs5; have D5 := Sealed.mk (HD.out.kept hk5 NDZ); have RB5 := Sealed.mk (HRB.out.chg hc5 (by decide)); have RN5 := Sealed.mk (HRN.out.chg hc5 (by decide)); have RF5 := Sealed.mk (HRF.out.chg hc5 (by decide)); have RL5 := Sealed.mk (HRL.out.chg hc5 (by decide)); have RM5 := Sealed.mk (HRM.out.chg hc5 (by decide)); have X5 := Sealed.mk (HX.out.one_new hc5 GZ); have Z5 := Sealed.mk hb5; clear hb5 hc5 hk5 hs5 HD HRB HRN HRF HRL HRM HX HZ))
      refine bodyPost_ret (results_cell rfl _ rfl Z5.out Try.underlying101 rfl info_state) rfl ?_
      rw [HRE.out]
      exact ⟨X5.out, ⟨s', AB', nB', cB', AO', nO', cO', mo'⟩, P, rfl⟩
    · obtain ⟨f, rfl⟩ : ∃ f, gk = f + 1 := ⟨gk - 1, by omega⟩
      obtain ⟨P1, Z1, n, h1r⟩ : ∃ P1 Z1 n, (P1, Z1, n) = symR s nl p 0 := ⟨_, _, _, rfl⟩
      have HT := Sealed.mk (coded_one (most := most) (f := f) (fl := fl) (o := o) hn0 h1r.symm)
      have hP1 : P1 ≤ 8 * s.size := by have := symR_le (ls := nl) (code := 0) hp; rw [← h1r] at this; exact this
      have hnv : n < 320 := by have := symR_val (s := s) (p := p) (code := 0) hn0; rw [← h1r] at this; exact Nat.lt_of_lt_of_le this hnn
      have HSY : Sealed (Calls Try.prog 94 #[RS.v ⟨s, AB, 8 * s.size, cB, A, o.length, cap, most⟩ p 0, .slice A0 nl.length c0, .slice A2 nl.length c2] wr fun e w'' => e = .returned (.tuple #[RS.v ⟨s, AB, 8 * s.size, cB, A, o.length, cap, most⟩ P1 Z1, .int .i64 n]) ∧ Below wr.heap.size wr w'') := ⟨by
        have hh := rsym_tot ⟨s, AB, 8 * s.size, cB, A, o.length, cap, most⟩ p 0 (c0 := c0) (c1 := c2) (ls := nl) (w := wr) (Nat.le_trans hs (by decide)) hp rfl HRB.out.reads HRN.out.reads HRL.out.reads hnn hn0 HAN.out rfl rfl
        simp only [← h1r] at hh
        exact hh⟩
      obtain ⟨bd, hbd⟩ : ∃ bd, bd = decide (285 < n) := ⟨_, rfl⟩
      rw [← hbd] at HT
      have hdI : decide ((285 : Int) < (n : Int)) = bd := by rw [hbd]; exact decide_eq_decide.2 (by omega)
      have hdN : decide (285 < n) = bd := hbd.symm
      have y5 := HD.out.cell 5 rfl
      have HCO := Sealed.mk hco
      have HPK := Sealed.mk hpk
      have HOW := Sealed.mk ho
      have HRX : Sealed (nl.length ≤ 320) := ⟨hnn⟩
      clear h1r hbd hco hpk ho HLV
      go_wp2_with (first
          | ((with_reducible refine gate_dst (N := 27) rfl ?_); refine wp_load_arr rfl _ _ rfl rfl HD.out Try.underlying101 rfl info_state ?_))
      clear y5
      refine (HSY.out).mono ?_
      rintro e w5 ⟨rfl, hb⟩
      have D5 := Sealed.mk (HD.out.below' hb)
      have Z5 := Sealed.mk (HZ.out.below' hb)
      have O5 := Sealed.mk (owns_below HOW.out hb)
      have RB5 := Sealed.mk (HRB.out.below hb)
      have RN5 := Sealed.mk (HRN.out.below hb)
      have RF5 := Sealed.mk (HRF.out.below hb)
      have RL5 := Sealed.mk (HRL.out.below hb)
      have RM5 := Sealed.mk (HRM.out.below hb)
      have X5 := Sealed.mk (HX.out.below_step hb)
      clear hb HD HZ HOW HRB HRN HRF HRL HRM HX
      clear HSY
      go_wp2_with (first
          | ((with_reducible refine gate_dst (N := 11) rfl ?_); refine ev_box (cs := zeroSt) (t := 101) ?hg ?hr ?_; (case hg => rfl); (case hr => first | (go_simp; done) | (go_simp; rfl)); intro gY w6 hg6 hb6 hB6 hs6; have GY : w.heap.size ≤ gY := (by rw [hg6]; exact X5.out.size); have NDY : gD ≠ gY := (by have := D5.out.lt; omega); have NZY : gZ ≠ gY := (by have := Z5.out.lt; omega); have D6 := Sealed.mk (D5.out.below' hB6); have Z6 := Sealed.mk (Z5.out.below' hB6); have O6 := Sealed.mk (owns_below O5.out hB6); have RB6 := Sealed.mk (RB5.out.below hB6); have RN6 := Sealed.mk (RN5.out.below hB6); have RF6 := Sealed.mk (RF5.out.below hB6); have RL6 := Sealed.mk (RL5.out.below hB6); have RM6 := Sealed.mk (RM5.out.below hB6); have X6 := Sealed.mk (X5.out.below_step hB6); have Y6 := Sealed.mk hb6; clear hg6 hb6 hB6 hs6 D5 Z5 O5 RB5 RN5 RF5 RL5 RM5 X5)
          | ((with_reducible refine gate_store (p := 11) rfl ?_); refine wp_store_arr rfl _ _ _ rfl (cells := [.string s, .slice AB (8 * s.size) cB, .int .i64 P1, .slice A o.length cap, .int .i64 (most : Int), .int .i64 Z1]) rfl rfl Y6.out info_state rfl rfl ?_; intro w7 hb7 hc7 hk7 hs7; have D7 := Sealed.mk (D6.out.kept hk7 NDY); have Z7 := Sealed.mk (Z6.out.kept hk7 NZY); have O7 := Sealed.mk (owns_chg O6.out hc7 (by decide)); have RB7 := Sealed.mk (RB6.out.chg hc7 (by decide)); have RN7 := Sealed.mk (RN6.out.chg hc7 (by decide)); have RF7 := Sealed.mk (RF6.out.chg hc7 (by decide)); have RL7 := Sealed.mk (RL6.out.chg hc7 (by decide)); have RM7 := Sealed.mk (RM6.out.chg hc7 (by decide)); have X7 := Sealed.mk (X6.out.one_new hc7 GY); have Y7 := Sealed.mk hb7; clear hb7 hc7 hk7 hs7 D6 Z6 O6 RB6 RN6 RF6 RL6 RM6 X6 Y6)
          | ((with_reducible refine gate_dst (N := 33) rfl ?_); refine wp_load_arr rfl _ _ rfl rfl Y7.out Try.underlying101 rfl info_state ?_))
      refine (rfail_tot ⟨s, AB, 8 * s.size, cB, A, o.length, cap, most⟩ P1 Z1 4 bd _ (E := 4) rfl).mono ?_
      rintro e w8 ⟨rfl, hb⟩
      have D8 := Sealed.mk (D7.out.below' hb)
      have Z8 := Sealed.mk (Z7.out.below' hb)
      have Y8 := Sealed.mk (Y7.out.below' hb)
      have O8 := Sealed.mk (owns_below O7.out hb)
      have RB8 := Sealed.mk (RB7.out.below hb)
      have RN8 := Sealed.mk (RN7.out.below hb)
      have RF8 := Sealed.mk (RF7.out.below hb)
      have RL8 := Sealed.mk (RL7.out.below hb)
      have RM8 := Sealed.mk (RM7.out.below hb)
      have X8 := Sealed.mk (X7.out.below_step hb)
      clear hb D7 Z7 Y7 O7 RB7 RN7 RF7 RL7 RM7 X7
      generalize hZ2 : failN bd Z1 4 = Z2
      rw [hZ2] at HT
      clear hZ2 hdI hdN
      by_cases hz : Z2 = 0
      case neg =>
        have hne : ((Z2 : Int) != 0) = true := by simp; omega
        have HRE : Sealed (R = .error Z2) := ⟨HCO.out.symm.trans (HT.out.1 hz)⟩
        clear hz HT HCO
        go_wp2_with (first
            | ((with_reducible refine gate_store (p := 3) rfl ?_); refine wp_store_arr rfl _ _ _ rfl (cells := [.string s, .slice AB (8 * s.size) cB, .int .i64 P1, .slice A o.length cap, .int .i64 (most : Int), .int .i64 Z2]) rfl rfl D8.out info_state rfl rfl ?_; intro w9 hb9 hc9 hk9 hs9; have cD9_5 := hb9.cell 5 rfl; have fD9_5 := hb9.free 5; have Z9 := Sealed.mk (Z8.out.kept hk9 (fun h => NDZ h.symm)); have Y9 := Sealed.mk (Y8.out.kept hk9 (fun h => NDY h.symm)); have O9 := Sealed.mk (owns_chg O8.out hc9 (by decide)); have RB9 := Sealed.mk (RB8.out.chg hc9 (by decide)); have RN9 := Sealed.mk (RN8.out.chg hc9 (by decide)); have RF9 := Sealed.mk (RF8.out.chg hc9 (by decide)); have RL9 := Sealed.mk (RL8.out.chg hc9 (by decide)); have RM9 := Sealed.mk (RM8.out.chg hc9 (by decide)); have X9 := Sealed.mk (X8.out.one_new hc9 GD); have D9 := Sealed.mk hb9; clear hb9 hc9 hk9 hs9 Z8 Y8 O8 RB8 RN8 RF8 RL8 RM8 X8 D8)
            | ((with_reducible refine gate_dst (N := 44) rfl ?_); refine wp_load_arr rfl _ _ rfl rfl D9.out Try.underlying101 rfl info_state ?_)
            | ((with_reducible refine gate_store (p := 6) rfl ?_); refine wp_store_arr rfl _ _ _ rfl (cells := [.string s, .slice AB (8 * s.size) cB, .int .i64 P1, .slice A o.length cap, .int .i64 (most : Int), .int .i64 Z2]) rfl rfl Z9.out info_state rfl rfl ?_; intro w10 hb10 hc10 hk10 hs10; have D10 := Sealed.mk (D9.out.kept hk10 NDZ); have Y10 := Sealed.mk (Y9.out.kept hk10 (fun h => NZY h.symm)); have O10 := Sealed.mk (owns_chg O9.out hc10 (by decide)); have RB10 := Sealed.mk (RB9.out.chg hc10 (by decide)); have RN10 := Sealed.mk (RN9.out.chg hc10 (by decide)); have RF10 := Sealed.mk (RF9.out.chg hc10 (by decide)); have RL10 := Sealed.mk (RL9.out.chg hc10 (by decide)); have RM10 := Sealed.mk (RM9.out.chg hc10 (by decide)); have X10 := Sealed.mk (X9.out.one_new hc10 GZ); have Z10 := Sealed.mk hb10; clear hb10 hc10 hk10 hs10 D9 Y9 O9 RB9 RN9 RF9 RL9 RM9 X9 Z9))
        refine bodyPost_ret (results_cell rfl _ rfl Z10.out Try.underlying101 rfl info_state) rfl ?_
        rw [HRE.out]
        exact ⟨X10.out, ⟨s, AB, 8 * s.size, cB, A, o.length, cap, most⟩, P1, rfl⟩
      case pos =>
        subst hz
        obtain ⟨e1, hn286⟩ := HT.out.2 rfl
        have HE1 := Sealed.mk e1
        have hpp := symS_pos e1
        clear e1 HT
        by_cases h256 : n = 256
        case pos =>
          subst h256
          have HRE : Sealed (R = .ok (o, P1)) := ⟨HCO.out.symm.trans (codedS_fin HE1.out)⟩
          clear HCO
          go_wp2_with (first
              | ((with_reducible refine gate_store (p := 3) rfl ?_); refine wp_store_arr rfl _ _ _ rfl (cells := [.string s, .slice AB (8 * s.size) cB, .int .i64 P1, .slice A o.length cap, .int .i64 (most : Int), .int .i64 0]) rfl rfl D8.out info_state rfl rfl ?_; intro w9 hb9 hc9 hk9 hs9; have cD9_5 := hb9.cell 5 rfl; have fD9_5 := hb9.free 5; have Z9 := Sealed.mk (Z8.out.kept hk9 (fun h => NDZ h.symm)); have Y9 := Sealed.mk (Y8.out.kept hk9 (fun h => NDY h.symm)); have O9 := Sealed.mk (owns_chg O8.out hc9 (by decide)); have RB9 := Sealed.mk (RB8.out.chg hc9 (by decide)); have RN9 := Sealed.mk (RN8.out.chg hc9 (by decide)); have RF9 := Sealed.mk (RF8.out.chg hc9 (by decide)); have RL9 := Sealed.mk (RL8.out.chg hc9 (by decide)); have RM9 := Sealed.mk (RM8.out.chg hc9 (by decide)); have X9 := Sealed.mk (X8.out.one_new hc9 GD); have D9 := Sealed.mk hb9; clear hb9 hc9 hk9 hs9 Z8 Y8 O8 RB8 RN8 RF8 RL8 RM8 X8 D8)
              | ((with_reducible refine gate_dst (N := 44) rfl ?_); refine wp_load_arr rfl _ _ rfl rfl D9.out Try.underlying101 rfl info_state ?_)
              | ((with_reducible refine gate_store (p := 6) rfl ?_); refine wp_store_arr rfl _ _ _ rfl (cells := [.string s, .slice AB (8 * s.size) cB, .int .i64 P1, .slice A o.length cap, .int .i64 (most : Int), .int .i64 0]) rfl rfl Z9.out info_state rfl rfl ?_; intro w10 hb10 hc10 hk10 hs10; have D10 := Sealed.mk (D9.out.kept hk10 NDZ); have Y10 := Sealed.mk (Y9.out.kept hk10 (fun h => NZY h.symm)); have O10 := Sealed.mk (owns_chg O9.out hc10 (by decide)); have RB10 := Sealed.mk (RB9.out.chg hc10 (by decide)); have RN10 := Sealed.mk (RN9.out.chg hc10 (by decide)); have RF10 := Sealed.mk (RF9.out.chg hc10 (by decide)); have RL10 := Sealed.mk (RL9.out.chg hc10 (by decide)); have RM10 := Sealed.mk (RM9.out.chg hc10 (by decide)); have X10 := Sealed.mk (X9.out.one_new hc10 GZ); have Z10 := Sealed.mk hb10; clear hb10 hc10 hk10 hs10 D9 Y9 O9 RB9 RN9 RF9 RL9 RM9 X9 Z9))
          refine bodyPost_ret (results_cell rfl _ rfl Z10.out Try.underlying101 rfl info_state) rfl ?_
          rw [HRE.out]
          exact ⟨X10.out, A, cap, rfl, O10.out⟩
        case neg =>
          have h256b : ((n : Int) == 256) = false := beq_eq_false_iff_ne.2 (by omega)
          by_cases hlt : n < 256
          case pos =>
            have hltI : decide ((n : Int) < 256) = true := decide_eq_true (by omega)
            have hw8 : IntKind.u8.wrap (n : Int) = (n : Int) := by rw [IntKind.wrap_u8]; omega
            clear h256
            obtain ⟨b7, hb7⟩ : ∃ b7, b7 = decide (most < o.length + 1) := ⟨_, rfl⟩
            have hb7I : decide ((most : Int) < (o.length : Int) + 1) = b7 := by rw [hb7]; exact decide_eq_decide.2 (by omega)
            have HB7 := Sealed.mk hb7
            clear hb7
            go_wp2_with (first
                | ((with_reducible refine gate_store (p := 3) rfl ?_); refine wp_store_arr rfl _ _ _ rfl (cells := [.string s, .slice AB (8 * s.size) cB, .int .i64 P1, .slice A o.length cap, .int .i64 (most : Int), .int .i64 0]) rfl rfl D8.out info_state rfl rfl ?_; intro w9 hb9 hc9 hk9 hs9; have cD9_5 := hb9.cell 5 rfl; have fD9_5 := hb9.free 5; have cD9_3 := hb9.cell 3 rfl; have fD9_3 := hb9.free 3; have Z9 := Sealed.mk (Z8.out.kept hk9 (fun h => NDZ h.symm)); have Y9 := Sealed.mk (Y8.out.kept hk9 (fun h => NDY h.symm)); have O9 := Sealed.mk (owns_chg O8.out hc9 (by decide)); have RB9 := Sealed.mk (RB8.out.chg hc9 (by decide)); have RN9 := Sealed.mk (RN8.out.chg hc9 (by decide)); have RF9 := Sealed.mk (RF8.out.chg hc9 (by decide)); have RL9 := Sealed.mk (RL8.out.chg hc9 (by decide)); have RM9 := Sealed.mk (RM8.out.chg hc9 (by decide)); have X9 := Sealed.mk (X8.out.one_new hc9 GD); have D9 := Sealed.mk hb9; clear hb9 hc9 hk9 hs9 Z8 Y8 O8 RB8 RN8 RF8 RL8 RM8 X8 D8)
                | ((with_reducible refine gate_dst (N := 52) rfl ?_); refine wp_app1 B rfl (.tmp 48) (.tmp 51) 41 5 (.int .u8 0) 1 rfl Try.underlying41 info_u8 rfl (by decide) _ o.length _ (.int .u8 (n : Int)) rfl rfl rfl O9.out (Nat.le_trans hB X9.out.size) (by omega) ?_; intro v3 w10 ho3 hg3; obtain ⟨A5, c5, rfl⟩ := own_slice ho3; have hcg : Chg B [5] w9 w10 := (Chg.refl B _ _).grown O9.out (Nat.le_refl _) (by simp) hg3; have D10 := Sealed.mk (D9.out.chg hcg (.inr (by decide))); have Z10 := Sealed.mk (Z9.out.chg hcg (.inr (by decide))); have Y10 := Sealed.mk (Y9.out.chg hcg (.inr (by decide))); have RB10 := Sealed.mk (RB9.out.chg hcg (by decide)); have RN10 := Sealed.mk (RN9.out.chg hcg (by decide)); have RF10 := Sealed.mk (RF9.out.chg hcg (by decide)); have RL10 := Sealed.mk (RL9.out.chg hcg (by decide)); have RM10 := Sealed.mk (RM9.out.chg hcg (by decide)); have X10 := Sealed.mk (X9.out.trans hcg); have O10 : Sealed (w10.ownsRow B 5 1 (.slice A5 (o.length + 1) c5) (o.length + 1) (nums .u8 (castL (o ++ [n])))) := ⟨by rw [castL_snoc', nums_snoc]; exact ho3⟩; have q3 := D10.out.free 3; have r3 := D10.out.cell 3 rfl; have hcs : Chg gD [101] w10 (w10.setCell ⟨gD, 3, none⟩ (.slice A5 (o.length + 1) c5)) := (Chg.refl gD [101] _).set D10.out (Nat.le_refl _) (by simp) 3 _; have Z11 : Sealed (IsBlk (w10.setCell ⟨gD, 3, none⟩ (.slice A5 (o.length + 1) c5)) gZ zeroSt 101) := Sealed.mk (Z10.out.far (fun h => NDZ h.symm) _); have Y11 : Sealed (IsBlk (w10.setCell ⟨gD, 3, none⟩ (.slice A5 (o.length + 1) c5)) gY [.string s, .slice AB (8 * s.size) cB, .int .i64 P1, .slice A o.length cap, .int .i64 (most : Int), .int .i64 Z1] 101) := Sealed.mk (Y10.out.far (fun h => NDY h.symm) _); have O11 := Sealed.mk (owns_chg O10.out hcs (by decide)); have RB11 := Sealed.mk (RB10.out.chg hcs (by decide)); have RN11 := Sealed.mk (RN10.out.chg hcs (by decide)); have RF11 := Sealed.mk (RF10.out.chg hcs (by decide)); have RL11 := Sealed.mk (RL10.out.chg hcs (by decide)); have RM11 := Sealed.mk (RM10.out.chg hcs (by decide)); have X11 := Sealed.mk (X10.out.one_new hcs GD); have D11 : Sealed (IsBlk (w10.setCell ⟨gD, 3, none⟩ (.slice A5 (o.length + 1) c5)) gD [.string s, .slice AB (8 * s.size) cB, .int .i64 P1, .slice A5 (o.length + 1) c5, .int .i64 (most : Int), .int .i64 0] 101) := ⟨D10.out.set 3 _⟩; have u3 := D11.out.cell 3 rfl; have u4 := D11.out.cell 4 rfl; clear ho3 hg3 hcg hcs D9 Z9 Y9 RB9 RN9 RF9 RL9 RM9 X9 Z10 Y10 O10 RB10 RN10 RF10 RL10 RM10 X10 O9 D10)
                | ((with_reducible refine gate_dst (N := 54) rfl ?_); refine wp_load_arr rfl _ _ rfl rfl D11.out Try.underlying101 rfl info_state ?_))
            clear q3 r3 u3 u4 cD9_5 fD9_5 cD9_3 fD9_3 hb7I hw8 hltI
            refine (rfail_tot ⟨s, AB, 8 * s.size, cB, A5, o.length + 1, c5, most⟩ P1 0 7 b7 _ (E := 7) rfl).mono ?_
            rintro e w12 ⟨rfl, hb⟩
            have D12 := Sealed.mk (D11.out.below' hb)
            have Z12 := Sealed.mk (Z11.out.below' hb)
            have Y12 := Sealed.mk (Y11.out.below' hb)
            have O12 := Sealed.mk (owns_below O11.out hb)
            have RB12 := Sealed.mk (RB11.out.below hb)
            have RN12 := Sealed.mk (RN11.out.below hb)
            have RF12 := Sealed.mk (RF11.out.below hb)
            have RL12 := Sealed.mk (RL11.out.below hb)
            have RM12 := Sealed.mk (RM11.out.below hb)
            have X12 := Sealed.mk (X11.out.below_step hb)
            clear hb D11 Z11 Y11 O11 RB11 RN11 RF11 RL11 RM11 X11
            by_cases hm7 : most < o.length + 1
            case pos =>
              have hz3 : failN b7 0 7 = 7 := by rw [HB7.out, decide_eq_true hm7]; rfl
              rw [hz3]
              have HRE : Sealed (R = .error 7) := ⟨HCO.out.symm.trans (codedS_e4 HE1.out hlt hm7)⟩
              clear hz3 hm7 HCO
              go_wp2_with (first
                  | ((with_reducible refine gate_store (p := 3) rfl ?_); refine wp_store_arr rfl _ _ _ rfl (cells := [.string s, .slice AB (8 * s.size) cB, .int .i64 P1, .slice A5 (o.length + 1) c5, .int .i64 (most : Int), .int .i64 7]) rfl rfl D12.out info_state rfl rfl ?_; intro w13 hb13 hc13 hk13 hs13; have Z13 := Sealed.mk (Z12.out.kept hk13 (fun h => NDZ h.symm)); have Y13 := Sealed.mk (Y12.out.kept hk13 (fun h => NDY h.symm)); have O13 := Sealed.mk (owns_chg O12.out hc13 (by decide)); have RB13 := Sealed.mk (RB12.out.chg hc13 (by decide)); have RN13 := Sealed.mk (RN12.out.chg hc13 (by decide)); have RF13 := Sealed.mk (RF12.out.chg hc13 (by decide)); have RL13 := Sealed.mk (RL12.out.chg hc13 (by decide)); have RM13 := Sealed.mk (RM12.out.chg hc13 (by decide)); have X13 := Sealed.mk (X12.out.one_new hc13 GD); have D13 := Sealed.mk hb13; clear hb13 hc13 hk13 hs13 Z12 Y12 O12 RB12 RN12 RF12 RL12 RM12 X12 D12))
              go_roundg 0
              case measure => omega
              case rel => exact ⟨⟨s, AB, 8 * s.size, cB, A5, o.length + 1, c5, most⟩, P1, 7, D13, Z13, X13, RB13, RN13, RF13, RL13, RM13, ⟨.inl ⟨by decide, HRE.out⟩⟩⟩
            case neg =>
              have hz3 : failN b7 0 7 = 0 := by rw [HB7.out, decide_eq_false hm7]; rfl
              rw [hz3]
              have HCN : Sealed (codedS s most nl fl f P1 (o ++ [n]) = R) := ⟨(codedS_lit HE1.out hlt hm7).symm.trans HCO.out⟩
              clear hz3 HCO
              go_wp2_with (first
                  | ((with_reducible refine gate_store (p := 3) rfl ?_); refine wp_store_arr rfl _ _ _ rfl (cells := [.string s, .slice AB (8 * s.size) cB, .int .i64 P1, .slice A5 (o.length + 1) c5, .int .i64 (most : Int), .int .i64 0]) rfl rfl D12.out info_state rfl rfl ?_; intro w13 hb13 hc13 hk13 hs13; have Z13 := Sealed.mk (Z12.out.kept hk13 (fun h => NDZ h.symm)); have Y13 := Sealed.mk (Y12.out.kept hk13 (fun h => NDY h.symm)); have O13 := Sealed.mk (owns_chg O12.out hc13 (by decide)); have RB13 := Sealed.mk (RB12.out.chg hc13 (by decide)); have RN13 := Sealed.mk (RN12.out.chg hc13 (by decide)); have RF13 := Sealed.mk (RF12.out.chg hc13 (by decide)); have RL13 := Sealed.mk (RL12.out.chg hc13 (by decide)); have RM13 := Sealed.mk (RM12.out.chg hc13 (by decide)); have X13 := Sealed.mk (X12.out.one_new hc13 GD); have D13 := Sealed.mk hb13; clear hb13 hc13 hk13 hs13 Z12 Y12 O12 RB12 RN12 RF12 RL12 RM12 X12 D12))
              go_roundg f
              case measure => omega
              case rel => exact ⟨⟨s, AB, 8 * s.size, cB, A5, o.length + 1, c5, most⟩, P1, 0, D13, Z13, X13, RB13, RN13, RF13, RL13, RM13, ⟨.inr ⟨rfl, P1, o ++ [n], A5, c5, by simp, rfl, hP1, by simp; omega, by have := HPK.out; omega, HCN.out, by have h := O13.out; rw [show o.length + 1 = (o ++ [n]).length by simp] at h; exact h⟩⟩⟩
          case neg =>
            have hltI : decide ((n : Int) < 256) = false := decide_eq_false (by omega)
            obtain ⟨q, hq⟩ : ∃ q, q = n - 257 := ⟨_, rfl⟩
            have hqI : (n : Int) - 257 = (q : Int) := by omega
            have hq29 : q < 29 := by omega
            have hn256 : 256 < n := by omega
            have HQ := Sealed.mk hq
            clear hq h256 hlt
            go_wp2_with (first
                | ((with_reducible refine gate_store (p := 3) rfl ?_); refine wp_store_arr rfl _ _ _ rfl (cells := [.string s, .slice AB (8 * s.size) cB, .int .i64 P1, .slice A o.length cap, .int .i64 (most : Int), .int .i64 0]) rfl rfl D8.out info_state rfl rfl ?_; intro w9 hb9 hc9 hk9 hs9; have cD9_5 := hb9.cell 5 rfl; have fD9_5 := hb9.free 5; have Z9 := Sealed.mk (Z8.out.kept hk9 (fun h => NDZ h.symm)); have Y9 := Sealed.mk (Y8.out.kept hk9 (fun h => NDY h.symm)); have O9 := Sealed.mk (owns_chg O8.out hc9 (by decide)); have RB9 := Sealed.mk (RB8.out.chg hc9 (by decide)); have RN9 := Sealed.mk (RN8.out.chg hc9 (by decide)); have RF9 := Sealed.mk (RF8.out.chg hc9 (by decide)); have RL9 := Sealed.mk (RL8.out.chg hc9 (by decide)); have RM9 := Sealed.mk (RM8.out.chg hc9 (by decide)); have X9 := Sealed.mk (X8.out.one_new hc9 GD); have D9 := Sealed.mk hb9; clear hb9 hc9 hk9 hs9 Z8 Y8 O8 RB8 RN8 RF8 RL8 RM8 X8 D8)
                | ((with_reducible refine gate_dst (N := 62) rfl ?_); refine wp_load_arr rfl _ _ rfl rfl D9.out Try.underlying101 rfl info_state ?_))
            refine (rcopied10 (B := B) ⟨s, AB, 8 * s.size, cB, A, o.length, cap, most⟩ P1 most q o (c0 := c1) (c1 := c3) (fl := fl) hs hP1 (Nat.le_trans hB X9.out.size) rfl hmm rfl hol hq29 rfl RB9.out.reads RF9.out.reads RM9.out.reads hfn hl0 HAF.out rfl O9.out rfl).mono ?_
            rintro e w10 ⟨hc, hm⟩
            have D10 := Sealed.mk (D9.out.chg hc (.inr (by decide)))
            have Z10 := Sealed.mk (Z9.out.chg hc (.inr (by decide)))
            have Y10 := Sealed.mk (Y9.out.chg hc (.inr (by decide)))
            have RB10 := Sealed.mk (RB9.out.chg hc (by decide))
            have RN10 := Sealed.mk (RN9.out.chg hc (by decide))
            have RF10 := Sealed.mk (RF9.out.chg hc (by decide))
            have RL10 := Sealed.mk (RL9.out.chg hc (by decide))
            have RM10 := Sealed.mk (RM9.out.chg hc (by decide))
            have X10 := Sealed.mk (X9.out.trans hc)
            clear D9 Z9 Y9 RB9 RN9 RF9 RL9 RM9 X9
            clear hc O9 cD9_5 fD9_5 hqI hltI h256b
            cases hrep : repeatS s most fl q P1 o with
            | error er =>
              rw [hrep] at hm
              obtain ⟨x2, p2, rfl⟩ := hm
              obtain ⟨s2, AB2, nB2, cB2, AO2, nO2, cO2, mo2⟩ := x2
              have her := (repeatS_err hrep).1
              have HRE : Sealed (R = .error er) := ⟨HCO.out.symm.trans (codedS_e3 HE1.out hn286 hn256 (by rw [← HQ.out]; exact hrep))⟩
              clear hrep HCO
              go_wp2_with (first
                  | ((with_reducible refine gate_store (p := 3) rfl ?_); refine wp_store_arr rfl _ _ _ rfl (cells := [.string s2, .slice AB2 nB2 cB2, .int .i64 p2, .slice AO2 nO2 cO2, .int .i64 mo2, .int .i64 er]) rfl rfl D10.out info_state rfl rfl ?_; intro w11 hb11 hc11 hk11 hs11; have Z11 := Sealed.mk (Z10.out.kept hk11 (fun h => NDZ h.symm)); have Y11 := Sealed.mk (Y10.out.kept hk11 (fun h => NDY h.symm)); have RB11 := Sealed.mk (RB10.out.chg hc11 (by decide)); have RN11 := Sealed.mk (RN10.out.chg hc11 (by decide)); have RF11 := Sealed.mk (RF10.out.chg hc11 (by decide)); have RL11 := Sealed.mk (RL10.out.chg hc11 (by decide)); have RM11 := Sealed.mk (RM10.out.chg hc11 (by decide)); have X11 := Sealed.mk (X10.out.one_new hc11 GD); have D11 := Sealed.mk hb11; clear hb11 hc11 hk11 hs11 Z10 Y10 RB10 RN10 RF10 RL10 RM10 X10 D10))
              go_roundg 0
              case measure => omega
              case rel => exact ⟨⟨s2, AB2, nB2, cB2, AO2, nO2, cO2, mo2⟩, p2, er, D11, Z11, X11, RB11, RN11, RF11, RL11, RM11, ⟨.inl ⟨by omega, HRE.out⟩⟩⟩
            | ok r =>
              rw [hrep] at hm
              obtain ⟨o', q'⟩ := r
              obtain ⟨A5, c5, rfl, ho⟩ := hm
              have hpos := repeatS_pos hrep
              have HOW := Sealed.mk ho
              have HCN : Sealed (codedS s most nl fl f q' o' = R) := ⟨(codedS_rep HE1.out hn286 hn256 (by rw [← HQ.out]; exact hrep)).symm.trans HCO.out⟩
              clear hrep ho HCO
              go_wp2_with (first
                  | ((with_reducible refine gate_store (p := 3) rfl ?_); refine wp_store_arr rfl _ _ _ rfl (cells := [.string s, .slice AB (8 * s.size) cB, .int .i64 q', .slice A5 o'.length c5, .int .i64 (most : Int), .int .i64 0]) rfl rfl D10.out info_state rfl rfl ?_; intro w11 hb11 hc11 hk11 hs11; have Z11 := Sealed.mk (Z10.out.kept hk11 (fun h => NDZ h.symm)); have Y11 := Sealed.mk (Y10.out.kept hk11 (fun h => NDY h.symm)); have O11 := Sealed.mk (owns_chg HOW.out hc11 (by decide)); have RB11 := Sealed.mk (RB10.out.chg hc11 (by decide)); have RN11 := Sealed.mk (RN10.out.chg hc11 (by decide)); have RF11 := Sealed.mk (RF10.out.chg hc11 (by decide)); have RL11 := Sealed.mk (RL10.out.chg hc11 (by decide)); have RM11 := Sealed.mk (RM10.out.chg hc11 (by decide)); have X11 := Sealed.mk (X10.out.one_new hc11 GD); have D11 := Sealed.mk hb11; clear hb11 hc11 hk11 hs11 Z10 Y10 HOW RB10 RN10 RF10 RL10 RM10 X10 D10))
              go_roundg f
              case measure => omega
              case rel => exact ⟨⟨s, AB, 8 * s.size, cB, A5, o'.length, c5, most⟩, q', 0, D11, Z11, X11, RB11, RN11, RF11, RL11, RM11, ⟨.inr ⟨rfl, q', o', A5, c5, rfl, rfl, hpos.2.1, hpos.2.2.2, by have := HPK.out; omega, HCN.out, O11.out⟩⟩⟩
end Go.Proofs.Ytmdlhbhdlhjakaa
