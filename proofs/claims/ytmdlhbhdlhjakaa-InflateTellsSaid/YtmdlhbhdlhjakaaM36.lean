/- The contract of the document's answer's row. -/
import Derived.Test.YtmdlhbhdlhjakaaM35
import Derived.Test.YtmdlhbhdlhjakaaM27
set_option linter.unusedVariables false
set_option linter.unusedSimpArgs false
namespace Go.Proofs.Ytmdlhbhdlhjakaa
open Go.RowKit

/-- Behind the switch: the place, the error, how often. -/
def rowX (s : ByteArray) (n len P1 Z1 : Nat) : Nat × Nat × Nat :=
  if n = 16 then ((bitsR s P1 (failN (decide (len = 0)) Z1 4) 2).1, (bitsR s P1 (failN (decide (len = 0)) Z1 4) 2).2.1, (bitsR s P1 (failN (decide (len = 0)) Z1 4) 2).2.2 + 3)
  else if n = 17 then ((bitsR s P1 Z1 3).1, (bitsR s P1 Z1 3).2.1, (bitsR s P1 Z1 3).2.2 + 3)
  else if n = 18 then ((bitsR s P1 Z1 7).1, (bitsR s P1 Z1 7).2.1, (bitsR s P1 Z1 7).2.2 + 11)
  else (P1, Z1, 1)
theorem rowX_told {s : ByteArray} {n len P1 P2 Z2 t : Nat} (hn : ¬ (n = 16 ∧ len = 0)) (hP : P1 ≤ 8 * s.size) (h : rowX s n len P1 0 = (P2, Z2, t)) :
    (Z2 ≠ 0 → toldS s (spanOf n) P1 = .error Z2) ∧ (Z2 = 0 → toldS s (spanOf n) P1 = .ok (t, P2)) := by
  have key : ∀ a d, rowX s n len P1 0 = ((bitsR s P1 0 d).1, (bitsR s P1 0 d).2.1, (bitsR s P1 0 d).2.2 + a) → spanOf n = (a, d) → (Z2 ≠ 0 → toldS s (spanOf n) P1 = .error Z2) ∧ (Z2 = 0 → toldS s (spanOf n) P1 = .ok (t, P2)) := by
    intro a d h1 h2
    rw [h2]
    rw [h1] at h
    cases g : getS s P1 d with
    | error e =>
      rw [bitsR_bad g] at h
      obtain ⟨rfl, rfl, rfl⟩ : P1 = P2 ∧ e = Z2 ∧ 0 + a = t := by simpa using h
      have he := getS_err g
      exact ⟨fun _ => by unfold toldS; rw [g], fun h => by omega⟩
    | ok r =>
      obtain ⟨m, q⟩ := r
      rw [bitsR_ok g] at h
      obtain ⟨rfl, rfl, rfl⟩ : q = P2 ∧ 0 = Z2 ∧ m + a = t := by simpa using h
      exact ⟨fun h => absurd rfl h, fun _ => by unfold toldS; rw [g]; simp [Nat.add_comm]⟩
  by_cases h16 : n = 16
  · subst h16
    have hl : len ≠ 0 := fun h => hn ⟨rfl, h⟩
    have hf : failN (decide (len = 0)) 0 4 = 0 := by rw [decide_eq_false hl]; rfl
    exact key 3 2 (by unfold rowX; rw [if_pos rfl, hf]) rfl
  by_cases h17 : n = 17
  · subst h17; exact key 3 3 rfl rfl
  by_cases h18 : n = 18
  · subst h18; exact key 11 7 rfl rfl
  have hx : rowX s n len P1 0 = (P1, 0, 1) := by unfold rowX; rw [if_neg h16, if_neg h17, if_neg h18]
  have hs : spanOf n = (1, 0) := by unfold spanOf; rw [if_neg h16, if_neg h17, if_neg h18]
  rw [hx] at h
  obtain ⟨rfl, rfl, rfl⟩ : P1 = P2 ∧ 0 = Z2 ∧ 1 = t := by simpa using h
  refine ⟨fun h => absurd rfl h, fun _ => ?_⟩
  rw [hs]
  unfold toldS getS
  simp only [Nat.add_zero, val]
  rw [if_pos (by omega)]
theorem rowX_err {s : ByteArray} {n len P1 Z1 P2 Z2 t : Nat} (hz : Z1 ≠ 0) (hn : n = 0) (h : rowX s n len P1 Z1 = (P2, Z2, t)) : Z2 = Z1 := by
  subst hn
  have hx : rowX s 0 len P1 Z1 = (P1, Z1, 1) := rfl
  rw [hx] at h
  obtain ⟨rfl, rfl, rfl⟩ : P1 = P2 ∧ Z1 = Z2 ∧ 1 = t := by simpa using h
  rfl
theorem rowX_bd {s : ByteArray} {n len P1 Z1 P2 Z2 t : Nat} (hP : P1 ≤ 8 * s.size) (h : rowX s n len P1 Z1 = (P2, Z2, t)) : 1 ≤ t ∧ t ≤ 65546 ∧ P2 ≤ 8 * s.size := by
  have key : ∀ c a d, 1 ≤ a → a ≤ 11 → d ≤ 16 → ((bitsR s P1 c d).1, (bitsR s P1 c d).2.1, (bitsR s P1 c d).2.2 + a) = (P2, Z2, t) → 1 ≤ t ∧ t ≤ 65546 ∧ P2 ≤ 8 * s.size := by
    intro c a d h1 h2 h3 h
    have hv := bitsR_val (s := s) (p := P1) (code := c) h3
    have hl := bitsR_le (code := c) (d := d) hP
    simp only [Prod.mk.injEq] at h
    omega
  unfold rowX at h
  split at h
  · exact key _ 3 2 (by decide) (by decide) (by decide) h
  · split at h
    · exact key _ 3 3 (by decide) (by decide) (by decide) h
    · split at h
      · exact key _ 11 7 (by decide) (by decide) (by decide) h
      · simp only [Prod.mk.injEq] at h; omega
theorem symR_zero {s : ByteArray} {ls : List Int} {p P1 Z1 n : Nat} (h : symR s ls p 0 = (P1, Z1, n)) (hn : n ≠ 0) : Z1 = 0 := by
  cases g : symS s ls p with
  | error e =>
    obtain ⟨P, hP⟩ := symR_bad g
    rw [hP] at h
    simp only [Prod.mk.injEq] at h
    omega
  | ok r =>
    obtain ⟨m, q⟩ := r
    unfold symS at g
    split at g
    · rename_i h2
      unfold symR at h
      rw [if_pos rfl, h2] at h
      simp only [Prod.mk.injEq] at h
      omega
    · cases g
theorem row_one {s : ByteArray} {many k p P1 Z1 n P2 Z2 t : Nat} {tl : List Int} {row : List Nat} (h0 : 0 < tl.length) (hp : p ≤ 8 * s.size) (hlt : row.length < many) (h1 : symR s tl p 0 = (P1, Z1, n)) (h2 : rowX s n row.length P1 Z1 = (P2, Z2, t)) :
    (failN (decide (many < row.length + t)) Z2 4 ≠ 0 → rowS s tl many (k + 1) p row = .error (failN (decide (many < row.length + t)) Z2 4)) ∧
    (failN (decide (many < row.length + t)) Z2 4 = 0 → rowS s tl many (k + 1) p row = rowS s tl many k P2 (row ++ List.replicate t (whatOf n row)) ∧ row.length + t ≤ many) := by
  have hP1 : P1 ≤ 8 * s.size := by have := symR_le (ls := tl) (code := 0) hp; rw [h1] at this; exact this
  have hr : rowS s tl many (k + 1) p row = (match symS s tl p with
      | .error e => (Except.error e : Except Nat (List Nat × Nat))
      | .ok (n, p1) => if n = 16 ∧ row.length = 0 then .error 4 else match toldS s (spanOf n) p1 with
        | .error e => .error e
        | .ok (t, p2) => if many < row.length + t then .error 4 else rowS s tl many k p2 (row ++ List.replicate t (whatOf n row))) := by rw [rowS, if_neg (by omega)]; rfl
  have hfz : ∀ b z, z ≠ 0 → failN b z 4 = z := fun b z hz => by unfold failN; rw [if_neg (fun h => hz h.2)]
  cases g1 : symS s tl p with
  | error e =>
    obtain ⟨P, hP⟩ := symR_bad g1
    rw [hP] at h1
    obtain ⟨rfl, rfl, rfl⟩ : P = P1 ∧ e = Z1 ∧ 0 = n := by simpa using h1
    have he := symS_err g1
    have hz2 := rowX_err (by omega) rfl h2
    subst hz2
    rw [hfz _ _ (by omega), hr, g1]
    exact ⟨fun _ => rfl, fun h => by omega⟩
  | ok r =>
    obtain ⟨n', q⟩ := r
    rw [symR_ok g1 h0] at h1
    obtain ⟨rfl, rfl, rfl⟩ : q = P1 ∧ 0 = Z1 ∧ n' = n := by simpa using h1
    rw [hr, g1]
    simp only
    by_cases h16 : n' = 16 ∧ row.length = 0
    · rw [if_pos h16]
      obtain ⟨ha, hb⟩ := h16
      have hz2 : Z2 = 4 := by
        have hf : failN (decide (row.length = 0)) 0 4 = 4 := by rw [decide_eq_true hb]; rfl
        unfold rowX at h2
        rw [if_pos ha, hf, bitsR_err (by decide)] at h2
        simp only [Prod.mk.injEq] at h2
        exact h2.2.1.symm
      subst hz2
      rw [hfz _ _ (by decide)]
      exact ⟨fun _ => rfl, fun h => absurd h (by decide)⟩
    · rw [if_neg h16]
      obtain ⟨t1, t2⟩ := rowX_told h16 hP1 h2
      by_cases hz : Z2 = 0
      · subst hz
        rw [t2 rfl]
        simp only
        by_cases hm : many < row.length + t
        · have hf : failN (decide (many < row.length + t)) 0 4 = 4 := by rw [decide_eq_true hm]; rfl
          rw [hf, if_pos hm]
          exact ⟨fun _ => rfl, fun h => absurd h (by decide)⟩
        · have hf : failN (decide (many < row.length + t)) 0 4 = 0 := by rw [decide_eq_false hm]; rfl
          rw [hf, if_neg hm]
          exact ⟨fun h => absurd rfl h, fun _ => ⟨rfl, by omega⟩⟩
      · rw [hfz _ _ hz, t1 hz]
        exact ⟨fun _ => rfl, fun h => absurd h hz⟩
theorem own_ge {w : World} {base n : Nat} {e : TypeId} {size : Nat} {v : Value} {xs : List Value} (h : w.ownsRow base e size v n xs) (k : Nat) (hk : v.ownBlock = some k) : base ≤ k := by
  rcases h.2 with ⟨rfl, _⟩ | ⟨g, cap, cur, rfl, hb, _⟩
  · simp [Value.ownBlock] at hk
  · have : g = k := by simpa [Value.ownBlock] using hk
    omega
theorem ReadsT.lt {w : World} {A : Option Addr} {xs : List Int} (h : ReadsT w A xs) : ∀ ad, A = some ad → ad.block < w.heap.size := fun ad he => by
  obtain ⟨cs, fz, hh⟩ := h.typed ad he
  exact lt_of_block hh
theorem ReadsT.grown {w w1 : World} {A : Option Addr} {xs : List Int} {C n : Nat} {e : TypeId} {size : Nat} {v : Value} {ys : List Value} (h : ReadsT w A xs) (ho : w.ownsRow C e size v n ys) (hl : ∀ ad, A = some ad → ad.block < C) (hg : w.grownBy w1 v.ownBlock) : ReadsT w1 A xs := by
  have hk : ∀ ad, A = some ad → w1.heap[ad.block]? = w.heap[ad.block]? := fun ad he => hg.block _ (h.lt ad he) (fun e => by have := own_ge ho _ e.symm; have := hl ad he; omega)
  refine ⟨⟨h.reads.1, fun hp => ?_⟩, fun ad he => ?_⟩
  · obtain ⟨ad, he, hcell⟩ := h.reads.2 hp
    refine ⟨ad, he, fun j hj => ?_⟩
    rw [World.cell?_of_block (w := w) (by rw [add_block]; exact hk ad he)]
    exact hcell j hj
  · obtain ⟨cs, fz, hh⟩ := h.typed ad he
    exact ⟨cs, fz, (hk ad he).trans hh⟩
def RowR (x : RS) (R : Except Nat (List Nat × Nat)) (w : World) (e : Ending) (w' : World) : Prop := Below w.heap.size w w' ∧ match R with
  | .error er => ∃ (x' : RS) (p' : Int) (v : Value), e = .returned (.tuple #[x'.v p' er, v])
  | .ok (row, q) => ∃ (A : Option Addr) (c : Nat), e = .returned (.tuple #[x.v q 0, .slice A row.length c]) ∧ w'.ownsRow w.heap.size 3 1 (.slice A row.length c) row.length (nums .i64 (castL row))
def RowLive (s : ByteArray) (tl : List Int) (many : Nat) (R : Except Nat (List Nat × Nat)) (row : List Nat) (P : Int) (c k : Nat) : Prop :=
  (c ≠ 0 ∧ R = .error c) ∨ (c = 0 ∧ ∃ p : Nat, P = (p : Int) ∧ p ≤ 8 * s.size ∧ many < row.length + k ∧ rowS s tl many k p row = R)
set_option maxRecDepth 100000 in
set_option maxHeartbeats 8000000 in
theorem rrow10 (x : RS) (p many : Nat) {A0 : Option Addr} {c0 : Nat} {tl : List Int} {w : World} (hs : x.s.size ≤ 1000000) (hp : p ≤ 8 * x.s.size) (hnB : x.nB = 8 * x.s.size) (hBt : ReadsT w x.AB (sbits x.s (8 * x.s.size))) (h0 : ReadsT w A0 tl) (hn19 : tl.length = 19) (hat : tl.all lenOk = true) (hmt : mayOf (checkOf tl) = 0) (hmany : many ≤ 1000) {M : Int} (hM : M = (many : Int)) :
    Calls Try.prog 97 #[x.v p 0, .slice A0 19 c0, .int .i64 M] w (RowR x (rowS x.s tl many (many + 1) p []) w) := by
  subst hM
  obtain ⟨s, AB, nB, cB, AO, nO, cO, most⟩ := x
  simp only at hs hp hnB hBt ⊢
  subst hnB
  obtain ⟨R, hR⟩ : ∃ R, R = rowS s tl many (many + 1) p [] := ⟨_, rfl⟩
  rw [← hR]
  have HR := Sealed.mk hR
  have RB0 := Sealed.mk hBt
  have RT0 := Sealed.mk h0
  have HAT := Sealed.mk hat
  have HMT := Sealed.mk hmt
  have H19 := Sealed.mk hn19
  have HCO : Sealed (∀ w, ReadsT w A0 tl → Calls Try.prog 16 #[.slice A0 19 c0] w fun e w' => ∃ v, e = .returned (.tuple #[v, .int .i64 0]) ∧ w'.ownsRow w.heap.size 3 1 v 19 (nums .i64 (codesOf tl)) ∧ Below w.heap.size w w') := ⟨fun w h => by
    have hh := rcodes_good (cap := c0) h.reads (by omega) hat hmt
    rw [hn19] at hh; exact hh⟩
  clear hR hBt h0 hat hmt hn19
  go_enter Try.func97, Try.ntmps97
  go_wp2_with (first
      | ((with_reducible refine gate_dst (N := 3) rfl ?_); refine ev_box (cs := [.string s, .slice AB (8 * s.size) cB, .int .i64 p, .slice AO nO cO, .int .i64 most, .int .i64 0]) (t := 101) ?hg ?hr ?_; (case hg => rfl); (case hr => first | (go_simp; done) | (go_simp; rfl)); intro gD w1 hg1 hb1 hB1 hs1; have GD : w.heap.size ≤ gD := (by rw [hg1]; exact Nat.le_refl _); have RB1 := Sealed.mk (RB0.out.below hB1); have RT1 := Sealed.mk (RT0.out.below hB1); have X1 := Sealed.mk ((Chg.refl w.heap.size [] w).below_step hB1); have D1 := Sealed.mk hb1; clear hg1 hb1 hB1 hs1 RB0 RT0)
      | ((with_reducible refine gate_dst (N := 6) rfl ?_); refine ev_box (cs := zeroSt) (t := 101) ?hg ?hr ?_; (case hg => rfl); (case hr => first | (go_simp; done) | (go_simp; rfl)); intro gZ w2 hg2 hb2 hB2 hs2; have GZ : w.heap.size ≤ gZ := (by rw [hg2]; exact X1.out.size); have NDZ : gD ≠ gZ := (by have := D1.out.lt; omega); have D2 := Sealed.mk (D1.out.below' hB2); have RB2 := Sealed.mk (RB1.out.below hB2); have RT2 := Sealed.mk (RT1.out.below hB2); have X2 := Sealed.mk (X1.out.below_step hB2); have Z2 := Sealed.mk hb2; clear hg2 hb2 hB2 hs2 D1 RB1 RT1 X1))
  refine (HCO.out _ RT2.out).mono ?_
  rintro e w3 ⟨v1, rfl, hoc, hb⟩
  have D3 := Sealed.mk (D2.out.below' hb)
  have Z3 := Sealed.mk (Z2.out.below' hb)
  have RB3 := Sealed.mk (RB2.out.below hb)
  have RT3 := Sealed.mk (RT2.out.below hb)
  have X3 := Sealed.mk (X2.out.below_step hb)
  clear hb D2 Z2 RB2 RT2 X2
  obtain ⟨A2, c2, rfl⟩ := own_slice hoc
  have RL0 := Sealed.mk (ReadsT.of_own hoc)
  clear hoc HCO
  obtain ⟨C, hC⟩ : ∃ C, C = w3.heap.size := ⟨_, rfl⟩
  have HC0 : Sealed (w.heap.size ≤ C) := ⟨by rw [hC]; exact X3.out.size⟩
  have S0 : Sealed (C ≤ w3.heap.size) := ⟨by rw [hC]; exact Nat.le_refl _⟩
  have HLRB : Sealed (∀ ad, AB = some ad → ad.block < C) := ⟨by rw [hC]; exact RB3.out.lt⟩
  have HLRT : Sealed (∀ ad, A0 = some ad → ad.block < C) := ⟨by rw [hC]; exact RT3.out.lt⟩
  have HLRL : Sealed (∀ ad, A2 = some ad → ad.block < C) := ⟨by rw [hC]; exact RL0.out.lt⟩
  clear hC
  go_wp2_with (first
      | ((with_reducible refine gate_dst (N := 21) rfl ?_); refine ev_lit (cs := []) (t := 3) (n := 0) ?hg ?hr ?_; (case hg => rfl); (case hr => first | (go_simp; done) | (go_simp; rfl)); intro g4 w4 hg4 hb4 hB4 hs4; have HO4 : Sealed (w4.ownsRow C 3 1 (.slice (some ⟨g4, 0, none⟩) 0 0) 0 (nums .i64 (castL []))) := ⟨hb4.owns (by rw [hg4]; exact S0.out) (by decide)⟩; have D4 := Sealed.mk (D3.out.below' hB4); have Z4 := Sealed.mk (Z3.out.below' hB4); have RB4 := Sealed.mk (RB3.out.below hB4); have RT4 := Sealed.mk (RT3.out.below hB4); have RL4 := Sealed.mk (RL0.out.below hB4); have S4 := Sealed.mk (Nat.le_trans S0.out hB4.size); have X4 := Sealed.mk (X3.out.below_step hB4); clear hg4 hb4 hB4 hs4 D3 Z3 RB3 RT3 RL0 S0 X3))
  go_loopg [10, 11, 12, 13, 14, 15] (many + 1) (fun k s10 s11 s12 s13 s14 s15 w' => ∃ (P : Int) (c : Nat) (A : Option Addr) (cap : Nat) (row : List Nat), s10 = .slice A row.length cap ∧ row.length ≤ many ∧ Sealed (IsBlk w' gD [.string s, .slice AB (8 * s.size) cB, .int .i64 P, .slice AO nO cO, .int .i64 most, .int .i64 c] 101) ∧ Sealed (IsBlk w' gZ zeroSt 101) ∧ Sealed (Chg w.heap.size [] w w') ∧ Sealed (C ≤ w'.heap.size) ∧ Sealed (ReadsT w' AB (sbits s (8 * s.size))) ∧ Sealed (ReadsT w' A0 tl) ∧ Sealed (ReadsT w' A2 (codesOf tl)) ∧ Sealed (w'.ownsRow C 3 1 (.slice A row.length cap) row.length (nums .i64 (castL row))) ∧ Sealed (RowLive s tl many R row P c k))
  case atStart => exact ⟨p, 0, some ⟨g4, 0, none⟩, 0, [], rfl, Nat.zero_le _, D4, Z4, X4, S4, RB4, RT4, RL4, HO4, ⟨.inr ⟨rfl, p, rfl, hp, by simp, HR.out.symm⟩⟩⟩
  case round =>
    clear D4 Z4 X4 S4 RB4 RT4 RL4 HO4 HR hp
    obtain ⟨P, c, A, cap, row, rfl, hrl, HD, HZ, HX, HS, HRB, HRT, HRL, HO, HLV⟩ := hrel
    by_cases hlm : row.length < many
    case neg =>
      obtain rfl : row.length = many := by omega
      have hltd : decide (row.length < row.length) = false := decide_eq_false (by omega)
      rcases HLV.out with ⟨hc0, hRe⟩ | ⟨rfl, p, rfl, hp, hpk, hco⟩
      · have HRE := Sealed.mk hRe
        clear hc0 hRe HLV hlm
        go_wp2_with (first
            | ((with_reducible refine gate_dst (N := 104) rfl ?_); refine wp_load_arr rfl _ _ rfl rfl HD.out Try.underlying101 rfl info_state ?_)
            | ((with_reducible refine gate_store (p := 6) rfl ?_); refine wp_store_arr rfl _ _ _ rfl (cells := [.string s, .slice AB (8 * s.size) cB, .int .i64 P, .slice AO nO cO, .int .i64 most, .int .i64 c]) rfl rfl HZ.out info_state rfl rfl ?_; intro w5 hb5 hc5 hk5 hs5; have D5 := Sealed.mk (HD.out.kept hk5 NDZ); have O5 := Sealed.mk (owns_chg HO.out hc5 (by decide)); have RB5 := Sealed.mk (HRB.out.chg hc5 (by decide)); have RT5 := Sealed.mk (HRT.out.chg hc5 (by decide)); have RL5 := Sealed.mk (HRL.out.chg hc5 (by decide)); have S5 := Sealed.mk (Nat.le_trans HS.out hc5.size); have X5 := Sealed.mk (HX.out.one_new hc5 GZ); have Z5 := Sealed.mk hb5; clear hb5 hc5 hk5 hs5 HD HO HRB HRT HRL HS HX HZ))
        refine bodyPost_ret (results_cell_tmp rfl _ rfl Z5.out Try.underlying101 rfl info_state) rfl ?_
        rw [HRE.out]
        exact ⟨X5.out.to_below, ⟨s, AB, 8 * s.size, cB, AO, nO, cO, most⟩, P, _, rfl⟩
      · have HRE : Sealed (R = .ok (row, p)) := ⟨by
          obtain ⟨k', rfl⟩ : ∃ k', gk = k' + 1 := ⟨gk - 1, by omega⟩
          rw [← hco, rowS, if_pos (by omega)]⟩
        clear hpk hco HLV hlm
        go_wp2_with (first
            | ((with_reducible refine gate_dst (N := 104) rfl ?_); refine wp_load_arr rfl _ _ rfl rfl HD.out Try.underlying101 rfl info_state ?_)
            | ((with_reducible refine gate_store (p := 6) rfl ?_); refine wp_store_arr rfl _ _ _ rfl (cells := [.string s, .slice AB (8 * s.size) cB, .int .i64 p, .slice AO nO cO, .int .i64 most, .int .i64 0]) rfl rfl HZ.out info_state rfl rfl ?_; intro w5 hb5 hc5 hk5 hs5; have D5 := Sealed.mk (HD.out.kept hk5 NDZ); have O5 := Sealed.mk (owns_chg HO.out hc5 (by decide)); have RB5 := Sealed.mk (HRB.out.chg hc5 (by decide)); have RT5 := Sealed.mk (HRT.out.chg hc5 (by decide)); have RL5 := Sealed.mk (HRL.out.chg hc5 (by decide)); have S5 := Sealed.mk (Nat.le_trans HS.out hc5.size); have X5 := Sealed.mk (HX.out.one_new hc5 GZ); have Z5 := Sealed.mk hb5; clear hb5 hc5 hk5 hs5 HD HO HRB HRT HRL HS HX HZ))
        refine bodyPost_ret (results_cell_tmp rfl _ rfl Z5.out Try.underlying101 rfl info_state) rfl ?_
        rw [HRE.out]
        exact ⟨X5.out.to_below, A, cap, rfl, own_less O5.out HC0.out⟩
    case pos =>
      have hltd : decide (row.length < many) = true := decide_eq_true hlm
      rcases HLV.out with ⟨hc0, hRe⟩ | ⟨rfl, p, rfl, hp, hpk, hco⟩
      · have hne : ((c : Int) == 0) = false := beq_eq_false_iff_ne.2 (by omega)
        have HRE := Sealed.mk hRe
        have y5 := HD.out.cell 5 rfl
        clear hc0 hRe HLV
        go_wp2_with (first
            | ((with_reducible refine gate_dst (N := 104) rfl ?_); refine wp_load_arr rfl _ _ rfl rfl HD.out Try.underlying101 rfl info_state ?_)
            | ((with_reducible refine gate_store (p := 6) rfl ?_); refine wp_store_arr rfl _ _ _ rfl (cells := [.string s, .slice AB (8 * s.size) cB, .int .i64 P, .slice AO nO cO, .int .i64 most, .int .i64 c]) rfl rfl HZ.out info_state rfl rfl ?_; intro w5 hb5 hc5 hk5 hs5; have D5 := Sealed.mk (HD.out.kept hk5 NDZ); have O5 := Sealed.mk (owns_chg HO.out hc5 (by decide)); have RB5 := Sealed.mk (HRB.out.chg hc5 (by decide)); have RT5 := Sealed.mk (HRT.out.chg hc5 (by decide)); have RL5 := Sealed.mk (HRL.out.chg hc5 (by decide)); have S5 := Sealed.mk (Nat.le_trans HS.out hc5.size); have X5 := Sealed.mk (HX.out.one_new hc5 GZ); have Z5 := Sealed.mk hb5; clear hb5 hc5 hk5 hs5 HD HO HRB HRT HRL HS HX HZ))
        refine bodyPost_ret (results_cell_tmp rfl _ rfl Z5.out Try.underlying101 rfl info_state) rfl ?_
        rw [HRE.out]
        exact ⟨X5.out.to_below, ⟨s, AB, 8 * s.size, cB, AO, nO, cO, most⟩, P, _, rfl⟩
      · obtain ⟨f, rfl⟩ : ∃ f, gk = f + 1 := ⟨gk - 1, by omega⟩
        obtain ⟨P1, Z1, n, h1r⟩ : ∃ P1 Z1 n, (P1, Z1, n) = symR s tl p 0 := ⟨_, _, _, rfl⟩
        have HT := Sealed.mk (fun (P2 Z2 t : Nat) (h2 : rowX s n row.length P1 Z1 = (P2, Z2, t)) => row_one (many := many) (k := f) (by rw [H19.out]; decide) hp hlm h1r.symm h2)
        have hP1 : P1 ≤ 8 * s.size := by have := symR_le (ls := tl) (code := 0) hp; rw [← h1r] at this; exact this
        have hnv : n < 19 := by have := symR_val (s := s) (p := p) (code := 0) (ls := tl) (by rw [H19.out]; decide); rw [← h1r] at this; rw [← H19.out]; exact this
        have HSY : Sealed (Calls Try.prog 94 #[RS.v ⟨s, AB, 8 * s.size, cB, AO, nO, cO, most⟩ p 0, .slice A0 19 c0, .slice A2 19 c2] wr fun e w'' => e = .returned (.tuple #[RS.v ⟨s, AB, 8 * s.size, cB, AO, nO, cO, most⟩ P1 Z1, .int .i64 n]) ∧ Below wr.heap.size wr w'') := ⟨by
          have hh := rsym_tot ⟨s, AB, 8 * s.size, cB, AO, nO, cO, most⟩ p 0 (c0 := c0) (c1 := c2) (ls := tl) (w := wr) (Nat.le_trans hs (by decide)) hp rfl HRB.out.reads HRT.out.reads HRL.out.reads (by rw [H19.out]; decide) (by rw [H19.out]; decide) HAT.out H19.out.symm rfl
          simp only [← h1r] at hh
          exact hh⟩
        have y5 := HD.out.cell 5 rfl
        have HCO := Sealed.mk hco
        have HPK := Sealed.mk hpk
        have HSR := Sealed.mk h1r.symm
        clear h1r hco hpk HLV
        go_wp2_with (first
            | ((with_reducible refine gate_dst (N := 32) rfl ?_); refine wp_load_arr rfl _ _ rfl rfl HD.out Try.underlying101 rfl info_state ?_))
        clear y5
        refine (HSY.out).mono ?_
        rintro e w5 ⟨rfl, hb⟩
        have D5 := Sealed.mk (HD.out.below' hb)
        have Z5 := Sealed.mk (HZ.out.below' hb)
        have O5 := Sealed.mk (owns_below HO.out hb)
        have RB5 := Sealed.mk (HRB.out.below hb)
        have RT5 := Sealed.mk (HRT.out.below hb)
        have RL5 := Sealed.mk (HRL.out.below hb)
        have S5 := Sealed.mk (Nat.le_trans HS.out hb.size)
        have X5 := Sealed.mk (HX.out.below_step hb)
        clear hb HD HZ HO HRB HRT HRL HS HX
        clear HSY
        by_cases hn17 : n = 17
        case pos =>
          subst hn17
          obtain ⟨P2, Z2, t0, hb⟩ : ∃ P2 Z2 t0, (P2, Z2, t0) = bitsR s P1 Z1 3 := ⟨_, _, _, rfl⟩
          have hx : rowX s 17 row.length P1 Z1 = (P2, Z2, t0 + 3) := by unfold rowX; rw [if_neg (by decide), if_pos rfl, ← hb]
          have hP2 := (rowX_bd hP1 hx).2.2
          have hT := HT.out P2 Z2 (t0 + 3) hx
          have hbv := bitsR_val (s := s) (p := P1) (code := Z1) (d := 3) (by decide)
          have HBT := Sealed.mk (fun (w : World) => rbits_tot ⟨s, AB, 8 * s.size, cB, AO, nO, cO, most⟩ P1 Z1 3 (Nat.le_trans hs (by decide)) hP1 (by decide) w (Z := (Z1 : Int)) (D := 3) rfl rfl)
          simp only [← hb] at hbv HBT
          obtain ⟨t, ht⟩ : ∃ t, t = t0 + 3 := ⟨_, rfl⟩
          rw [← ht] at hT
          have htI : (t0 : Int) + 3 = (t : Int) := by omega
          have ht1 : 1 ≤ t := by omega
          have htl : t ≤ 70000 := by omega
          have HTN := HT
          clear HT
          have HT := hT
          clear hT hb hx ht
          have hwhat : whatOf 17 row = 0 := rfl
          rw [hwhat] at HT
          clear hwhat
          obtain ⟨b4, hb4⟩ : ∃ b4, b4 = decide (many < row.length + t) := ⟨_, rfl⟩
          have hb4I : decide ((many : Int) < (row.length : Int) + (t : Int)) = b4 := by rw [hb4]; exact decide_eq_decide.2 (by omega)
          have HB4 := Sealed.mk hb4
          clear hb4
          go_wp2_with (first
              | ((with_reducible refine gate_dst (N := 11) rfl ?_); refine ev_box (cs := zeroSt) (t := 101) ?hg ?hr ?_; (case hg => rfl); (case hr => first | (go_simp; done) | (go_simp; rfl)); intro gY w6 hg6 hb6 hB6 hs6; have GY : w.heap.size ≤ gY := (by rw [hg6]; exact X5.out.size); have NDY : gD ≠ gY := (by have := D5.out.lt; omega); have NZY : gZ ≠ gY := (by have := Z5.out.lt; omega); have D6 := Sealed.mk (D5.out.below' hB6); have Z6 := Sealed.mk (Z5.out.below' hB6); have O6 := Sealed.mk (owns_below O5.out hB6); have RB6 := Sealed.mk (RB5.out.below hB6); have RT6 := Sealed.mk (RT5.out.below hB6); have RL6 := Sealed.mk (RL5.out.below hB6); have S6 := Sealed.mk (Nat.le_trans S5.out hB6.size); have X6 := Sealed.mk (X5.out.below_step hB6); have Y6 := Sealed.mk hb6; clear hg6 hb6 hB6 hs6 D5 Z5 O5 RB5 RT5 RL5 S5 X5)
              | ((with_reducible refine gate_store (p := 11) rfl ?_); refine wp_store_arr rfl _ _ _ rfl (cells := [.string s, .slice AB (8 * s.size) cB, .int .i64 P1, .slice AO nO cO, .int .i64 most, .int .i64 Z1]) rfl rfl Y6.out info_state rfl rfl ?_; intro w7 hb7 hc7 hk7 hs7; have D7 := Sealed.mk (D6.out.kept hk7 NDY); have Z7 := Sealed.mk (Z6.out.kept hk7 NZY); have O7 := Sealed.mk (owns_chg O6.out hc7 (by decide)); have RB7 := Sealed.mk (RB6.out.chg hc7 (by decide)); have RT7 := Sealed.mk (RT6.out.chg hc7 (by decide)); have RL7 := Sealed.mk (RL6.out.chg hc7 (by decide)); have S7 := Sealed.mk (Nat.le_trans S6.out hc7.size); have X7 := Sealed.mk (X6.out.one_new hc7 GY); have Y7 := Sealed.mk hb7; clear hb7 hc7 hk7 hs7 D6 Z6 O6 RB6 RT6 RL6 S6 X6 Y6)
              | ((with_reducible refine gate_dst (N := 38) rfl ?_); refine wp_load_arr rfl _ _ rfl rfl Y7.out Try.underlying101 rfl info_state ?_)
              | ((with_reducible refine gate_store (p := 3) rfl ?_); refine wp_store_arr rfl _ _ _ rfl (cells := [.string s, .slice AB (8 * s.size) cB, .int .i64 P1, .slice AO nO cO, .int .i64 most, .int .i64 Z1]) rfl rfl D7.out info_state rfl rfl ?_; intro w8 hb8 hc8 hk8 hs8; have Z8 := Sealed.mk (Z7.out.kept hk8 (fun h => NDZ h.symm)); have Y8 := Sealed.mk (Y7.out.kept hk8 (fun h => NDY h.symm)); have O8 := Sealed.mk (owns_chg O7.out hc8 (by decide)); have RB8 := Sealed.mk (RB7.out.chg hc8 (by decide)); have RT8 := Sealed.mk (RT7.out.chg hc8 (by decide)); have RL8 := Sealed.mk (RL7.out.chg hc8 (by decide)); have S8 := Sealed.mk (Nat.le_trans S7.out hc8.size); have X8 := Sealed.mk (X7.out.one_new hc8 GD); have D8 := Sealed.mk hb8; clear hb8 hc8 hk8 hs8 Z7 Y7 O7 RB7 RT7 RL7 S7 X7 D7)
              | ((with_reducible refine gate_dst (N := 67) rfl ?_); refine wp_load_arr rfl _ _ rfl rfl D8.out Try.underlying101 rfl info_state ?_))
          refine (HBT.out _).mono ?_
          rintro e w9 ⟨rfl, hb⟩
          have D9 := Sealed.mk (D8.out.below' hb)
          have Z9 := Sealed.mk (Z8.out.below' hb)
          have Y9 := Sealed.mk (Y8.out.below' hb)
          have O9 := Sealed.mk (owns_below O8.out hb)
          have RB9 := Sealed.mk (RB8.out.below hb)
          have RT9 := Sealed.mk (RT8.out.below hb)
          have RL9 := Sealed.mk (RL8.out.below hb)
          have S9 := Sealed.mk (Nat.le_trans S8.out hb.size)
          have X9 := Sealed.mk (X8.out.below_step hb)
          clear hb D8 Z8 Y8 O8 RB8 RT8 RL8 S8 X8
          clear HBT HTN
          go_wp2_with (first
              | ((with_reducible refine gate_store (p := 3) rfl ?_); refine wp_store_arr rfl _ _ _ rfl (cells := [.string s, .slice AB (8 * s.size) cB, .int .i64 P2, .slice AO nO cO, .int .i64 most, .int .i64 Z2]) rfl rfl D9.out info_state rfl rfl ?_; intro w10 hb10 hc10 hk10 hs10; have Z10 := Sealed.mk (Z9.out.kept hk10 (fun h => NDZ h.symm)); have Y10 := Sealed.mk (Y9.out.kept hk10 (fun h => NDY h.symm)); have O10 := Sealed.mk (owns_chg O9.out hc10 (by decide)); have RB10 := Sealed.mk (RB9.out.chg hc10 (by decide)); have RT10 := Sealed.mk (RT9.out.chg hc10 (by decide)); have RL10 := Sealed.mk (RL9.out.chg hc10 (by decide)); have S10 := Sealed.mk (Nat.le_trans S9.out hc10.size); have X10 := Sealed.mk (X9.out.one_new hc10 GD); have D10 := Sealed.mk hb10; clear hb10 hc10 hk10 hs10 Z9 Y9 O9 RB9 RT9 RL9 S9 X9 D9)
              | ((with_reducible refine gate_dst (N := 82) rfl ?_); refine wp_load_arr rfl _ _ rfl rfl D10.out Try.underlying101 rfl info_state ?_))
          refine (rfail_tot ⟨s, AB, 8 * s.size, cB, AO, nO, cO, most⟩ P2 Z2 4 b4 _ (E := 4) rfl).mono ?_
          rintro e w11 ⟨rfl, hb⟩
          have D11 := Sealed.mk (D10.out.below' hb)
          have Z11 := Sealed.mk (Z10.out.below' hb)
          have Y11 := Sealed.mk (Y10.out.below' hb)
          have O11 := Sealed.mk (owns_below O10.out hb)
          have RB11 := Sealed.mk (RB10.out.below hb)
          have RT11 := Sealed.mk (RT10.out.below hb)
          have RL11 := Sealed.mk (RL10.out.below hb)
          have S11 := Sealed.mk (Nat.le_trans S10.out hb.size)
          have X11 := Sealed.mk (X10.out.below_step hb)
          clear hb D10 Z10 Y10 O10 RB10 RT10 RL10 S10 X10
          generalize hZ3 : failN b4 Z2 4 = Z3
          rw [← HB4.out, hZ3] at HT
          have HT2 := Sealed.mk HT
          have HZ3 := Sealed.mk hZ3
          clear HT hZ3 hb4I
          by_cases hz : Z3 = 0
          case neg =>
            have hne : ((Z3 : Int) == 0) = false := beq_eq_false_iff_ne.2 (by omega)
            have ht0 : decide ((0 : Int) < (t : Int)) = true := decide_eq_true (by omega)
            have HRE : Sealed (R = .error Z3) := ⟨HCO.out.symm.trans (HT2.out.1 hz)⟩
            clear HCO HT2
            go_wp2_with (first
                | ((with_reducible refine gate_store (p := 3) rfl ?_); refine wp_store_arr rfl _ _ _ rfl (cells := [.string s, .slice AB (8 * s.size) cB, .int .i64 P2, .slice AO nO cO, .int .i64 most, .int .i64 Z3]) rfl rfl D11.out info_state rfl rfl ?_; intro w12 hb12 hc12 hk12 hs12; have Z12 := Sealed.mk (Z11.out.kept hk12 (fun h => NDZ h.symm)); have Y12 := Sealed.mk (Y11.out.kept hk12 (fun h => NDY h.symm)); have O12 := Sealed.mk (owns_chg O11.out hc12 (by decide)); have RB12 := Sealed.mk (RB11.out.chg hc12 (by decide)); have RT12 := Sealed.mk (RT11.out.chg hc12 (by decide)); have RL12 := Sealed.mk (RL11.out.chg hc12 (by decide)); have S12 := Sealed.mk (Nat.le_trans S11.out hc12.size); have X12 := Sealed.mk (X11.out.one_new hc12 GD); have D12 := Sealed.mk hb12; clear hb12 hc12 hk12 hs12 Z11 Y11 O11 RB11 RT11 RL11 S11 X11 D11))
            skip
            go_loopg [10, 15] 0 (fun f s10 s15 w' => s15 = .int .i64 0 ∧ s10 = .slice A row.length cap ∧ Sealed (IsBlk w' gD [.string s, .slice AB (8 * s.size) cB, .int .i64 P2, .slice AO nO cO, .int .i64 most, .int .i64 Z3] 101) ∧ Sealed (IsBlk w' gZ zeroSt 101) ∧ Sealed (Chg w.heap.size [] w w') ∧ Sealed (C ≤ w'.heap.size) ∧ Sealed (ReadsT w' AB (sbits s (8 * s.size))) ∧ Sealed (ReadsT w' A0 tl) ∧ Sealed (ReadsT w' A2 (codesOf tl)) ∧ Sealed (w'.ownsRow C 3 1 (.slice A row.length cap) row.length (nums .i64 (castL row))))
            case atStart => exact ⟨rfl, rfl, D12, Z12, X12, S12, RB12, RT12, RL12, O12⟩
            case round =>
              clear D12 Z12 X12 S12 RB12 RT12 RL12 O12
              obtain ⟨rfl, rfl, KD, KZ, KX, KS, KRB, KRT, KRL, KO⟩ := hrel
              have y5 := KD.out.cell 5 rfl
              go_wp2
              go_roundg 0
              case measure => omega
              case rel => exact ⟨P2, Z3, A, cap, row, rfl, hrl, KD, KZ, KX, KS, KRB, KRT, KRL, KO, ⟨.inl ⟨hz, HRE.out⟩⟩⟩
          case pos =>
            subst hz
            obtain ⟨hR1, hle⟩ := HT2.out.2 rfl
            have HCN : Sealed (rowS s tl many f P2 (row ++ List.replicate t 0) = R) := ⟨hR1.symm.trans HCO.out⟩
            clear HCO HT2 hR1
            go_wp2_with (first
                | ((with_reducible refine gate_store (p := 3) rfl ?_); refine wp_store_arr rfl _ _ _ rfl (cells := [.string s, .slice AB (8 * s.size) cB, .int .i64 P2, .slice AO nO cO, .int .i64 most, .int .i64 0]) rfl rfl D11.out info_state rfl rfl ?_; intro w12 hb12 hc12 hk12 hs12; have Z12 := Sealed.mk (Z11.out.kept hk12 (fun h => NDZ h.symm)); have Y12 := Sealed.mk (Y11.out.kept hk12 (fun h => NDY h.symm)); have O12 := Sealed.mk (owns_chg O11.out hc12 (by decide)); have RB12 := Sealed.mk (RB11.out.chg hc12 (by decide)); have RT12 := Sealed.mk (RT11.out.chg hc12 (by decide)); have RL12 := Sealed.mk (RL11.out.chg hc12 (by decide)); have S12 := Sealed.mk (Nat.le_trans S11.out hc12.size); have X12 := Sealed.mk (X11.out.one_new hc12 GD); have D12 := Sealed.mk hb12; clear hb12 hc12 hk12 hs12 Z11 Y11 O11 RB11 RT11 RL11 S11 X11 D11))
            go_loopg [10, 15] t (fun f s10 s15 w' => ∃ (j : Nat) (A5 : Option Addr) (c5 : Nat), s15 = .int .i64 j ∧ j ≤ t ∧ Sealed (f = t - j) ∧ s10 = .slice A5 (row.length + j) c5 ∧ Sealed (IsBlk w' gD [.string s, .slice AB (8 * s.size) cB, .int .i64 P2, .slice AO nO cO, .int .i64 most, .int .i64 0] 101) ∧ Sealed (IsBlk w' gZ zeroSt 101) ∧ Sealed (Chg w.heap.size [] w w') ∧ Sealed (C ≤ w'.heap.size) ∧ Sealed (ReadsT w' AB (sbits s (8 * s.size))) ∧ Sealed (ReadsT w' A0 tl) ∧ Sealed (ReadsT w' A2 (codesOf tl)) ∧ Sealed (w'.ownsRow C 3 1 (.slice A5 (row.length + j) c5) (row.length + j) (nums .i64 (castL (row ++ List.replicate j 0)))))
            case atStart => exact ⟨0, A, cap, rfl, Nat.zero_le _, ⟨rfl⟩, rfl, D12, Z12, X12, S12, RB12, RT12, RL12, ⟨by rw [List.replicate_zero, List.append_nil]; exact O12.out⟩⟩
            case round =>
              clear D12 Z12 X12 S12 RB12 RT12 RL12 O12
              obtain ⟨j, A5, c5, rfl, hj, HJ, rfl, KD, KZ, KX, KS, KRB, KRT, KRL, KO⟩ := hrel
              have y5 := KD.out.cell 5 rfl
              by_cases hjt : j < t
              · have hjd : decide ((j : Int) < (t : Int)) = true := decide_eq_true (by omega)
                have HSZ := KS
                go_wp2_with (first
                    | ((with_reducible refine gate_dst (N := 103) rfl ?_); refine wp_app1 C rfl (.tmp 100) (.tmp 102) 22 3 (.int .i64 0) 8 rfl Try.underlying22 info_i64 rfl (by decide) _ (row.length + j) _ (.int .i64 0) rfl rfl rfl KO.out HSZ.out (by omega) ?_; intro v3 w13 ho3 hg3; obtain ⟨A6, c6, rfl⟩ := own_slice ho3; have hcg : Chg C [3] wr w13 := (Chg.refl C _ _).grown KO.out (Nat.le_refl _) (by simp) hg3; have D13 := Sealed.mk (KD.out.chg hcg (.inr (by decide))); have Z13 := Sealed.mk (KZ.out.chg hcg (.inr (by decide))); have RB13 := Sealed.mk (KRB.out.grown KO.out HLRB.out hg3); have RT13 := Sealed.mk (KRT.out.grown KO.out HLRT.out hg3); have RL13 := Sealed.mk (KRL.out.grown KO.out HLRL.out hg3); have X13 := Sealed.mk (KX.out.grown_new hg3 (fun k hk => Nat.le_trans HC0.out (own_ge KO.out k hk))); have S13 := Sealed.mk (Nat.le_trans KS.out hg3.size); have O13 : Sealed (w13.ownsRow C 3 1 (.slice A6 (row.length + (j + 1)) c6) (row.length + (j + 1)) (nums .i64 (castL (row ++ List.replicate (j + 1) 0)))) := ⟨by rw [List.replicate_succ', ← List.append_assoc, castL_snoc', nums_snoc]; exact ho3⟩; clear ho3 hg3 hcg))
                go_roundg (t - (j + 1))
                case measure => have := HJ.out; omega
                case rel => exact ⟨j + 1, A6, c6, by go_num, hjt, ⟨rfl⟩, rfl, D13, Z13, X13, S13, RB13, RT13, RL13, O13⟩
              · obtain hjt2 : j = t := by omega
                have hjd : decide ((j : Int) < (t : Int)) = false := decide_eq_false (by omega)
                clear hjt
                go_wp2
                go_roundg f
                case measure => omega
                case rel =>
                  have hl : (row ++ List.replicate j 0).length = row.length + j := by simp
                  refine ⟨P2, 0, A5, c5, row ++ List.replicate j 0, by rw [hl], by omega, KD, KZ, KX, KS, KRB, KRT, KRL, ⟨by rw [hl]; exact KO.out⟩, ⟨.inr ⟨rfl, P2, rfl, hP2, by rw [hl]; have := HPK.out; omega, by rw [hjt2]; exact HCN.out⟩⟩⟩
        case neg =>
        by_cases hn18 : n = 18
        case pos =>
          subst hn18
          obtain ⟨P2, Z2, t0, hb⟩ : ∃ P2 Z2 t0, (P2, Z2, t0) = bitsR s P1 Z1 7 := ⟨_, _, _, rfl⟩
          have hx : rowX s 18 row.length P1 Z1 = (P2, Z2, t0 + 11) := by unfold rowX; rw [if_neg (by decide), if_neg (by decide), if_pos rfl, ← hb]
          have hP2 := (rowX_bd hP1 hx).2.2
          have hT := HT.out P2 Z2 (t0 + 11) hx
          have hbv := bitsR_val (s := s) (p := P1) (code := Z1) (d := 7) (by decide)
          have HBT := Sealed.mk (fun (w : World) => rbits_tot ⟨s, AB, 8 * s.size, cB, AO, nO, cO, most⟩ P1 Z1 7 (Nat.le_trans hs (by decide)) hP1 (by decide) w (Z := (Z1 : Int)) (D := 7) rfl rfl)
          simp only [← hb] at hbv HBT
          obtain ⟨t, ht⟩ : ∃ t, t = t0 + 11 := ⟨_, rfl⟩
          rw [← ht] at hT
          have htI : (t0 : Int) + 11 = (t : Int) := by omega
          have ht1 : 1 ≤ t := by omega
          have htl : t ≤ 70000 := by omega
          have HTN := HT
          clear HT
          have HT := hT
          clear hT hb hx ht
          have hwhat : whatOf 18 row = 0 := rfl
          rw [hwhat] at HT
          clear hwhat
          obtain ⟨b4, hb4⟩ : ∃ b4, b4 = decide (many < row.length + t) := ⟨_, rfl⟩
          have hb4I : decide ((many : Int) < (row.length : Int) + (t : Int)) = b4 := by rw [hb4]; exact decide_eq_decide.2 (by omega)
          have HB4 := Sealed.mk hb4
          clear hb4
          go_wp2_with (first
              | ((with_reducible refine gate_dst (N := 11) rfl ?_); refine ev_box (cs := zeroSt) (t := 101) ?hg ?hr ?_; (case hg => rfl); (case hr => first | (go_simp; done) | (go_simp; rfl)); intro gY w6 hg6 hb6 hB6 hs6; have GY : w.heap.size ≤ gY := (by rw [hg6]; exact X5.out.size); have NDY : gD ≠ gY := (by have := D5.out.lt; omega); have NZY : gZ ≠ gY := (by have := Z5.out.lt; omega); have D6 := Sealed.mk (D5.out.below' hB6); have Z6 := Sealed.mk (Z5.out.below' hB6); have O6 := Sealed.mk (owns_below O5.out hB6); have RB6 := Sealed.mk (RB5.out.below hB6); have RT6 := Sealed.mk (RT5.out.below hB6); have RL6 := Sealed.mk (RL5.out.below hB6); have S6 := Sealed.mk (Nat.le_trans S5.out hB6.size); have X6 := Sealed.mk (X5.out.below_step hB6); have Y6 := Sealed.mk hb6; clear hg6 hb6 hB6 hs6 D5 Z5 O5 RB5 RT5 RL5 S5 X5)
              | ((with_reducible refine gate_store (p := 11) rfl ?_); refine wp_store_arr rfl _ _ _ rfl (cells := [.string s, .slice AB (8 * s.size) cB, .int .i64 P1, .slice AO nO cO, .int .i64 most, .int .i64 Z1]) rfl rfl Y6.out info_state rfl rfl ?_; intro w7 hb7 hc7 hk7 hs7; have D7 := Sealed.mk (D6.out.kept hk7 NDY); have Z7 := Sealed.mk (Z6.out.kept hk7 NZY); have O7 := Sealed.mk (owns_chg O6.out hc7 (by decide)); have RB7 := Sealed.mk (RB6.out.chg hc7 (by decide)); have RT7 := Sealed.mk (RT6.out.chg hc7 (by decide)); have RL7 := Sealed.mk (RL6.out.chg hc7 (by decide)); have S7 := Sealed.mk (Nat.le_trans S6.out hc7.size); have X7 := Sealed.mk (X6.out.one_new hc7 GY); have Y7 := Sealed.mk hb7; clear hb7 hc7 hk7 hs7 D6 Z6 O6 RB6 RT6 RL6 S6 X6 Y6)
              | ((with_reducible refine gate_dst (N := 38) rfl ?_); refine wp_load_arr rfl _ _ rfl rfl Y7.out Try.underlying101 rfl info_state ?_)
              | ((with_reducible refine gate_store (p := 3) rfl ?_); refine wp_store_arr rfl _ _ _ rfl (cells := [.string s, .slice AB (8 * s.size) cB, .int .i64 P1, .slice AO nO cO, .int .i64 most, .int .i64 Z1]) rfl rfl D7.out info_state rfl rfl ?_; intro w8 hb8 hc8 hk8 hs8; have Z8 := Sealed.mk (Z7.out.kept hk8 (fun h => NDZ h.symm)); have Y8 := Sealed.mk (Y7.out.kept hk8 (fun h => NDY h.symm)); have O8 := Sealed.mk (owns_chg O7.out hc8 (by decide)); have RB8 := Sealed.mk (RB7.out.chg hc8 (by decide)); have RT8 := Sealed.mk (RT7.out.chg hc8 (by decide)); have RL8 := Sealed.mk (RL7.out.chg hc8 (by decide)); have S8 := Sealed.mk (Nat.le_trans S7.out hc8.size); have X8 := Sealed.mk (X7.out.one_new hc8 GD); have D8 := Sealed.mk hb8; clear hb8 hc8 hk8 hs8 Z7 Y7 O7 RB7 RT7 RL7 S7 X7 D7)
              | ((with_reducible refine gate_dst (N := 76) rfl ?_); refine wp_load_arr rfl _ _ rfl rfl D8.out Try.underlying101 rfl info_state ?_))
          refine (HBT.out _).mono ?_
          rintro e w9 ⟨rfl, hb⟩
          have D9 := Sealed.mk (D8.out.below' hb)
          have Z9 := Sealed.mk (Z8.out.below' hb)
          have Y9 := Sealed.mk (Y8.out.below' hb)
          have O9 := Sealed.mk (owns_below O8.out hb)
          have RB9 := Sealed.mk (RB8.out.below hb)
          have RT9 := Sealed.mk (RT8.out.below hb)
          have RL9 := Sealed.mk (RL8.out.below hb)
          have S9 := Sealed.mk (Nat.le_trans S8.out hb.size)
          have X9 := Sealed.mk (X8.out.below_step hb)
          clear hb D8 Z8 Y8 O8 RB8 RT8 RL8 S8 X8
          clear HBT HTN
          go_wp2_with (first
              | ((with_reducible refine gate_store (p := 3) rfl ?_); refine wp_store_arr rfl _ _ _ rfl (cells := [.string s, .slice AB (8 * s.size) cB, .int .i64 P2, .slice AO nO cO, .int .i64 most, .int .i64 Z2]) rfl rfl D9.out info_state rfl rfl ?_; intro w10 hb10 hc10 hk10 hs10; have Z10 := Sealed.mk (Z9.out.kept hk10 (fun h => NDZ h.symm)); have Y10 := Sealed.mk (Y9.out.kept hk10 (fun h => NDY h.symm)); have O10 := Sealed.mk (owns_chg O9.out hc10 (by decide)); have RB10 := Sealed.mk (RB9.out.chg hc10 (by decide)); have RT10 := Sealed.mk (RT9.out.chg hc10 (by decide)); have RL10 := Sealed.mk (RL9.out.chg hc10 (by decide)); have S10 := Sealed.mk (Nat.le_trans S9.out hc10.size); have X10 := Sealed.mk (X9.out.one_new hc10 GD); have D10 := Sealed.mk hb10; clear hb10 hc10 hk10 hs10 Z9 Y9 O9 RB9 RT9 RL9 S9 X9 D9)
              | ((with_reducible refine gate_dst (N := 82) rfl ?_); refine wp_load_arr rfl _ _ rfl rfl D10.out Try.underlying101 rfl info_state ?_))
          refine (rfail_tot ⟨s, AB, 8 * s.size, cB, AO, nO, cO, most⟩ P2 Z2 4 b4 _ (E := 4) rfl).mono ?_
          rintro e w11 ⟨rfl, hb⟩
          have D11 := Sealed.mk (D10.out.below' hb)
          have Z11 := Sealed.mk (Z10.out.below' hb)
          have Y11 := Sealed.mk (Y10.out.below' hb)
          have O11 := Sealed.mk (owns_below O10.out hb)
          have RB11 := Sealed.mk (RB10.out.below hb)
          have RT11 := Sealed.mk (RT10.out.below hb)
          have RL11 := Sealed.mk (RL10.out.below hb)
          have S11 := Sealed.mk (Nat.le_trans S10.out hb.size)
          have X11 := Sealed.mk (X10.out.below_step hb)
          clear hb D10 Z10 Y10 O10 RB10 RT10 RL10 S10 X10
          generalize hZ3 : failN b4 Z2 4 = Z3
          rw [← HB4.out, hZ3] at HT
          have HT2 := Sealed.mk HT
          have HZ3 := Sealed.mk hZ3
          clear HT hZ3 hb4I
          by_cases hz : Z3 = 0
          case neg =>
            have hne : ((Z3 : Int) == 0) = false := beq_eq_false_iff_ne.2 (by omega)
            have ht0 : decide ((0 : Int) < (t : Int)) = true := decide_eq_true (by omega)
            have HRE : Sealed (R = .error Z3) := ⟨HCO.out.symm.trans (HT2.out.1 hz)⟩
            clear HCO HT2
            go_wp2_with (first
                | ((with_reducible refine gate_store (p := 3) rfl ?_); refine wp_store_arr rfl _ _ _ rfl (cells := [.string s, .slice AB (8 * s.size) cB, .int .i64 P2, .slice AO nO cO, .int .i64 most, .int .i64 Z3]) rfl rfl D11.out info_state rfl rfl ?_; intro w12 hb12 hc12 hk12 hs12; have Z12 := Sealed.mk (Z11.out.kept hk12 (fun h => NDZ h.symm)); have Y12 := Sealed.mk (Y11.out.kept hk12 (fun h => NDY h.symm)); have O12 := Sealed.mk (owns_chg O11.out hc12 (by decide)); have RB12 := Sealed.mk (RB11.out.chg hc12 (by decide)); have RT12 := Sealed.mk (RT11.out.chg hc12 (by decide)); have RL12 := Sealed.mk (RL11.out.chg hc12 (by decide)); have S12 := Sealed.mk (Nat.le_trans S11.out hc12.size); have X12 := Sealed.mk (X11.out.one_new hc12 GD); have D12 := Sealed.mk hb12; clear hb12 hc12 hk12 hs12 Z11 Y11 O11 RB11 RT11 RL11 S11 X11 D11))
            skip
            go_loopg [10, 15] 0 (fun f s10 s15 w' => s15 = .int .i64 0 ∧ s10 = .slice A row.length cap ∧ Sealed (IsBlk w' gD [.string s, .slice AB (8 * s.size) cB, .int .i64 P2, .slice AO nO cO, .int .i64 most, .int .i64 Z3] 101) ∧ Sealed (IsBlk w' gZ zeroSt 101) ∧ Sealed (Chg w.heap.size [] w w') ∧ Sealed (C ≤ w'.heap.size) ∧ Sealed (ReadsT w' AB (sbits s (8 * s.size))) ∧ Sealed (ReadsT w' A0 tl) ∧ Sealed (ReadsT w' A2 (codesOf tl)) ∧ Sealed (w'.ownsRow C 3 1 (.slice A row.length cap) row.length (nums .i64 (castL row))))
            case atStart => exact ⟨rfl, rfl, D12, Z12, X12, S12, RB12, RT12, RL12, O12⟩
            case round =>
              clear D12 Z12 X12 S12 RB12 RT12 RL12 O12
              obtain ⟨rfl, rfl, KD, KZ, KX, KS, KRB, KRT, KRL, KO⟩ := hrel
              have y5 := KD.out.cell 5 rfl
              go_wp2
              go_roundg 0
              case measure => omega
              case rel => exact ⟨P2, Z3, A, cap, row, rfl, hrl, KD, KZ, KX, KS, KRB, KRT, KRL, KO, ⟨.inl ⟨hz, HRE.out⟩⟩⟩
          case pos =>
            subst hz
            obtain ⟨hR1, hle⟩ := HT2.out.2 rfl
            have HCN : Sealed (rowS s tl many f P2 (row ++ List.replicate t 0) = R) := ⟨hR1.symm.trans HCO.out⟩
            clear HCO HT2 hR1
            go_wp2_with (first
                | ((with_reducible refine gate_store (p := 3) rfl ?_); refine wp_store_arr rfl _ _ _ rfl (cells := [.string s, .slice AB (8 * s.size) cB, .int .i64 P2, .slice AO nO cO, .int .i64 most, .int .i64 0]) rfl rfl D11.out info_state rfl rfl ?_; intro w12 hb12 hc12 hk12 hs12; have Z12 := Sealed.mk (Z11.out.kept hk12 (fun h => NDZ h.symm)); have Y12 := Sealed.mk (Y11.out.kept hk12 (fun h => NDY h.symm)); have O12 := Sealed.mk (owns_chg O11.out hc12 (by decide)); have RB12 := Sealed.mk (RB11.out.chg hc12 (by decide)); have RT12 := Sealed.mk (RT11.out.chg hc12 (by decide)); have RL12 := Sealed.mk (RL11.out.chg hc12 (by decide)); have S12 := Sealed.mk (Nat.le_trans S11.out hc12.size); have X12 := Sealed.mk (X11.out.one_new hc12 GD); have D12 := Sealed.mk hb12; clear hb12 hc12 hk12 hs12 Z11 Y11 O11 RB11 RT11 RL11 S11 X11 D11))
            go_loopg [10, 15] t (fun f s10 s15 w' => ∃ (j : Nat) (A5 : Option Addr) (c5 : Nat), s15 = .int .i64 j ∧ j ≤ t ∧ Sealed (f = t - j) ∧ s10 = .slice A5 (row.length + j) c5 ∧ Sealed (IsBlk w' gD [.string s, .slice AB (8 * s.size) cB, .int .i64 P2, .slice AO nO cO, .int .i64 most, .int .i64 0] 101) ∧ Sealed (IsBlk w' gZ zeroSt 101) ∧ Sealed (Chg w.heap.size [] w w') ∧ Sealed (C ≤ w'.heap.size) ∧ Sealed (ReadsT w' AB (sbits s (8 * s.size))) ∧ Sealed (ReadsT w' A0 tl) ∧ Sealed (ReadsT w' A2 (codesOf tl)) ∧ Sealed (w'.ownsRow C 3 1 (.slice A5 (row.length + j) c5) (row.length + j) (nums .i64 (castL (row ++ List.replicate j 0)))))
            case atStart => exact ⟨0, A, cap, rfl, Nat.zero_le _, ⟨rfl⟩, rfl, D12, Z12, X12, S12, RB12, RT12, RL12, ⟨by rw [List.replicate_zero, List.append_nil]; exact O12.out⟩⟩
            case round =>
              clear D12 Z12 X12 S12 RB12 RT12 RL12 O12
              obtain ⟨j, A5, c5, rfl, hj, HJ, rfl, KD, KZ, KX, KS, KRB, KRT, KRL, KO⟩ := hrel
              have y5 := KD.out.cell 5 rfl
              by_cases hjt : j < t
              · have hjd : decide ((j : Int) < (t : Int)) = true := decide_eq_true (by omega)
                have HSZ := KS
                go_wp2_with (first
                    | ((with_reducible refine gate_dst (N := 103) rfl ?_); refine wp_app1 C rfl (.tmp 100) (.tmp 102) 22 3 (.int .i64 0) 8 rfl Try.underlying22 info_i64 rfl (by decide) _ (row.length + j) _ (.int .i64 0) rfl rfl rfl KO.out HSZ.out (by omega) ?_; intro v3 w13 ho3 hg3; obtain ⟨A6, c6, rfl⟩ := own_slice ho3; have hcg : Chg C [3] wr w13 := (Chg.refl C _ _).grown KO.out (Nat.le_refl _) (by simp) hg3; have D13 := Sealed.mk (KD.out.chg hcg (.inr (by decide))); have Z13 := Sealed.mk (KZ.out.chg hcg (.inr (by decide))); have RB13 := Sealed.mk (KRB.out.grown KO.out HLRB.out hg3); have RT13 := Sealed.mk (KRT.out.grown KO.out HLRT.out hg3); have RL13 := Sealed.mk (KRL.out.grown KO.out HLRL.out hg3); have X13 := Sealed.mk (KX.out.grown_new hg3 (fun k hk => Nat.le_trans HC0.out (own_ge KO.out k hk))); have S13 := Sealed.mk (Nat.le_trans KS.out hg3.size); have O13 : Sealed (w13.ownsRow C 3 1 (.slice A6 (row.length + (j + 1)) c6) (row.length + (j + 1)) (nums .i64 (castL (row ++ List.replicate (j + 1) 0)))) := ⟨by rw [List.replicate_succ', ← List.append_assoc, castL_snoc', nums_snoc]; exact ho3⟩; clear ho3 hg3 hcg))
                go_roundg (t - (j + 1))
                case measure => have := HJ.out; omega
                case rel => exact ⟨j + 1, A6, c6, by go_num, hjt, ⟨rfl⟩, rfl, D13, Z13, X13, S13, RB13, RT13, RL13, O13⟩
              · obtain hjt2 : j = t := by omega
                have hjd : decide ((j : Int) < (t : Int)) = false := decide_eq_false (by omega)
                clear hjt
                go_wp2
                go_roundg f
                case measure => omega
                case rel =>
                  have hl : (row ++ List.replicate j 0).length = row.length + j := by simp
                  refine ⟨P2, 0, A5, c5, row ++ List.replicate j 0, by rw [hl], by omega, KD, KZ, KX, KS, KRB, KRT, KRL, ⟨by rw [hl]; exact KO.out⟩, ⟨.inr ⟨rfl, P2, rfl, hP2, by rw [hl]; have := HPK.out; omega, by rw [hjt2]; exact HCN.out⟩⟩⟩
        case neg =>
        by_cases hn16 : n = 16
        case pos =>
          subst hn16
          have hz1 := symR_zero HSR.out (by decide)
          subst hz1
          by_cases hl0 : row.length = 0
          case pos =>
            have hx : rowX s 16 row.length P1 0 = (P1, 4, 3) := by
              have hf : failN (decide (row.length = 0)) 0 4 = 4 := by rw [decide_eq_true hl0]; rfl
              unfold rowX; rw [if_pos rfl, hf, bitsR_err (by decide)]
            have HTN := HT
            clear HT
            have HT := HTN.out P1 4 3 hx
            have hb0 : ((row.length : Int) == 0) = true := beq_iff_eq.2 (by omega)
            have hb1 : decide ((0 : Int) < (row.length : Int)) = false := decide_eq_false (by omega)
            have hb2 : decide (0 < row.length) = false := decide_eq_false (by omega)
            have hb3 : row.length ≤ 0 := by omega
            have hb5 : ¬ 0 < row.length := by omega
            have HF4 := Sealed.mk (fun (w : World) => rfail_tot ⟨s, AB, 8 * s.size, cB, AO, nO, cO, most⟩ P1 0 4 true w (E := 4) rfl)
            have HBT := Sealed.mk (fun (w : World) => rbits_tot ⟨s, AB, 8 * s.size, cB, AO, nO, cO, most⟩ P1 4 2 (Nat.le_trans hs (by decide)) hP1 (by decide) w (Z := 4) (D := 2) rfl rfl)
            rw [show failN true 0 4 = 4 from rfl] at HF4
            simp only [bitsR_err (show 4 ≠ 0 by decide)] at HBT
            clear hx HTN hl0
            obtain ⟨b4, hb4⟩ : ∃ b4, b4 = decide (many < row.length + 3) := ⟨_, rfl⟩
            have hb4I : decide ((many : Int) < (row.length : Int) + 3) = b4 := by rw [hb4]; exact decide_eq_decide.2 (by omega)
            have HB4 := Sealed.mk hb4
            clear hb4
            go_wp2_with (first
                | ((with_reducible refine gate_dst (N := 11) rfl ?_); refine ev_box (cs := zeroSt) (t := 101) ?hg ?hr ?_; (case hg => rfl); (case hr => first | (go_simp; done) | (go_simp; rfl)); intro gY w6 hg6 hb6 hB6 hs6; have GY : w.heap.size ≤ gY := (by rw [hg6]; exact X5.out.size); have NDY : gD ≠ gY := (by have := D5.out.lt; omega); have NZY : gZ ≠ gY := (by have := Z5.out.lt; omega); have D6 := Sealed.mk (D5.out.below' hB6); have Z6 := Sealed.mk (Z5.out.below' hB6); have O6 := Sealed.mk (owns_below O5.out hB6); have RB6 := Sealed.mk (RB5.out.below hB6); have RT6 := Sealed.mk (RT5.out.below hB6); have RL6 := Sealed.mk (RL5.out.below hB6); have S6 := Sealed.mk (Nat.le_trans S5.out hB6.size); have X6 := Sealed.mk (X5.out.below_step hB6); have Y6 := Sealed.mk hb6; clear hg6 hb6 hB6 hs6 D5 Z5 O5 RB5 RT5 RL5 S5 X5)
                | ((with_reducible refine gate_store (p := 11) rfl ?_); refine wp_store_arr rfl _ _ _ rfl (cells := [.string s, .slice AB (8 * s.size) cB, .int .i64 P1, .slice AO nO cO, .int .i64 most, .int .i64 0]) rfl rfl Y6.out info_state rfl rfl ?_; intro w7 hb7 hc7 hk7 hs7; have D7 := Sealed.mk (D6.out.kept hk7 NDY); have Z7 := Sealed.mk (Z6.out.kept hk7 NZY); have O7 := Sealed.mk (owns_chg O6.out hc7 (by decide)); have RB7 := Sealed.mk (RB6.out.chg hc7 (by decide)); have RT7 := Sealed.mk (RT6.out.chg hc7 (by decide)); have RL7 := Sealed.mk (RL6.out.chg hc7 (by decide)); have S7 := Sealed.mk (Nat.le_trans S6.out hc7.size); have X7 := Sealed.mk (X6.out.one_new hc7 GY); have Y7 := Sealed.mk hb7; clear hb7 hc7 hk7 hs7 D6 Z6 O6 RB6 RT6 RL6 S6 X6 Y6)
                | ((with_reducible refine gate_dst (N := 38) rfl ?_); refine wp_load_arr rfl _ _ rfl rfl Y7.out Try.underlying101 rfl info_state ?_)
                | ((with_reducible refine gate_store (p := 3) rfl ?_); refine wp_store_arr rfl _ _ _ rfl (cells := [.string s, .slice AB (8 * s.size) cB, .int .i64 P1, .slice AO nO cO, .int .i64 most, .int .i64 0]) rfl rfl D7.out info_state rfl rfl ?_; intro w8 hb8 hc8 hk8 hs8; have Z8 := Sealed.mk (Z7.out.kept hk8 (fun h => NDZ h.symm)); have Y8 := Sealed.mk (Y7.out.kept hk8 (fun h => NDY h.symm)); have O8 := Sealed.mk (owns_chg O7.out hc8 (by decide)); have RB8 := Sealed.mk (RB7.out.chg hc8 (by decide)); have RT8 := Sealed.mk (RT7.out.chg hc8 (by decide)); have RL8 := Sealed.mk (RL7.out.chg hc8 (by decide)); have S8 := Sealed.mk (Nat.le_trans S7.out hc8.size); have X8 := Sealed.mk (X7.out.one_new hc8 GD); have D8 := Sealed.mk hb8; clear hb8 hc8 hk8 hs8 Z7 Y7 O7 RB7 RT7 RL7 S7 X7 D7)
                | ((with_reducible refine gate_dst (N := 43) rfl ?_); refine wp_load_arr rfl _ _ rfl rfl D8.out Try.underlying101 rfl info_state ?_))
            refine (HF4.out _).mono ?_
            rintro e w9 ⟨rfl, hb⟩
            have D9 := Sealed.mk (D8.out.below' hb)
            have Z9 := Sealed.mk (Z8.out.below' hb)
            have Y9 := Sealed.mk (Y8.out.below' hb)
            have O9 := Sealed.mk (owns_below O8.out hb)
            have RB9 := Sealed.mk (RB8.out.below hb)
            have RT9 := Sealed.mk (RT8.out.below hb)
            have RL9 := Sealed.mk (RL8.out.below hb)
            have S9 := Sealed.mk (Nat.le_trans S8.out hb.size)
            have X9 := Sealed.mk (X8.out.below_step hb)
            clear hb D8 Z8 Y8 O8 RB8 RT8 RL8 S8 X8
            go_wp2_with (first
                | ((with_reducible refine gate_store (p := 3) rfl ?_); refine wp_store_arr rfl _ _ _ rfl (cells := [.string s, .slice AB (8 * s.size) cB, .int .i64 P1, .slice AO nO cO, .int .i64 most, .int .i64 4]) rfl rfl D9.out info_state rfl rfl ?_; intro w10 hb10 hc10 hk10 hs10; have Z10 := Sealed.mk (Z9.out.kept hk10 (fun h => NDZ h.symm)); have Y10 := Sealed.mk (Y9.out.kept hk10 (fun h => NDY h.symm)); have O10 := Sealed.mk (owns_chg O9.out hc10 (by decide)); have RB10 := Sealed.mk (RB9.out.chg hc10 (by decide)); have RT10 := Sealed.mk (RT9.out.chg hc10 (by decide)); have RL10 := Sealed.mk (RL9.out.chg hc10 (by decide)); have S10 := Sealed.mk (Nat.le_trans S9.out hc10.size); have X10 := Sealed.mk (X9.out.one_new hc10 GD); have D10 := Sealed.mk hb10; clear hb10 hc10 hk10 hs10 Z9 Y9 O9 RB9 RT9 RL9 S9 X9 D9)
                | ((with_reducible refine gate_dst (N := 49) rfl ?_); refine wp_load_arr rfl _ _ rfl rfl D10.out Try.underlying101 rfl info_state ?_))
            refine (HBT.out _).mono ?_
            rintro e w11 ⟨rfl, hb⟩
            have D11 := Sealed.mk (D10.out.below' hb)
            have Z11 := Sealed.mk (Z10.out.below' hb)
            have Y11 := Sealed.mk (Y10.out.below' hb)
            have O11 := Sealed.mk (owns_below O10.out hb)
            have RB11 := Sealed.mk (RB10.out.below hb)
            have RT11 := Sealed.mk (RT10.out.below hb)
            have RL11 := Sealed.mk (RL10.out.below hb)
            have S11 := Sealed.mk (Nat.le_trans S10.out hb.size)
            have X11 := Sealed.mk (X10.out.below_step hb)
            clear hb D10 Z10 Y10 O10 RB10 RT10 RL10 S10 X10
            clear HBT HF4 hb0
            go_wp2_with (first
                | ((with_reducible refine gate_store (p := 3) rfl ?_); refine wp_store_arr rfl _ _ _ rfl (cells := [.string s, .slice AB (8 * s.size) cB, .int .i64 P1, .slice AO nO cO, .int .i64 most, .int .i64 4]) rfl rfl D11.out info_state rfl rfl ?_; intro w12 hb12 hc12 hk12 hs12; have Z12 := Sealed.mk (Z11.out.kept hk12 (fun h => NDZ h.symm)); have Y12 := Sealed.mk (Y11.out.kept hk12 (fun h => NDY h.symm)); have O12 := Sealed.mk (owns_chg O11.out hc12 (by decide)); have RB12 := Sealed.mk (RB11.out.chg hc12 (by decide)); have RT12 := Sealed.mk (RT11.out.chg hc12 (by decide)); have RL12 := Sealed.mk (RL11.out.chg hc12 (by decide)); have S12 := Sealed.mk (Nat.le_trans S11.out hc12.size); have X12 := Sealed.mk (X11.out.one_new hc12 GD); have D12 := Sealed.mk hb12; clear hb12 hc12 hk12 hs12 Z11 Y11 O11 RB11 RT11 RL11 S11 X11 D11)
                | ((with_reducible refine gate_dst (N := 82) rfl ?_); refine wp_load_arr rfl _ _ rfl rfl D12.out Try.underlying101 rfl info_state ?_))
            refine (rfail_tot ⟨s, AB, 8 * s.size, cB, AO, nO, cO, most⟩ P1 4 4 b4 _ (E := 4) rfl).mono ?_
            rintro e w13 ⟨rfl, hb⟩
            have D13 := Sealed.mk (D12.out.below' hb)
            have Z13 := Sealed.mk (Z12.out.below' hb)
            have Y13 := Sealed.mk (Y12.out.below' hb)
            have O13 := Sealed.mk (owns_below O12.out hb)
            have RB13 := Sealed.mk (RB12.out.below hb)
            have RT13 := Sealed.mk (RT12.out.below hb)
            have RL13 := Sealed.mk (RL12.out.below hb)
            have S13 := Sealed.mk (Nat.le_trans S12.out hb.size)
            have X13 := Sealed.mk (X12.out.below_step hb)
            clear hb D12 Z12 Y12 O12 RB12 RT12 RL12 S12 X12
            generalize hZ3 : failN b4 4 4 = Z3
            rw [← HB4.out, hZ3] at HT
            have HT2 := Sealed.mk HT
            have HZ3 := Sealed.mk hZ3
            clear HT hZ3 hb4I
            have hz : Z3 ≠ 0 := by rw [← HZ3.out]; cases b4 <;> decide
            have hne : ((Z3 : Int) == 0) = false := beq_eq_false_iff_ne.2 (by omega)
            have ht0 : decide ((0 : Int) < 3) = true := decide_eq_true (by omega)
            have HRE : Sealed (R = .error Z3) := ⟨HCO.out.symm.trans (HT2.out.1 hz)⟩
            clear HCO HT2
            go_wp2_with (first
                | ((with_reducible refine gate_store (p := 3) rfl ?_); refine wp_store_arr rfl _ _ _ rfl (cells := [.string s, .slice AB (8 * s.size) cB, .int .i64 P1, .slice AO nO cO, .int .i64 most, .int .i64 Z3]) rfl rfl D13.out info_state rfl rfl ?_; intro w14 hb14 hc14 hk14 hs14; have Z14 := Sealed.mk (Z13.out.kept hk14 (fun h => NDZ h.symm)); have Y14 := Sealed.mk (Y13.out.kept hk14 (fun h => NDY h.symm)); have O14 := Sealed.mk (owns_chg O13.out hc14 (by decide)); have RB14 := Sealed.mk (RB13.out.chg hc14 (by decide)); have RT14 := Sealed.mk (RT13.out.chg hc14 (by decide)); have RL14 := Sealed.mk (RL13.out.chg hc14 (by decide)); have S14 := Sealed.mk (Nat.le_trans S13.out hc14.size); have X14 := Sealed.mk (X13.out.one_new hc14 GD); have D14 := Sealed.mk hb14; clear hb14 hc14 hk14 hs14 Z13 Y13 O13 RB13 RT13 RL13 S13 X13 D13))
            skip
            go_loopg [10, 15] 0 (fun f s10 s15 w' => s15 = .int .i64 0 ∧ s10 = .slice A row.length cap ∧ Sealed (IsBlk w' gD [.string s, .slice AB (8 * s.size) cB, .int .i64 P1, .slice AO nO cO, .int .i64 most, .int .i64 Z3] 101) ∧ Sealed (IsBlk w' gZ zeroSt 101) ∧ Sealed (Chg w.heap.size [] w w') ∧ Sealed (C ≤ w'.heap.size) ∧ Sealed (ReadsT w' AB (sbits s (8 * s.size))) ∧ Sealed (ReadsT w' A0 tl) ∧ Sealed (ReadsT w' A2 (codesOf tl)) ∧ Sealed (w'.ownsRow C 3 1 (.slice A row.length cap) row.length (nums .i64 (castL row))))
            case atStart => exact ⟨rfl, rfl, D14, Z14, X14, S14, RB14, RT14, RL14, O14⟩
            case round =>
              clear D14 Z14 X14 S14 RB14 RT14 RL14 O14
              obtain ⟨rfl, rfl, KD, KZ, KX, KS, KRB, KRT, KRL, KO⟩ := hrel
              have y5 := KD.out.cell 5 rfl
              go_wp2
              go_roundg 0
              case measure => omega
              case rel => exact ⟨P1, Z3, A, cap, row, rfl, hrl, KD, KZ, KX, KS, KRB, KRT, KRL, KO, ⟨.inl ⟨hz, HRE.out⟩⟩⟩
          case neg =>
            have hfz : failN (decide (row.length = 0)) 0 4 = 0 := by rw [decide_eq_false hl0]; rfl
            obtain ⟨P2, Z2, t0, hb⟩ : ∃ P2 Z2 t0, (P2, Z2, t0) = bitsR s P1 0 2 := ⟨_, _, _, rfl⟩
            have hx : rowX s 16 row.length P1 0 = (P2, Z2, t0 + 3) := by unfold rowX; rw [if_pos rfl, hfz, ← hb]
            have hP2 := (rowX_bd hP1 hx).2.2
            have hT := HT.out P2 Z2 (t0 + 3) hx
            have hbv := bitsR_val (s := s) (p := P1) (code := 0) (d := 2) (by decide)
            have HBT := Sealed.mk (fun (w : World) => rbits_tot ⟨s, AB, 8 * s.size, cB, AO, nO, cO, most⟩ P1 0 2 (Nat.le_trans hs (by decide)) hP1 (by decide) w (Z := 0) (D := 2) rfl rfl)
            simp only [← hb] at hbv HBT
            obtain ⟨t, ht⟩ : ∃ t, t = t0 + 3 := ⟨_, rfl⟩
            rw [← ht] at hT
            have htI : (t0 : Int) + 3 = (t : Int) := by omega
            have ht1 : 1 ≤ t := by omega
            have htl : t ≤ 70000 := by omega
            have HTN := HT
            clear HT
            have HT := hT
            clear hT hb hx ht
            obtain ⟨wt, hwt⟩ : ∃ wt, wt = row.getD (row.length - 1) 0 := ⟨_, rfl⟩
            have hwhat : whatOf 16 row = wt := by rw [hwt]; rfl
            rw [hwhat] at HT
            have hb0 : ((row.length : Int) == 0) = false := beq_eq_false_iff_ne.2 (by omega)
            have hb1 : decide ((0 : Int) < (row.length : Int)) = true := decide_eq_true (by omega)
            have hb2 : 0 < row.length := by omega
            have HF4 := Sealed.mk (fun (w : World) => rfail_tot ⟨s, AB, 8 * s.size, cB, AO, nO, cO, most⟩ P1 0 4 false w (E := 4) rfl)
            rw [show failN false 0 4 = 0 from rfl] at HF4
            obtain ⟨g7, c8, he7⟩ := own_head2 O5.out (by omega)
            injection he7 with e1 e2 e3
            subst e1
            subst e3
            clear e2 hwhat
            have hlg : (castL row).getD (row.length - 1) 0 = (wt : Int) := by rw [hwt]; simp [castL, List.getD_eq_getElem?_getD, List.getElem?_map, List.getElem?_eq_getElem (show row.length - 1 < row.length by omega)]
            clear hwt
            obtain ⟨b4, hb4⟩ : ∃ b4, b4 = decide (many < row.length + t) := ⟨_, rfl⟩
            have hb4I : decide ((many : Int) < (row.length : Int) + (t : Int)) = b4 := by rw [hb4]; exact decide_eq_decide.2 (by omega)
            have HB4 := Sealed.mk hb4
            clear hb4
            go_wp2_with (first
                | ((with_reducible refine gate_dst (N := 11) rfl ?_); refine ev_box (cs := zeroSt) (t := 101) ?hg ?hr ?_; (case hg => rfl); (case hr => first | (go_simp; done) | (go_simp; rfl)); intro gY w6 hg6 hb6 hB6 hs6; have GY : w.heap.size ≤ gY := (by rw [hg6]; exact X5.out.size); have NDY : gD ≠ gY := (by have := D5.out.lt; omega); have NZY : gZ ≠ gY := (by have := Z5.out.lt; omega); have D6 := Sealed.mk (D5.out.below' hB6); have Z6 := Sealed.mk (Z5.out.below' hB6); have O6 := Sealed.mk (owns_below O5.out hB6); have RB6 := Sealed.mk (RB5.out.below hB6); have RT6 := Sealed.mk (RT5.out.below hB6); have RL6 := Sealed.mk (RL5.out.below hB6); have S6 := Sealed.mk (Nat.le_trans S5.out hB6.size); have X6 := Sealed.mk (X5.out.below_step hB6); have Y6 := Sealed.mk hb6; clear hg6 hb6 hB6 hs6 D5 Z5 O5 RB5 RT5 RL5 S5 X5)
                | ((with_reducible refine gate_store (p := 11) rfl ?_); refine wp_store_arr rfl _ _ _ rfl (cells := [.string s, .slice AB (8 * s.size) cB, .int .i64 P1, .slice AO nO cO, .int .i64 most, .int .i64 0]) rfl rfl Y6.out info_state rfl rfl ?_; intro w7 hb7 hc7 hk7 hs7; have D7 := Sealed.mk (D6.out.kept hk7 NDY); have Z7 := Sealed.mk (Z6.out.kept hk7 NZY); have O7 := Sealed.mk (owns_chg O6.out hc7 (by decide)); have RB7 := Sealed.mk (RB6.out.chg hc7 (by decide)); have RT7 := Sealed.mk (RT6.out.chg hc7 (by decide)); have RL7 := Sealed.mk (RL6.out.chg hc7 (by decide)); have S7 := Sealed.mk (Nat.le_trans S6.out hc7.size); have X7 := Sealed.mk (X6.out.one_new hc7 GY); have Y7 := Sealed.mk hb7; clear hb7 hc7 hk7 hs7 D6 Z6 O6 RB6 RT6 RL6 S6 X6 Y6)
                | ((with_reducible refine gate_dst (N := 38) rfl ?_); refine wp_load_arr rfl _ _ rfl rfl Y7.out Try.underlying101 rfl info_state ?_)
                | ((with_reducible refine gate_store (p := 3) rfl ?_); refine wp_store_arr rfl _ _ _ rfl (cells := [.string s, .slice AB (8 * s.size) cB, .int .i64 P1, .slice AO nO cO, .int .i64 most, .int .i64 0]) rfl rfl D7.out info_state rfl rfl ?_; intro w8 hb8 hc8 hk8 hs8; have Z8 := Sealed.mk (Z7.out.kept hk8 (fun h => NDZ h.symm)); have Y8 := Sealed.mk (Y7.out.kept hk8 (fun h => NDY h.symm)); have O8 := Sealed.mk (owns_chg O7.out hc8 (by decide)); have RB8 := Sealed.mk (RB7.out.chg hc8 (by decide)); have RT8 := Sealed.mk (RT7.out.chg hc8 (by decide)); have RL8 := Sealed.mk (RL7.out.chg hc8 (by decide)); have S8 := Sealed.mk (Nat.le_trans S7.out hc8.size); have X8 := Sealed.mk (X7.out.one_new hc8 GD); have D8 := Sealed.mk hb8; clear hb8 hc8 hk8 hs8 Z7 Y7 O7 RB7 RT7 RL7 S7 X7 D7)
                | ((with_reducible refine gate_dst (N := 43) rfl ?_); refine wp_load_arr rfl _ _ rfl rfl D8.out Try.underlying101 rfl info_state ?_))
            refine (HF4.out _).mono ?_
            rintro e w9 ⟨rfl, hb⟩
            have D9 := Sealed.mk (D8.out.below' hb)
            have Z9 := Sealed.mk (Z8.out.below' hb)
            have Y9 := Sealed.mk (Y8.out.below' hb)
            have O9 := Sealed.mk (owns_below O8.out hb)
            have RB9 := Sealed.mk (RB8.out.below hb)
            have RT9 := Sealed.mk (RT8.out.below hb)
            have RL9 := Sealed.mk (RL8.out.below hb)
            have S9 := Sealed.mk (Nat.le_trans S8.out hb.size)
            have X9 := Sealed.mk (X8.out.below_step hb)
            clear hb D8 Z8 Y8 O8 RB8 RT8 RL8 S8 X8
            go_wp2_with (first
                | ((with_reducible refine gate_store (p := 3) rfl ?_); refine wp_store_arr rfl _ _ _ rfl (cells := [.string s, .slice AB (8 * s.size) cB, .int .i64 P1, .slice AO nO cO, .int .i64 most, .int .i64 0]) rfl rfl D9.out info_state rfl rfl ?_; intro w10 hb10 hc10 hk10 hs10; have Z10 := Sealed.mk (Z9.out.kept hk10 (fun h => NDZ h.symm)); have Y10 := Sealed.mk (Y9.out.kept hk10 (fun h => NDY h.symm)); have O10 := Sealed.mk (owns_chg O9.out hc10 (by decide)); have RB10 := Sealed.mk (RB9.out.chg hc10 (by decide)); have RT10 := Sealed.mk (RT9.out.chg hc10 (by decide)); have RL10 := Sealed.mk (RL9.out.chg hc10 (by decide)); have S10 := Sealed.mk (Nat.le_trans S9.out hc10.size); have X10 := Sealed.mk (X9.out.one_new hc10 GD); have D10 := Sealed.mk hb10; clear hb10 hc10 hk10 hs10 Z9 Y9 O9 RB9 RT9 RL9 S9 X9 D9)
                | ((with_reducible refine gate_dst (N := 49) rfl ?_); refine wp_load_arr rfl _ _ rfl rfl D10.out Try.underlying101 rfl info_state ?_))
            refine (HBT.out _).mono ?_
            rintro e w11 ⟨rfl, hb⟩
            have D11 := Sealed.mk (D10.out.below' hb)
            have Z11 := Sealed.mk (Z10.out.below' hb)
            have Y11 := Sealed.mk (Y10.out.below' hb)
            have O11 := Sealed.mk (owns_below O10.out hb)
            have RB11 := Sealed.mk (RB10.out.below hb)
            have RT11 := Sealed.mk (RT10.out.below hb)
            have RL11 := Sealed.mk (RL10.out.below hb)
            have S11 := Sealed.mk (Nat.le_trans S10.out hb.size)
            have X11 := Sealed.mk (X10.out.below_step hb)
            clear hb D10 Z10 Y10 O10 RB10 RT10 RL10 S10 X10
            clear HBT HF4 hb0 HTN
            have hi1 : 0 ≤ (row.length : Int) - 1 := by omega
            have hi5 : (1 : Int) ≤ (row.length : Int) := by omega
            have hi2 : (row.length : Int) - 1 < (row.length : Int) := by omega
            have hi3 : ((row.length : Int) - 1).toNat = row.length - 1 := by omega
            have hi4 : IntKind.i64.wrap ((row.length : Int) - 1) = (row.length : Int) - 1 := by rw [IntKind.wrap_i64]; omega
            go_wp2_with (first
                | ((with_reducible refine gate_store (p := 3) rfl ?_); refine wp_store_arr rfl _ _ _ rfl (cells := [.string s, .slice AB (8 * s.size) cB, .int .i64 P2, .slice AO nO cO, .int .i64 most, .int .i64 Z2]) rfl rfl D11.out info_state rfl rfl ?_; intro w12 hb12 hc12 hk12 hs12; have Z12 := Sealed.mk (Z11.out.kept hk12 (fun h => NDZ h.symm)); have Y12 := Sealed.mk (Y11.out.kept hk12 (fun h => NDY h.symm)); have O12 := Sealed.mk (owns_chg O11.out hc12 (by decide)); have RB12 := Sealed.mk (RB11.out.chg hc12 (by decide)); have RT12 := Sealed.mk (RT11.out.chg hc12 (by decide)); have RL12 := Sealed.mk (RL11.out.chg hc12 (by decide)); have S12 := Sealed.mk (Nat.le_trans S11.out hc12.size); have X12 := Sealed.mk (X11.out.one_new hc12 GD); have D12 := Sealed.mk hb12; clear hb12 hc12 hk12 hs12 Z11 Y11 O11 RB11 RT11 RL11 S11 X11 D11; have xc := own_cell O12.out (i := row.length - 1) (by omega); rw [hlg, add_plain] at xc)
                | ((with_reducible refine gate_dst (N := 82) rfl ?_); refine wp_load_arr rfl _ _ rfl rfl D12.out Try.underlying101 rfl info_state ?_))
            refine (rfail_tot ⟨s, AB, 8 * s.size, cB, AO, nO, cO, most⟩ P2 Z2 4 b4 _ (E := 4) rfl).mono ?_
            rintro e w13 ⟨rfl, hb⟩
            have D13 := Sealed.mk (D12.out.below' hb)
            have Z13 := Sealed.mk (Z12.out.below' hb)
            have Y13 := Sealed.mk (Y12.out.below' hb)
            have O13 := Sealed.mk (owns_below O12.out hb)
            have RB13 := Sealed.mk (RB12.out.below hb)
            have RT13 := Sealed.mk (RT12.out.below hb)
            have RL13 := Sealed.mk (RL12.out.below hb)
            have S13 := Sealed.mk (Nat.le_trans S12.out hb.size)
            have X13 := Sealed.mk (X12.out.below_step hb)
            clear hb D12 Z12 Y12 O12 RB12 RT12 RL12 S12 X12
            generalize hZ3 : failN b4 Z2 4 = Z3
            rw [← HB4.out, hZ3] at HT
            have HT2 := Sealed.mk HT
            have HZ3 := Sealed.mk hZ3
            clear HT hZ3 hb4I
            by_cases hz : Z3 = 0
            case neg =>
              have hne : ((Z3 : Int) == 0) = false := beq_eq_false_iff_ne.2 (by omega)
              have ht0 : decide ((0 : Int) < (t : Int)) = true := decide_eq_true (by omega)
              have HRE : Sealed (R = .error Z3) := ⟨HCO.out.symm.trans (HT2.out.1 hz)⟩
              clear HCO HT2
              go_wp2_with (first
                  | ((with_reducible refine gate_store (p := 3) rfl ?_); refine wp_store_arr rfl _ _ _ rfl (cells := [.string s, .slice AB (8 * s.size) cB, .int .i64 P2, .slice AO nO cO, .int .i64 most, .int .i64 Z3]) rfl rfl D13.out info_state rfl rfl ?_; intro w14 hb14 hc14 hk14 hs14; have Z14 := Sealed.mk (Z13.out.kept hk14 (fun h => NDZ h.symm)); have Y14 := Sealed.mk (Y13.out.kept hk14 (fun h => NDY h.symm)); have O14 := Sealed.mk (owns_chg O13.out hc14 (by decide)); have RB14 := Sealed.mk (RB13.out.chg hc14 (by decide)); have RT14 := Sealed.mk (RT13.out.chg hc14 (by decide)); have RL14 := Sealed.mk (RL13.out.chg hc14 (by decide)); have S14 := Sealed.mk (Nat.le_trans S13.out hc14.size); have X14 := Sealed.mk (X13.out.one_new hc14 GD); have D14 := Sealed.mk hb14; clear hb14 hc14 hk14 hs14 Z13 Y13 O13 RB13 RT13 RL13 S13 X13 D13))
              skip
              go_loopg [10, 15] 0 (fun f s10 s15 w' => s15 = .int .i64 0 ∧ s10 = .slice (some ⟨g7, 0, none⟩) row.length cap ∧ Sealed (IsBlk w' gD [.string s, .slice AB (8 * s.size) cB, .int .i64 P2, .slice AO nO cO, .int .i64 most, .int .i64 Z3] 101) ∧ Sealed (IsBlk w' gZ zeroSt 101) ∧ Sealed (Chg w.heap.size [] w w') ∧ Sealed (C ≤ w'.heap.size) ∧ Sealed (ReadsT w' AB (sbits s (8 * s.size))) ∧ Sealed (ReadsT w' A0 tl) ∧ Sealed (ReadsT w' A2 (codesOf tl)) ∧ Sealed (w'.ownsRow C 3 1 (.slice (some ⟨g7, 0, none⟩) row.length cap) row.length (nums .i64 (castL row))))
              case atStart => exact ⟨rfl, rfl, D14, Z14, X14, S14, RB14, RT14, RL14, O14⟩
              case round =>
                clear D14 Z14 X14 S14 RB14 RT14 RL14 O14
                obtain ⟨rfl, rfl, KD, KZ, KX, KS, KRB, KRT, KRL, KO⟩ := hrel
                have y5 := KD.out.cell 5 rfl
                go_wp2
                go_roundg 0
                case measure => omega
                case rel => exact ⟨P2, Z3, (some ⟨g7, 0, none⟩), cap, row, rfl, hrl, KD, KZ, KX, KS, KRB, KRT, KRL, KO, ⟨.inl ⟨hz, HRE.out⟩⟩⟩
            case pos =>
              subst hz
              obtain ⟨hR1, hle⟩ := HT2.out.2 rfl
              have HCN : Sealed (rowS s tl many f P2 (row ++ List.replicate t wt) = R) := ⟨hR1.symm.trans HCO.out⟩
              clear HCO HT2 hR1
              go_wp2_with (first
                  | ((with_reducible refine gate_store (p := 3) rfl ?_); refine wp_store_arr rfl _ _ _ rfl (cells := [.string s, .slice AB (8 * s.size) cB, .int .i64 P2, .slice AO nO cO, .int .i64 most, .int .i64 0]) rfl rfl D13.out info_state rfl rfl ?_; intro w14 hb14 hc14 hk14 hs14; have Z14 := Sealed.mk (Z13.out.kept hk14 (fun h => NDZ h.symm)); have Y14 := Sealed.mk (Y13.out.kept hk14 (fun h => NDY h.symm)); have O14 := Sealed.mk (owns_chg O13.out hc14 (by decide)); have RB14 := Sealed.mk (RB13.out.chg hc14 (by decide)); have RT14 := Sealed.mk (RT13.out.chg hc14 (by decide)); have RL14 := Sealed.mk (RL13.out.chg hc14 (by decide)); have S14 := Sealed.mk (Nat.le_trans S13.out hc14.size); have X14 := Sealed.mk (X13.out.one_new hc14 GD); have D14 := Sealed.mk hb14; clear hb14 hc14 hk14 hs14 Z13 Y13 O13 RB13 RT13 RL13 S13 X13 D13))
              go_loopg [10, 15] t (fun f s10 s15 w' => ∃ (j : Nat) (A5 : Option Addr) (c5 : Nat), s15 = .int .i64 j ∧ j ≤ t ∧ Sealed (f = t - j) ∧ s10 = .slice A5 (row.length + j) c5 ∧ Sealed (IsBlk w' gD [.string s, .slice AB (8 * s.size) cB, .int .i64 P2, .slice AO nO cO, .int .i64 most, .int .i64 0] 101) ∧ Sealed (IsBlk w' gZ zeroSt 101) ∧ Sealed (Chg w.heap.size [] w w') ∧ Sealed (C ≤ w'.heap.size) ∧ Sealed (ReadsT w' AB (sbits s (8 * s.size))) ∧ Sealed (ReadsT w' A0 tl) ∧ Sealed (ReadsT w' A2 (codesOf tl)) ∧ Sealed (w'.ownsRow C 3 1 (.slice A5 (row.length + j) c5) (row.length + j) (nums .i64 (castL (row ++ List.replicate j wt)))))
              case atStart => exact ⟨0, (some ⟨g7, 0, none⟩), cap, rfl, Nat.zero_le _, ⟨rfl⟩, rfl, D14, Z14, X14, S14, RB14, RT14, RL14, ⟨by rw [List.replicate_zero, List.append_nil]; exact O14.out⟩⟩
              case round =>
                clear D14 Z14 X14 S14 RB14 RT14 RL14 O14
                obtain ⟨j, A5, c5, rfl, hj, HJ, rfl, KD, KZ, KX, KS, KRB, KRT, KRL, KO⟩ := hrel
                have y5 := KD.out.cell 5 rfl
                by_cases hjt : j < t
                · have hjd : decide ((j : Int) < (t : Int)) = true := decide_eq_true (by omega)
                  have HSZ := KS
                  go_wp2_with (first
                      | ((with_reducible refine gate_dst (N := 103) rfl ?_); refine wp_app1 C rfl (.tmp 100) (.tmp 102) 22 3 (.int .i64 0) 8 rfl Try.underlying22 info_i64 rfl (by decide) _ (row.length + j) _ (.int .i64 (wt : Int)) rfl rfl rfl KO.out HSZ.out (by omega) ?_; intro v3 w15 ho3 hg3; obtain ⟨A6, c6, rfl⟩ := own_slice ho3; have hcg : Chg C [3] wr w15 := (Chg.refl C _ _).grown KO.out (Nat.le_refl _) (by simp) hg3; have D15 := Sealed.mk (KD.out.chg hcg (.inr (by decide))); have Z15 := Sealed.mk (KZ.out.chg hcg (.inr (by decide))); have RB15 := Sealed.mk (KRB.out.grown KO.out HLRB.out hg3); have RT15 := Sealed.mk (KRT.out.grown KO.out HLRT.out hg3); have RL15 := Sealed.mk (KRL.out.grown KO.out HLRL.out hg3); have X15 := Sealed.mk (KX.out.grown_new hg3 (fun k hk => Nat.le_trans HC0.out (own_ge KO.out k hk))); have S15 := Sealed.mk (Nat.le_trans KS.out hg3.size); have O15 : Sealed (w15.ownsRow C 3 1 (.slice A6 (row.length + (j + 1)) c6) (row.length + (j + 1)) (nums .i64 (castL (row ++ List.replicate (j + 1) wt)))) := ⟨by rw [List.replicate_succ', ← List.append_assoc, castL_snoc', nums_snoc]; exact ho3⟩; clear ho3 hg3 hcg))
                  go_roundg (t - (j + 1))
                  case measure => have := HJ.out; omega
                  case rel => exact ⟨j + 1, A6, c6, by go_num, hjt, ⟨rfl⟩, rfl, D15, Z15, X15, S15, RB15, RT15, RL15, O15⟩
                · obtain hjt2 : j = t := by omega
                  have hjd : decide ((j : Int) < (t : Int)) = false := decide_eq_false (by omega)
                  clear hjt
                  go_wp2
                  go_roundg f
                  case measure => omega
                  case rel =>
                    have hl : (row ++ List.replicate j wt).length = row.length + j := by simp
                    refine ⟨P2, 0, A5, c5, row ++ List.replicate j wt, by rw [hl], by omega, KD, KZ, KX, KS, KRB, KRT, KRL, ⟨by rw [hl]; exact KO.out⟩, ⟨.inr ⟨rfl, P2, rfl, hP2, by rw [hl]; have := HPK.out; omega, by rw [hjt2]; exact HCN.out⟩⟩⟩
        case neg =>
          have hx : rowX s n row.length P1 Z1 = (P1, Z1, 1) := by unfold rowX; rw [if_neg hn16, if_neg hn17, if_neg hn18]
          have hwhat : whatOf n row = n := by unfold whatOf; rw [if_neg hn16, if_neg hn17, if_neg hn18]
          have HTN := HT
          clear HT
          have HT := HTN.out P1 Z1 1 hx
          rw [hwhat] at HT
          have hb16 : ((n : Int) == 16) = false := beq_eq_false_iff_ne.2 (by omega)
          have hb17 : ((n : Int) == 17) = false := beq_eq_false_iff_ne.2 (by omega)
          have hb18 : ((n : Int) == 18) = false := beq_eq_false_iff_ne.2 (by omega)
          clear hx hwhat HTN
          obtain ⟨b4, hb4⟩ : ∃ b4, b4 = decide (many < row.length + 1) := ⟨_, rfl⟩
          have hb4I : decide ((many : Int) < (row.length : Int) + 1) = b4 := by rw [hb4]; exact decide_eq_decide.2 (by omega)
          have HB4 := Sealed.mk hb4
          clear hb4
          go_wp2_with (first
              | ((with_reducible refine gate_dst (N := 11) rfl ?_); refine ev_box (cs := zeroSt) (t := 101) ?hg ?hr ?_; (case hg => rfl); (case hr => first | (go_simp; done) | (go_simp; rfl)); intro gY w6 hg6 hb6 hB6 hs6; have GY : w.heap.size ≤ gY := (by rw [hg6]; exact X5.out.size); have NDY : gD ≠ gY := (by have := D5.out.lt; omega); have NZY : gZ ≠ gY := (by have := Z5.out.lt; omega); have D6 := Sealed.mk (D5.out.below' hB6); have Z6 := Sealed.mk (Z5.out.below' hB6); have O6 := Sealed.mk (owns_below O5.out hB6); have RB6 := Sealed.mk (RB5.out.below hB6); have RT6 := Sealed.mk (RT5.out.below hB6); have RL6 := Sealed.mk (RL5.out.below hB6); have S6 := Sealed.mk (Nat.le_trans S5.out hB6.size); have X6 := Sealed.mk (X5.out.below_step hB6); have Y6 := Sealed.mk hb6; clear hg6 hb6 hB6 hs6 D5 Z5 O5 RB5 RT5 RL5 S5 X5)
              | ((with_reducible refine gate_store (p := 11) rfl ?_); refine wp_store_arr rfl _ _ _ rfl (cells := [.string s, .slice AB (8 * s.size) cB, .int .i64 P1, .slice AO nO cO, .int .i64 most, .int .i64 Z1]) rfl rfl Y6.out info_state rfl rfl ?_; intro w7 hb7 hc7 hk7 hs7; have D7 := Sealed.mk (D6.out.kept hk7 NDY); have Z7 := Sealed.mk (Z6.out.kept hk7 NZY); have O7 := Sealed.mk (owns_chg O6.out hc7 (by decide)); have RB7 := Sealed.mk (RB6.out.chg hc7 (by decide)); have RT7 := Sealed.mk (RT6.out.chg hc7 (by decide)); have RL7 := Sealed.mk (RL6.out.chg hc7 (by decide)); have S7 := Sealed.mk (Nat.le_trans S6.out hc7.size); have X7 := Sealed.mk (X6.out.one_new hc7 GY); have Y7 := Sealed.mk hb7; clear hb7 hc7 hk7 hs7 D6 Z6 O6 RB6 RT6 RL6 S6 X6 Y6)
              | ((with_reducible refine gate_dst (N := 38) rfl ?_); refine wp_load_arr rfl _ _ rfl rfl Y7.out Try.underlying101 rfl info_state ?_)
              | ((with_reducible refine gate_store (p := 3) rfl ?_); refine wp_store_arr rfl _ _ _ rfl (cells := [.string s, .slice AB (8 * s.size) cB, .int .i64 P1, .slice AO nO cO, .int .i64 most, .int .i64 Z1]) rfl rfl D7.out info_state rfl rfl ?_; intro w8 hb8 hc8 hk8 hs8; have Z8 := Sealed.mk (Z7.out.kept hk8 (fun h => NDZ h.symm)); have Y8 := Sealed.mk (Y7.out.kept hk8 (fun h => NDY h.symm)); have O8 := Sealed.mk (owns_chg O7.out hc8 (by decide)); have RB8 := Sealed.mk (RB7.out.chg hc8 (by decide)); have RT8 := Sealed.mk (RT7.out.chg hc8 (by decide)); have RL8 := Sealed.mk (RL7.out.chg hc8 (by decide)); have S8 := Sealed.mk (Nat.le_trans S7.out hc8.size); have X8 := Sealed.mk (X7.out.one_new hc8 GD); have D8 := Sealed.mk hb8; clear hb8 hc8 hk8 hs8 Z7 Y7 O7 RB7 RT7 RL7 S7 X7 D7)
              | ((with_reducible refine gate_dst (N := 82) rfl ?_); refine wp_load_arr rfl _ _ rfl rfl D8.out Try.underlying101 rfl info_state ?_))
          refine (rfail_tot ⟨s, AB, 8 * s.size, cB, AO, nO, cO, most⟩ P1 Z1 4 b4 _ (E := 4) rfl).mono ?_
          rintro e w9 ⟨rfl, hb⟩
          have D9 := Sealed.mk (D8.out.below' hb)
          have Z9 := Sealed.mk (Z8.out.below' hb)
          have Y9 := Sealed.mk (Y8.out.below' hb)
          have O9 := Sealed.mk (owns_below O8.out hb)
          have RB9 := Sealed.mk (RB8.out.below hb)
          have RT9 := Sealed.mk (RT8.out.below hb)
          have RL9 := Sealed.mk (RL8.out.below hb)
          have S9 := Sealed.mk (Nat.le_trans S8.out hb.size)
          have X9 := Sealed.mk (X8.out.below_step hb)
          clear hb D8 Z8 Y8 O8 RB8 RT8 RL8 S8 X8
          generalize hZ3 : failN b4 Z1 4 = Z3
          rw [← HB4.out, hZ3] at HT
          have HT2 := Sealed.mk HT
          have HZ3 := Sealed.mk hZ3
          clear HT hZ3 hb4I
          by_cases hz : Z3 = 0
          case neg =>
            have hne : ((Z3 : Int) == 0) = false := beq_eq_false_iff_ne.2 (by omega)
            have ht0 : decide ((0 : Int) < 1) = true := decide_eq_true (by omega)
            have HRE : Sealed (R = .error Z3) := ⟨HCO.out.symm.trans (HT2.out.1 hz)⟩
            clear HCO HT2
            go_wp2_with (first
                | ((with_reducible refine gate_store (p := 3) rfl ?_); refine wp_store_arr rfl _ _ _ rfl (cells := [.string s, .slice AB (8 * s.size) cB, .int .i64 P1, .slice AO nO cO, .int .i64 most, .int .i64 Z3]) rfl rfl D9.out info_state rfl rfl ?_; intro w10 hb10 hc10 hk10 hs10; have Z10 := Sealed.mk (Z9.out.kept hk10 (fun h => NDZ h.symm)); have Y10 := Sealed.mk (Y9.out.kept hk10 (fun h => NDY h.symm)); have O10 := Sealed.mk (owns_chg O9.out hc10 (by decide)); have RB10 := Sealed.mk (RB9.out.chg hc10 (by decide)); have RT10 := Sealed.mk (RT9.out.chg hc10 (by decide)); have RL10 := Sealed.mk (RL9.out.chg hc10 (by decide)); have S10 := Sealed.mk (Nat.le_trans S9.out hc10.size); have X10 := Sealed.mk (X9.out.one_new hc10 GD); have D10 := Sealed.mk hb10; clear hb10 hc10 hk10 hs10 Z9 Y9 O9 RB9 RT9 RL9 S9 X9 D9))
            skip
            go_loopg [10, 15] 0 (fun f s10 s15 w' => s15 = .int .i64 0 ∧ s10 = .slice A row.length cap ∧ Sealed (IsBlk w' gD [.string s, .slice AB (8 * s.size) cB, .int .i64 P1, .slice AO nO cO, .int .i64 most, .int .i64 Z3] 101) ∧ Sealed (IsBlk w' gZ zeroSt 101) ∧ Sealed (Chg w.heap.size [] w w') ∧ Sealed (C ≤ w'.heap.size) ∧ Sealed (ReadsT w' AB (sbits s (8 * s.size))) ∧ Sealed (ReadsT w' A0 tl) ∧ Sealed (ReadsT w' A2 (codesOf tl)) ∧ Sealed (w'.ownsRow C 3 1 (.slice A row.length cap) row.length (nums .i64 (castL row))))
            case atStart => exact ⟨rfl, rfl, D10, Z10, X10, S10, RB10, RT10, RL10, O10⟩
            case round =>
              clear D10 Z10 X10 S10 RB10 RT10 RL10 O10
              obtain ⟨rfl, rfl, KD, KZ, KX, KS, KRB, KRT, KRL, KO⟩ := hrel
              have y5 := KD.out.cell 5 rfl
              go_wp2
              go_roundg 0
              case measure => omega
              case rel => exact ⟨P1, Z3, A, cap, row, rfl, hrl, KD, KZ, KX, KS, KRB, KRT, KRL, KO, ⟨.inl ⟨hz, HRE.out⟩⟩⟩
          case pos =>
            subst hz
            obtain ⟨hR1, hle⟩ := HT2.out.2 rfl
            have HCN : Sealed (rowS s tl many f P1 (row ++ List.replicate 1 n) = R) := ⟨hR1.symm.trans HCO.out⟩
            clear HCO HT2 hR1
            go_wp2_with (first
                | ((with_reducible refine gate_store (p := 3) rfl ?_); refine wp_store_arr rfl _ _ _ rfl (cells := [.string s, .slice AB (8 * s.size) cB, .int .i64 P1, .slice AO nO cO, .int .i64 most, .int .i64 0]) rfl rfl D9.out info_state rfl rfl ?_; intro w10 hb10 hc10 hk10 hs10; have Z10 := Sealed.mk (Z9.out.kept hk10 (fun h => NDZ h.symm)); have Y10 := Sealed.mk (Y9.out.kept hk10 (fun h => NDY h.symm)); have O10 := Sealed.mk (owns_chg O9.out hc10 (by decide)); have RB10 := Sealed.mk (RB9.out.chg hc10 (by decide)); have RT10 := Sealed.mk (RT9.out.chg hc10 (by decide)); have RL10 := Sealed.mk (RL9.out.chg hc10 (by decide)); have S10 := Sealed.mk (Nat.le_trans S9.out hc10.size); have X10 := Sealed.mk (X9.out.one_new hc10 GD); have D10 := Sealed.mk hb10; clear hb10 hc10 hk10 hs10 Z9 Y9 O9 RB9 RT9 RL9 S9 X9 D9))
            go_loopg [10, 15] 1 (fun f s10 s15 w' => ∃ (j : Nat) (A5 : Option Addr) (c5 : Nat), s15 = .int .i64 j ∧ j ≤ 1 ∧ Sealed (f = 1 - j) ∧ s10 = .slice A5 (row.length + j) c5 ∧ Sealed (IsBlk w' gD [.string s, .slice AB (8 * s.size) cB, .int .i64 P1, .slice AO nO cO, .int .i64 most, .int .i64 0] 101) ∧ Sealed (IsBlk w' gZ zeroSt 101) ∧ Sealed (Chg w.heap.size [] w w') ∧ Sealed (C ≤ w'.heap.size) ∧ Sealed (ReadsT w' AB (sbits s (8 * s.size))) ∧ Sealed (ReadsT w' A0 tl) ∧ Sealed (ReadsT w' A2 (codesOf tl)) ∧ Sealed (w'.ownsRow C 3 1 (.slice A5 (row.length + j) c5) (row.length + j) (nums .i64 (castL (row ++ List.replicate j n)))))
            case atStart => exact ⟨0, A, cap, rfl, Nat.zero_le _, ⟨rfl⟩, rfl, D10, Z10, X10, S10, RB10, RT10, RL10, ⟨by rw [List.replicate_zero, List.append_nil]; exact O10.out⟩⟩
            case round =>
              clear D10 Z10 X10 S10 RB10 RT10 RL10 O10
              obtain ⟨j, A5, c5, rfl, hj, HJ, rfl, KD, KZ, KX, KS, KRB, KRT, KRL, KO⟩ := hrel
              have y5 := KD.out.cell 5 rfl
              by_cases hjt : j < 1
              · have hjd : decide ((j : Int) < 1) = true := decide_eq_true (by omega)
                have HSZ := KS
                go_wp2_with (first
                    | ((with_reducible refine gate_dst (N := 103) rfl ?_); refine wp_app1 C rfl (.tmp 100) (.tmp 102) 22 3 (.int .i64 0) 8 rfl Try.underlying22 info_i64 rfl (by decide) _ (row.length + j) _ (.int .i64 (n : Int)) rfl rfl rfl KO.out HSZ.out (by omega) ?_; intro v3 w11 ho3 hg3; obtain ⟨A6, c6, rfl⟩ := own_slice ho3; have hcg : Chg C [3] wr w11 := (Chg.refl C _ _).grown KO.out (Nat.le_refl _) (by simp) hg3; have D11 := Sealed.mk (KD.out.chg hcg (.inr (by decide))); have Z11 := Sealed.mk (KZ.out.chg hcg (.inr (by decide))); have RB11 := Sealed.mk (KRB.out.grown KO.out HLRB.out hg3); have RT11 := Sealed.mk (KRT.out.grown KO.out HLRT.out hg3); have RL11 := Sealed.mk (KRL.out.grown KO.out HLRL.out hg3); have X11 := Sealed.mk (KX.out.grown_new hg3 (fun k hk => Nat.le_trans HC0.out (own_ge KO.out k hk))); have S11 := Sealed.mk (Nat.le_trans KS.out hg3.size); have O11 : Sealed (w11.ownsRow C 3 1 (.slice A6 (row.length + (j + 1)) c6) (row.length + (j + 1)) (nums .i64 (castL (row ++ List.replicate (j + 1) n)))) := ⟨by rw [List.replicate_succ', ← List.append_assoc, castL_snoc', nums_snoc]; exact ho3⟩; clear ho3 hg3 hcg))
                go_roundg (1 - (j + 1))
                case measure => have := HJ.out; omega
                case rel => exact ⟨j + 1, A6, c6, by go_num, hjt, ⟨rfl⟩, rfl, D11, Z11, X11, S11, RB11, RT11, RL11, O11⟩
              · obtain hjt2 : j = 1 := by omega
                have hjd : decide ((j : Int) < 1) = false := decide_eq_false (by omega)
                clear hjt
                go_wp2
                go_roundg f
                case measure => omega
                case rel =>
                  have hl : (row ++ List.replicate j n).length = row.length + j := by simp
                  refine ⟨P1, 0, A5, c5, row ++ List.replicate j n, by rw [hl], by omega, KD, KZ, KX, KS, KRB, KRT, KRL, ⟨by rw [hl]; exact KO.out⟩, ⟨.inr ⟨rfl, P1, rfl, hP1, by rw [hl]; have := HPK.out; omega, by rw [hjt2]; exact HCN.out⟩⟩⟩
end Go.Proofs.Ytmdlhbhdlhjakaa
