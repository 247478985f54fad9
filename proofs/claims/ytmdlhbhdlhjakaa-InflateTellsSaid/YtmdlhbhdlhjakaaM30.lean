/- The contract of package inflate's inflater: block. -/
import Derived.Test.YtmdlhbhdlhjakaaM29
set_option linter.unusedVariables false
set_option linter.unusedSimpArgs false
namespace Go.Proofs.Ytmdlhbhdlhjakaa
open Go.RowKit

/-! ### every error is one -/
section
variable {s : ByteArray} {most : Nat}
theorem roundS_bad7 {nl fl : List Int} {p e : Nat} {o : List Nat} (h : roundS s most nl fl p o = .err e) : 1 ≤ e := by
  unfold roundS at h
  cases h1 : symS s nl p with
  | error e1 => rw [h1] at h; injection h with h; have := symS_err h1; omega
  | ok r =>
    obtain ⟨n, p1⟩ := r
    rw [h1] at h
    simp only at h
    split at h
    · cases h
    · split at h
      · injection h with h; omega
      · split at h
        · cases h2 : repeatS s most fl (n - 257) p1 o with
          | error e2 => rw [h2] at h; injection h with h; have := repeatS_err h2; omega
          | ok r => rw [h2] at h; cases h
        · split at h
          · injection h with h; omega
          · cases h
theorem codedS_bad {nl fl : List Int} : ∀ {k p e : Nat} {o : List Nat}, codedS s most nl fl k p o = .error e → 1 ≤ e
  | 0, p, e, o, h => by rw [codedS] at h; injection h with h; omega
  | k + 1, p, e, o, h => by
    rw [codedS] at h
    cases h1 : roundS s most nl fl p o with
    | err e1 => rw [h1] at h; injection h with h; have := roundS_bad7 h1; omega
    | fin o1 q => rw [h1] at h; cases h
    | go o1 q => rw [h1] at h; exact codedS_bad h
theorem storedS_bad {p e : Nat} {o : List Nat} (h : storedS s most p o = .error e) : 1 ≤ e := by
  unfold storedS at h
  cases h1 : getS s (8 * ((p + 7) / 8)) 16 with
  | error e1 => rw [h1] at h; injection h with h; have := getS_err h1; omega
  | ok r =>
    obtain ⟨n, p1⟩ := r
    rw [h1] at h
    simp only at h
    cases h2 : getS s p1 16 with
    | error e1 => rw [h2] at h; injection h with h; have := getS_err h2; omega
    | ok r =>
      obtain ⟨m, p2⟩ := r
      rw [h2] at h
      simp only at h
      split at h
      · injection h with h; omega
      · split at h
        · injection h with h; omega
        · split at h
          · injection h with h; omega
          · cases h
theorem headFrom_bad : ∀ {k i p e : Nat} {l : List Int}, headFrom s k i p l = .error e → 1 ≤ e
  | 0, i, p, e, l, h => by rw [headFrom] at h; cases h
  | k + 1, i, p, e, l, h => by
    rw [headFrom] at h
    cases h1 : getS s p 3 with
    | error e1 => rw [h1] at h; injection h with h; have := getS_err h1; omega
    | ok r => rw [h1] at h; exact headFrom_bad h
theorem headsS_bad {many p e : Nat} (h : headsS s many p = .error e) : 1 ≤ e := by
  unfold headsS at h
  cases h1 : headFrom s many 0 p (List.replicate 19 0) with
  | error e1 => rw [h1] at h; injection h with h; have := headFrom_bad h1; omega
  | ok r =>
    rw [h1] at h
    simp only at h
    split at h
    · injection h with h; omega
    · cases h
theorem rowS_bad {tl : List Int} {many : Nat} : ∀ {k p e : Nat} {r : List Nat}, rowS s tl many k p r = .error e → 1 ≤ e
  | 0, p, e, r, h => by rw [rowS] at h; injection h with h; omega
  | k + 1, p, e, r, h => by
    rw [rowS] at h
    split at h
    · cases h
    · cases h1 : symS s tl p with
      | error e1 => rw [h1] at h; injection h with h; have := symS_err h1; omega
      | ok x =>
        obtain ⟨n, p1⟩ := x
        rw [h1] at h
        simp only at h
        split at h
        · injection h with h; omega
        · cases h2 : toldS s (spanOf n) p1 with
          | error e1 => rw [h2] at h; injection h with h; have := toldS_err h2; omega
          | ok x =>
            obtain ⟨t, p2⟩ := x
            rw [h2] at h
            simp only at h
            split at h
            · injection h with h; omega
            · exact rowS_bad h
theorem ownS_bad {p e : Nat} {o : List Nat} (h : ownS s most p o = .error e) : 1 ≤ e := by
  unfold ownS at h
  cases h1 : getS s p 5 with
  | error e1 => rw [h1] at h; injection h with h; have := getS_err h1; omega
  | ok r =>
    obtain ⟨a, p1⟩ := r
    rw [h1] at h
    simp only at h
    cases h2 : getS s p1 5 with
    | error e1 => rw [h2] at h; injection h with h; have := getS_err h2; omega
    | ok r =>
      obtain ⟨b, p2⟩ := r
      rw [h2] at h
      simp only at h
      cases h3 : getS s p2 4 with
      | error e1 => rw [h3] at h; injection h with h; have := getS_err h3; omega
      | ok r =>
        obtain ⟨c, p3⟩ := r
        rw [h3] at h
        simp only at h
        split at h
        · injection h with h; omega
        · cases h4 : headsS s (c + 4) p3 with
          | error e1 => rw [h4] at h; injection h with h; have := headsS_bad h4; omega
          | ok r =>
            obtain ⟨tl, p4⟩ := r
            rw [h4] at h
            simp only at h
            cases h5 : rowS s tl (a + 257 + (b + 1)) (a + 257 + (b + 1) + 1) p4 [] with
            | error e1 => rw [h5] at h; injection h with h; have := rowS_bad h5; omega
            | ok r =>
              obtain ⟨row, p5⟩ := r
              rw [h5] at h
              simp only at h
              split at h
              · injection h with h; omega
              · exact codedS_bad h
theorem kindS_bad {kind p e : Nat} {o : List Nat} (h : kindS s most kind p o = .error e) : 1 ≤ e := by
  unfold kindS at h
  split at h
  · exact storedS_bad h
  · split at h
    · exact codedS_bad h
    · split at h
      · exact ownS_bad h
      · injection h with h; omega
end
/-! ### one block -/
def stepS (s : ByteArray) (most p : Nat) (o : List Nat) : Except Nat (Bool × List Nat × Nat) :=
  match getS s p 1 with
  | .error e => .error e
  | .ok (last, p1) => match getS s p1 2 with
    | .error e => .error e
    | .ok (kind, p2) => match kindS s most kind p2 o with
      | .error e => .error e
      | .ok (o', q) => .ok (((last : Int) == 1), o', q)
section
variable {s : ByteArray} {most p q last p1 kind p2 e : Nat} {o o' : List Nat}
theorem stepS_e1 (h1 : getS s p 1 = .error e) : stepS s most p o = .error e := by unfold stepS; rw [h1]
theorem stepS_e2 (h1 : getS s p 1 = .ok (last, p1)) (h2 : getS s p1 2 = .error e) : stepS s most p o = .error e := by unfold stepS; rw [h1]; simp only; rw [h2]
theorem stepS_e3 (h1 : getS s p 1 = .ok (last, p1)) (h2 : getS s p1 2 = .ok (kind, p2)) (h3 : kindS s most kind p2 o = .error e) : stepS s most p o = .error e := by unfold stepS; rw [h1]; simp only; rw [h2]; simp only; rw [h3]
theorem stepS_ok (h1 : getS s p 1 = .ok (last, p1)) (h2 : getS s p1 2 = .ok (kind, p2)) (h3 : kindS s most kind p2 o = .ok (o', q)) : stepS s most p o = .ok (((last : Int) == 1), o', q) := by unfold stepS; rw [h1]; simp only; rw [h2]; simp only; rw [h3]
end
theorem inflS_succ (s : ByteArray) (most k p : Nat) (o : List Nat) : inflS s most (k + 1) p o = match stepS s most p o with
    | .error e => .error e
    | .ok (l, o', q) => if l = true then .ok (o', (q + 7) / 8) else inflS s most k q o' := by
  rw [inflS]
  unfold stepS
  cases h1 : getS s p 1 with
  | error e1 => rfl
  | ok r =>
    obtain ⟨last, p1⟩ := r
    simp only
    cases h2 : getS s p1 2 with
    | error e1 => rfl
    | ok r =>
      obtain ⟨kind, p2⟩ := r
      simp only
      cases h3 : kindS s most kind p2 o with
      | error e1 => rfl
      | ok r =>
        obtain ⟨o', q⟩ := r
        simp only
        by_cases hl : last = 1
        · rw [if_pos hl, if_pos (by rw [hl]; rfl)]
        · rw [if_neg hl, if_neg (by simp; omega)]
def BlockPost (B : Nat) (gx gr : Nat) (s : ByteArray) (most : Nat) (R : Except Nat (Bool × List Nat × Nat)) (w : World) (e : Ending) (w' : World) : Prop :=
  InfChg B w w' ∧ match R with
  | .error er => (∃ b, e = .returned (.tuple #[.bool b, .int .i64 er])) ∧ 1 ≤ er
  | .ok (l, o', q) => e = .returned (.tuple #[.bool l, .int .i64 0]) ∧ InfSt B w' gx gr s most q o'
theorem block_end {B : Nat} {gx gr : Nat} {s : ByteArray} {most p last p1 kind p2 : Nat} {o : List Nat} {w w6 w7 : World} (h1 : getS s p 1 = .ok (last, p1)) (h2 : getS s p1 2 = .ok (kind, p2)) (hc : InfChg B w w7)
    (hi : ∀ o' q, kindS s most kind p2 o = .ok (o', q) → InfSt B w7 gx gr s most q o') :
    BlockPost B gx gr s most (stepS s most p o) w (.returned (.tuple #[.bool ((last : Int) == 1), .int .i64 (errOf (kindS s most kind p2 o))])) w7 := by
  refine ⟨hc, ?_⟩
  cases h3 : kindS s most kind p2 o with
  | error e => rw [stepS_e3 h1 h2 h3]; exact ⟨⟨_, rfl⟩, kindS_bad h3⟩
  | ok r =>
    obtain ⟨o', q⟩ := r
    rw [stepS_ok h1 h2 h3]
    exact ⟨rfl, hi o' q h3⟩

set_option maxRecDepth 100000 in
set_option maxHeartbeats 2000000 in
theorem iblock_ok {B : Nat} {w : World} {gx gr : Nat} {s : ByteArray} {most p : Nat} {o : List Nat} (h : InfSt B w gx gr s most p o) (hs : s.size ≤ 1000000000) (hm : most ≤ 100000000) (ho : o.length ≤ most) :
    Calls Try.prog 62 #[.pointer (some ⟨gx, 0, none⟩)] w (BlockPost B gx gr s most (stepS s most p o) w) := by
  have H := Sealed.mk h
  have HS : Sealed (s.size ≤ 140737488355328) := ⟨by omega⟩
  obtain ⟨A0, c0, hb0, _⟩ := h.parts
  have x0 := hb0.cell 0 rfl
  clear h hb0
  go_enter Try.func62, Try.ntmps62
  go_wp2_with fail
  refine (get_any H.out.rd HS.out 1 (by omega)).mono ?_
  rintro e w2 ⟨rfl, hc, hr⟩
  have H2 := Sealed.mk (H.out.read hr hc)
  have C2 : Sealed (InfChg B w w2) := ⟨hc.mono H.out.2.1 (by simp)⟩
  clear hc hr H x0
  cases h1 : getS s p 1 with
  | error e1 =>
    obtain rfl := getS_err h1
    have HH := Sealed.mk h1
    simp only [valOf, errOf]
    clear h1
    go_wp2
    go_ret2
    rw [stepS_e1 HH.out]
    exact ⟨C2.out, ⟨_, rfl⟩, by omega⟩
  | ok r1 =>
    obtain ⟨last, p1⟩ := r1
    rw [h1] at H2
    have HH1 := Sealed.mk h1
    simp only [valOf, errOf, posOf] at H2 ⊢
    clear h1
    obtain ⟨A2, c2, hb2, _⟩ := H2.out.parts
    have x2 := hb2.cell 0 rfl
    clear hb2
    go_wp2_with fail
    refine (get_any H2.out.rd HS.out 2 (by omega)).mono ?_
    rintro e w3 ⟨rfl, hc, hr⟩
    have H3 := Sealed.mk (H2.out.read hr hc)
    have C3 : Sealed (InfChg B w w3) := ⟨C2.out.trans (hc.mono H2.out.2.1 (by simp))⟩
    clear hc hr H2 C2 x2
    cases h2 : getS s p1 2 with
    | error e2 =>
      obtain rfl := getS_err h2
      have HH2 := Sealed.mk h2
      simp only [valOf, errOf]
      clear h2
      go_wp2
      go_ret2
      rw [stepS_e2 HH1.out HH2.out]
      exact ⟨C3.out, ⟨_, rfl⟩, by omega⟩
    | ok r2 =>
      obtain ⟨kind, p2⟩ := r2
      rw [h2] at H3
      have HH2 := Sealed.mk h2
      have hk : kind < 4 := by have := (getS_ok h2).2.2; have := val_lt (bit_le s) p1 2; omega
      simp only [valOf, errOf, posOf] at H3 ⊢
      clear h2
      by_cases k0 : kind = 0
      · subst k0
        have HC := Sealed.mk (istored_ok H3.out hs hm ho)
        have HK : Sealed (kindS s most 0 p2 o = storedS s most p2 o) := ⟨rfl⟩
        rw [← HK.out] at HC
        clear hk
        go_wp2_with fail
        refine HC.out.mono ?_
        rintro e w4 ⟨rfl, hc, hi⟩
        have HE := Sealed.mk (block_end (w6 := w3) HH1.out HH2.out (C3.out.trans hc) hi)
        generalize errOf (kindS s most 0 p2 o) = er at *
        clear hc hi HC
        go_wp2
        go_ret2
        exact HE.out
      · by_cases k1 : kind = 1
        · subst k1
          have HC := Sealed.mk (ifixed_ok H3.out hs hm ho)
          have HK : Sealed (kindS s most 1 p2 o = codedS s most litL distL (8 * s.size + 1) p2 o) := ⟨by unfold kindS; rw [if_neg (by omega), if_pos rfl]⟩
          rw [← HK.out] at HC
          clear hk k0
          go_wp2_with fail
          refine HC.out.mono ?_
          rintro e w4 ⟨rfl, hc, hi⟩
          have HE := Sealed.mk (block_end (w6 := w3) HH1.out HH2.out (C3.out.trans hc) hi)
          generalize errOf (kindS s most 1 p2 o) = er at *
          clear hc hi HC HK
          go_wp2
          go_ret2
          exact HE.out
        · by_cases k2 : kind = 2
          · subst k2
            have HC := Sealed.mk (iown_ok H3.out hs hm ho)
            have HK : Sealed (kindS s most 2 p2 o = ownS s most p2 o) := ⟨by unfold kindS; rw [if_neg (by omega), if_neg (by omega), if_pos rfl]⟩
            rw [← HK.out] at HC
            clear hk k0 k1
            go_wp2_with fail
            refine HC.out.mono ?_
            rintro e w4 ⟨rfl, hc, hi⟩
            have HE := Sealed.mk (block_end (w6 := w3) HH1.out HH2.out (C3.out.trans hc) hi)
            generalize errOf (kindS s most 2 p2 o) = er at *
            clear hc hi HC HK
            go_wp2
            go_ret2
            exact HE.out
          · obtain rfl : kind = 3 := by omega
            have HK : Sealed (kindS s most 3 p2 o = .error 4) := ⟨by unfold kindS; rw [if_neg (by omega), if_neg (by omega), if_neg (by omega)]⟩
            clear hk k0 k1 k2
            go_wp2
            go_ret2
            have HE := block_end (w6 := w3) HH1.out HH2.out C3.out (most := most) (o := o) (gx := gx) (gr := gr) (fun o' q h => by rw [HK.out] at h; cases h)
            rw [HK.out] at HE
            exact HE
end Go.Proofs.Ytmdlhbhdlhjakaa
