/- Plain: what deflated bytes tell hangs on what was read alone. -/
import Derived.Test.YtmdlhbhdlhjakaaM13
set_option linter.unusedVariables false
set_option linter.unusedSimpArgs false
namespace Go.Proofs.Ytmdlhbhdlhjakaa
open Go.RowKit

theorem readFrom_pos {ls : List Int} {f : Nat → Nat} {lim : Nat} : ∀ {k n p : Nat} {c h : Int} {a : Nat} {x : Int} {q : Nat}, readFrom ls f lim k n p c h a = (x, 0, q) → p < q ∧ q ≤ lim
  | 0, n, p, c, h, a, x, q, e => by simp [readFrom] at e
  | k + 1, n, p, c, h, a, x, q, e => by
    simp only [readFrom] at e
    split at e
    · simp at e
    · split at e
      · have := readFrom_pos e; omega
      · simp at e; omega
theorem readFrom_loc {ls : List Int} {f g : Nat → Nat} {lim lim' : Nat} : ∀ {k n p : Nat} {c h : Int} {a : Nat} {x : Int} {q : Nat}, readFrom ls f lim k n p c h a = (x, 0, q) → q ≤ lim' → (∀ i, i < q → g i = f i) → readFrom ls g lim' k n p c h a = (x, 0, q)
  | 0, n, p, c, h, a, x, q, e, _, _ => by simp [readFrom] at e
  | k + 1, n, p, c, h, a, x, q, e, hq, hg => by
    have hp := readFrom_pos e
    simp only [readFrom] at e ⊢
    rw [if_neg (by omega)] at e
    rw [if_neg (by omega), hg p hp.1]
    split at e
    · rename_i hc
      rw [if_pos hc]
      exact readFrom_loc e hq hg
    · rename_i hc
      rw [if_neg hc]
      exact e
theorem readFrom_cut {ls : List Int} {f g : Nat → Nat} {lim lim' : Nat} : ∀ {k n p : Nat} {c h : Int} {a : Nat} {x : Int} {q : Nat}, readFrom ls f lim k n p c h a = (x, 0, q) → lim' < q → (∀ i, i < lim' → g i = f i) → (readFrom ls g lim' k n p c h a).2.1 = 5
  | 0, n, p, c, h, a, x, q, e, _, _ => by simp [readFrom] at e
  | k + 1, n, p, c, h, a, x, q, e, hq, hg => by
    have hp := readFrom_pos e
    simp only [readFrom] at e ⊢
    rw [if_neg (by omega)] at e
    by_cases hl : lim' ≤ p
    · rw [if_pos hl]
    · rw [if_neg hl, hg p (by omega)]
      split at e
      · rename_i hc
        rw [if_pos hc]
        exact readFrom_cut e hq hg
      · simp at e; omega

def Agree (t s : ByteArray) (q : Nat) : Prop := ∀ i, i < q → bit t i = bit s i
theorem Agree.mono {s t : ByteArray} {q p : Nat} (h : Agree t s q) (hp : p ≤ q) : Agree t s p := fun i hi => h i (by omega)
section
variable {s t : ByteArray}
theorem getS_ok {p d n q : Nat} (h : getS s p d = .ok (n, q)) : q = p + d ∧ q ≤ 8 * s.size ∧ n = val (bit s) p d := by
  unfold getS at h
  split at h
  · simp at h; omega
  · cases h
theorem getS_loc {p d n q : Nat} (h : getS s p d = .ok (n, q)) (hq : q ≤ 8 * t.size) (ha : Agree t s q) : getS t p d = .ok (n, q) := by
  obtain ⟨h1, h2, h3⟩ := getS_ok h
  unfold getS
  rw [if_pos (by omega), h3, h1, val_congr d (fun i hi => ha (p + i) (by omega))]
theorem getS_cut {p d n q : Nat} (h : getS s p d = .ok (n, q)) (hq : 8 * t.size < q) : getS t p d = .error 5 := by
  obtain ⟨h1, h2, h3⟩ := getS_ok h
  unfold getS
  rw [if_neg (by omega)]
theorem symS_read {ls : List Int} {p n q : Nat} (h : symS s ls p = .ok (n, q)) : ∃ x, readOf ls (bit s) (8 * s.size) p = (x, 0, q) ∧ n = x.toNat := by
  unfold symS at h
  split at h
  · rename_i h0
    simp at h
    exact ⟨_, by rw [← h.2, ← h0], h.1.symm⟩
  · cases h
theorem symS_pos {ls : List Int} {p n q : Nat} (h : symS s ls p = .ok (n, q)) : p < q ∧ q ≤ 8 * s.size := by
  obtain ⟨x, hx, _⟩ := symS_read h
  exact readFrom_pos hx
theorem symS_loc {ls : List Int} {p n q : Nat} (h : symS s ls p = .ok (n, q)) (hq : q ≤ 8 * t.size) (ha : Agree t s q) : symS t ls p = .ok (n, q) := by
  obtain ⟨x, hx, hn⟩ := symS_read h
  have := readFrom_loc hx hq ha
  unfold symS readOf
  rw [this, hn]; rfl
theorem symS_cut {ls : List Int} {p n q : Nat} (h : symS s ls p = .ok (n, q)) (hq : 8 * t.size < q) (ha : Agree t s (8 * t.size)) : symS t ls p = .error 5 := by
  obtain ⟨x, hx, hn⟩ := symS_read h
  have := readFrom_cut hx hq ha
  unfold symS readOf
  rw [this]; rfl
theorem toldS_ok {x : Nat × Nat} {p n q : Nat} (h : toldS s x p = .ok (n, q)) : ∃ m, getS s p x.2 = .ok (m, q) ∧ n = x.1 + m := by
  unfold toldS at h
  cases hg : getS s p x.2 with
  | error e => rw [hg] at h; cases h
  | ok r =>
    obtain ⟨m, q'⟩ := r
    rw [hg] at h
    simp at h
    exact ⟨m, by rw [h.2], h.1.symm⟩
theorem toldS_loc {x : Nat × Nat} {p n q : Nat} (h : toldS s x p = .ok (n, q)) (hq : q ≤ 8 * t.size) (ha : Agree t s q) : toldS t x p = .ok (n, q) := by
  obtain ⟨m, hm, hn⟩ := toldS_ok h
  unfold toldS
  rw [getS_loc hm hq ha, hn]
theorem toldS_cut {x : Nat × Nat} {p n q : Nat} (h : toldS s x p = .ok (n, q)) (hq : 8 * t.size < q) : toldS t x p = .error 5 := by
  obtain ⟨m, hm, hn⟩ := toldS_ok h
  unfold toldS
  rw [getS_cut hm hq]
theorem toldS_pos {x : Nat × Nat} {p n q : Nat} (h : toldS s x p = .ok (n, q)) : p ≤ q ∧ q ≤ 8 * s.size := by
  obtain ⟨m, hm, hn⟩ := toldS_ok h
  have := getS_ok hm; omega
theorem copyL_len (b : Nat) : ∀ (n : Nat) (o : List Nat), (copyL b n o).length = o.length + n
  | 0, o => rfl
  | n + 1, o => by rw [copyL, copyL_len b n]; simp; omega
theorem repeatS_ok {most k p q : Nat} {fl : List Int} {o o' : List Nat} (h : repeatS s most fl k p o = .ok (o', q)) :
    ∃ n p1 d p2 b, toldS s (lenT.getD k (0, 0)) p = .ok (n, p1) ∧ symS s fl p1 = .ok (d, p2) ∧ d < 30 ∧ toldS s (distT.getD d (0, 0)) p2 = .ok (b, q) ∧ b ≤ o.length ∧ o.length + n ≤ most ∧ o' = copyL b n o := by
  unfold repeatS at h
  cases h1 : toldS s (lenT.getD k (0, 0)) p with
  | error e => rw [h1] at h; cases h
  | ok r =>
    obtain ⟨n, p1⟩ := r
    rw [h1] at h
    simp only at h
    cases h2 : symS s fl p1 with
    | error e => rw [h2] at h; cases h
    | ok r =>
      obtain ⟨d, p2⟩ := r
      rw [h2] at h
      simp only at h
      split at h
      · cases h
      · cases h3 : toldS s (distT.getD d (0, 0)) p2 with
        | error e => rw [h3] at h; cases h
        | ok r =>
          obtain ⟨b, p3⟩ := r
          rw [h3] at h
          simp only at h
          split at h
          · cases h
          · split at h
            · cases h
            · simp at h
              refine ⟨n, p1, d, p2, b, rfl, h2, by omega, by rw [← h.2]; exact h3, by omega, by omega, h.1.symm⟩
theorem repeatS_of {most k p q n p1 d p2 b : Nat} {fl : List Int} {o : List Nat} (h1 : toldS s (lenT.getD k (0, 0)) p = .ok (n, p1)) (h2 : symS s fl p1 = .ok (d, p2)) (h3 : d < 30)
    (h4 : toldS s (distT.getD d (0, 0)) p2 = .ok (b, q)) (h5 : b ≤ o.length) : repeatS s most fl k p o = if most < o.length + n then .error 7 else .ok (copyL b n o, q) := by
  unfold repeatS
  rw [h1]; simp only
  rw [h2]; simp only
  rw [if_neg (by omega), h4]; simp only
  rw [if_neg (by omega)]
theorem repeatS_pos {most k p q : Nat} {fl : List Int} {o o' : List Nat} (h : repeatS s most fl k p o = .ok (o', q)) : p < q ∧ q ≤ 8 * s.size ∧ o.length ≤ o'.length ∧ o'.length ≤ most := by
  obtain ⟨n, p1, d, p2, b, h1, h2, h3, h4, h5, h6, rfl⟩ := repeatS_ok h
  have a1 := toldS_pos h1
  have a2 := symS_pos h2
  have a3 := toldS_pos h4
  rw [copyL_len]; omega
theorem repeatS_loc {most k p q : Nat} {fl : List Int} {o o' : List Nat} (h : repeatS s most fl k p o = .ok (o', q)) (hq : q ≤ 8 * t.size) (ha : Agree t s q) : repeatS t most fl k p o = .ok (o', q) := by
  obtain ⟨n, p1, d, p2, b, h1, h2, h3, h4, h5, h6, rfl⟩ := repeatS_ok h
  have a1 := toldS_pos h1
  have a2 := symS_pos h2
  have a3 := toldS_pos h4
  rw [repeatS_of (toldS_loc h1 (by omega) (ha.mono (by omega))) (symS_loc h2 (by omega) (ha.mono (by omega))) h3 (toldS_loc h4 hq ha) h5, if_neg (by omega)]
theorem repeatS_cut {most k p q : Nat} {fl : List Int} {o o' : List Nat} (h : repeatS s most fl k p o = .ok (o', q)) (hq : 8 * t.size < q) (ha : Agree t s (8 * t.size)) : repeatS t most fl k p o = .error 5 := by
  obtain ⟨n, p1, d, p2, b, h1, h2, h3, h4, h5, h6, rfl⟩ := repeatS_ok h
  have a1 := toldS_pos h1
  have a2 := symS_pos h2
  have a3 := toldS_pos h4
  unfold repeatS
  by_cases c1 : 8 * t.size < p1
  · rw [toldS_cut h1 c1]
  · rw [toldS_loc h1 (by omega) (ha.mono (by omega))]; simp only
    by_cases c2 : 8 * t.size < p2
    · rw [symS_cut h2 c2 ha]
    · rw [symS_loc h2 (by omega) (ha.mono (by omega))]; simp only
      rw [if_neg (by omega), toldS_cut h4 hq]
theorem repeatS_room {most most' k p q : Nat} {fl : List Int} {o o' : List Nat} (h : repeatS s most fl k p o = .ok (o', q)) : repeatS s most' fl k p o = if most' < o'.length then .error 7 else .ok (o', q) := by
  obtain ⟨n, p1, d, p2, b, h1, h2, h3, h4, h5, h6, rfl⟩ := repeatS_ok h
  rw [repeatS_of h1 h2 h3 h4 h5, copyL_len]

/-! ### coded -/
theorem roundS_fin {most p q : Nat} {nl fl : List Int} {o o' : List Nat} (h : roundS s most nl fl p o = .fin o' q) : symS s nl p = .ok (256, q) ∧ o' = o := by
  unfold roundS at h
  cases h1 : symS s nl p with
  | error e => rw [h1] at h; cases h
  | ok r =>
    obtain ⟨n, p1⟩ := r
    rw [h1] at h
    simp only at h
    split at h
    · rename_i hn
      injection h with h2 h3
      subst hn h2 h3
      exact ⟨rfl, rfl⟩
    · split at h
      · cases h
      · split at h
        · generalize repeatS s most fl (n - 257) p1 o = x at h
          cases x <;> cases h
        · split at h <;> cases h
theorem roundS_go {most p q : Nat} {nl fl : List Int} {o o' : List Nat} (h : roundS s most nl fl p o = .go o' q) :
    ∃ n p1, symS s nl p = .ok (n, p1) ∧ n ≠ 256 ∧ n < 286 ∧ (256 < n ∧ repeatS s most fl (n - 257) p1 o = .ok (o', q) ∨ ¬ 256 < n ∧ o.length + 1 ≤ most ∧ o' = o ++ [n] ∧ q = p1) := by
  unfold roundS at h
  cases h1 : symS s nl p with
  | error e => rw [h1] at h; cases h
  | ok r =>
    obtain ⟨n, p1⟩ := r
    rw [h1] at h
    simp only at h
    split at h
    · cases h
    · rename_i hn
      split at h
      · cases h
      · rename_i hn2
        refine ⟨n, p1, rfl, hn, by omega, ?_⟩
        split at h
        · rename_i hn3
          generalize hr : repeatS s most fl (n - 257) p1 o = x at h
          cases x with
          | error e => cases h
          | ok r =>
            obtain ⟨o2, p2⟩ := r
            injection h with h2 h3
            subst h2 h3
            exact .inl ⟨hn3, rfl⟩
        · rename_i hn3
          split at h
          · cases h
          · rename_i hm
            injection h with h2 h3
            exact .inr ⟨hn3, by omega, h2.symm, h3.symm⟩
theorem roundS_pos {most p q : Nat} {nl fl : List Int} {o o' : List Nat} (h : roundS s most nl fl p o = .go o' q) : p < q ∧ q ≤ 8 * s.size ∧ o.length ≤ o'.length ∧ o'.length ≤ most := by
  obtain ⟨n, p1, h1, h2, h3, h4⟩ := roundS_go h
  have a1 := symS_pos h1
  rcases h4 with ⟨_, h4⟩ | ⟨_, h4, rfl, rfl⟩
  · have a2 := repeatS_pos h4; omega
  · simp; omega
theorem roundS_fin_of {most p q : Nat} {nl fl : List Int} {o : List Nat} (h : symS s nl p = .ok (256, q)) : roundS s most nl fl p o = .fin o q := by
  unfold roundS; rw [h]; simp only
  rw [if_pos trivial]
theorem roundS_rep_of {most p n p1 : Nat} {nl fl : List Int} {o : List Nat} (h1 : symS s nl p = .ok (n, p1)) (h2 : n ≠ 256) (h3 : n < 286) (h4 : 256 < n) :
    roundS s most nl fl p o = match repeatS s most fl (n - 257) p1 o with | .error e => .err e | .ok (o', p2) => .go o' p2 := by
  unfold roundS; rw [h1]; simp only
  rw [if_neg h2, if_neg (by omega), if_pos h4]
  generalize repeatS s most fl (n - 257) p1 o = x
  cases x <;> rfl
theorem roundS_lit_of {most p n p1 : Nat} {nl fl : List Int} {o : List Nat} (h1 : symS s nl p = .ok (n, p1)) (h2 : n ≠ 256) (h3 : n < 286) (h4 : ¬ 256 < n) :
    roundS s most nl fl p o = if most < o.length + 1 then .err 7 else .go (o ++ [n]) p1 := by
  unfold roundS; rw [h1]; simp only
  rw [if_neg h2, if_neg (by omega), if_neg h4]
theorem roundS_bad {most p e : Nat} {nl fl : List Int} {o : List Nat} (h1 : symS s nl p = .error e) : roundS s most nl fl p o = .err e := by
  unfold roundS; rw [h1]
theorem roundS_loc {most p q : Nat} {nl fl : List Int} {o o' : List Nat} (h : roundS s most nl fl p o = .go o' q) (hq : q ≤ 8 * t.size) (ha : Agree t s q) : roundS t most nl fl p o = .go o' q := by
  have hp := roundS_pos h
  obtain ⟨n, p1, h1, h2, h3, h4⟩ := roundS_go h
  rcases h4 with ⟨hn, h4⟩ | ⟨hn, h4, rfl, rfl⟩
  · have a2 := repeatS_pos h4
    rw [roundS_rep_of (symS_loc h1 (by omega) (ha.mono (by omega))) h2 h3 hn, repeatS_loc h4 hq ha]
  · rw [roundS_lit_of (symS_loc h1 hq ha) h2 h3 hn, if_neg (by omega)]
theorem roundS_cut {most p q : Nat} {nl fl : List Int} {o o' : List Nat} (h : roundS s most nl fl p o = .go o' q) (hq : 8 * t.size < q) (ha : Agree t s (8 * t.size)) : roundS t most nl fl p o = .err 5 := by
  obtain ⟨n, p1, h1, h2, h3, h4⟩ := roundS_go h
  by_cases c1 : 8 * t.size < p1
  · exact roundS_bad (symS_cut h1 c1 ha)
  · rcases h4 with ⟨hn, h4⟩ | ⟨hn, h4, rfl, rfl⟩
    · rw [roundS_rep_of (symS_loc h1 (by omega) (ha.mono (by omega))) h2 h3 hn, repeatS_cut h4 hq ha]
    · omega
theorem roundS_room {most most' p q : Nat} {nl fl : List Int} {o o' : List Nat} (h : roundS s most nl fl p o = .go o' q) : roundS s most' nl fl p o = if most' < o'.length then .err 7 else .go o' q := by
  obtain ⟨n, p1, h1, h2, h3, h4⟩ := roundS_go h
  rcases h4 with ⟨hn, h4⟩ | ⟨hn, h4, rfl, rfl⟩
  · rw [roundS_rep_of h1 h2 h3 hn, repeatS_room (most' := most') h4]
    split
    · split <;> simp_all
    · split <;> simp_all
  · rw [roundS_lit_of h1 h2 h3 hn]; simp
theorem codedS_step {most k p q : Nat} {nl fl : List Int} {o o' : List Nat} (h : codedS s most nl fl (k + 1) p o = .ok (o', q)) :
    roundS s most nl fl p o = .fin o' q ∨ ∃ o2 p2, roundS s most nl fl p o = .go o2 p2 ∧ codedS s most nl fl k p2 o2 = .ok (o', q) := by
  rw [codedS] at h
  cases h1 : roundS s most nl fl p o with
  | err e => rw [h1] at h; cases h
  | fin o1 q1 => rw [h1] at h; simp at h; obtain ⟨rfl, rfl⟩ := h; exact .inl rfl
  | go o1 q1 => rw [h1] at h; exact .inr ⟨o1, q1, rfl, h⟩
theorem codedS_pos {most : Nat} {nl fl : List Int} : ∀ {k p q : Nat} {o o' : List Nat}, codedS s most nl fl k p o = .ok (o', q) → p < q ∧ q ≤ 8 * s.size ∧ o.length ≤ o'.length ∧ (o.length ≤ most → o'.length ≤ most)
  | 0, p, q, o, o', h => by simp [codedS] at h
  | k + 1, p, q, o, o', h => by
    rcases codedS_step h with h | ⟨o2, p2, h1, h2⟩
    · obtain ⟨h1, rfl⟩ := roundS_fin h
      have a1 := symS_pos h1
      exact ⟨a1.1, a1.2, Nat.le_refl _, id⟩
    · have a1 := roundS_pos h1
      have a2 := codedS_pos h2
      exact ⟨by omega, a2.2.1, by omega, fun _ => a2.2.2.2 a1.2.2.2⟩
/-- With more rounds, too. -/
theorem codedS_loc {most : Nat} {nl fl : List Int} : ∀ {k p q : Nat} {o o' : List Nat}, codedS s most nl fl k p o = .ok (o', q) → q ≤ 8 * t.size → Agree t s q → ∀ k', q < p + k' → codedS t most nl fl k' p o = .ok (o', q)
  | 0, p, q, o, o', h, hq, ha, k', hk => by simp [codedS] at h
  | k + 1, p, q, o, o', h, hq, ha, k', hk => by
    have hp := codedS_pos h
    obtain ⟨k', rfl⟩ : ∃ m, k' = m + 1 := ⟨k' - 1, by omega⟩
    rw [codedS]
    rcases codedS_step h with h | ⟨o2, p2, h1, h2⟩
    · obtain ⟨h1, rfl⟩ := roundS_fin h
      rw [roundS_fin_of (symS_loc h1 hq ha)]
    · have a1 := roundS_pos h1
      have a2 := codedS_pos h2
      rw [roundS_loc h1 (by omega) (ha.mono (by omega))]
      exact codedS_loc h2 hq ha k' (by omega)
theorem codedS_cut {most : Nat} {nl fl : List Int} : ∀ {k p q : Nat} {o o' : List Nat}, codedS s most nl fl k p o = .ok (o', q) → 8 * t.size < q → Agree t s (8 * t.size) → ∀ k', 8 * t.size < p + k' → 1 ≤ k' → codedS t most nl fl k' p o = .error 5
  | 0, p, q, o, o', h, hq, ha, k', hk, _ => by simp [codedS] at h
  | k + 1, p, q, o, o', h, hq, ha, k', hk, hk1 => by
    obtain ⟨k', rfl⟩ : ∃ m, k' = m + 1 := ⟨k' - 1, by omega⟩
    rw [codedS]
    rcases codedS_step h with h | ⟨o2, p2, h1, h2⟩
    · obtain ⟨h1, rfl⟩ := roundS_fin h
      rw [roundS_bad (symS_cut h1 hq ha)]
    · have a1 := roundS_pos h1
      by_cases c : 8 * t.size < p2
      · rw [roundS_cut h1 c ha]
      · rw [roundS_loc h1 (by omega) (ha.mono (by omega))]
        exact codedS_cut h2 hq ha k' (by omega) (by omega)
theorem codedS_room {most most' : Nat} {nl fl : List Int} : ∀ {k p q : Nat} {o o' : List Nat}, codedS s most nl fl k p o = .ok (o', q) → o.length ≤ most' → codedS s most' nl fl k p o = if most' < o'.length then .error 7 else .ok (o', q)
  | 0, p, q, o, o', h, _ => by simp [codedS] at h
  | k + 1, p, q, o, o', h, ho => by
    rw [codedS]
    rcases codedS_step h with h | ⟨o2, p2, h1, h2⟩
    · obtain ⟨h1, rfl⟩ := roundS_fin h
      rw [roundS_fin_of h1, if_neg (by omega)]
    · have a2 := codedS_pos h2
      rw [roundS_room (most' := most') h1]
      by_cases c : most' < o2.length
      · rw [if_pos c, if_pos (by omega)]
      · rw [if_neg c]
        exact codedS_room h2 (by omega)
end
end Go.Proofs.Ytmdlhbhdlhjakaa
