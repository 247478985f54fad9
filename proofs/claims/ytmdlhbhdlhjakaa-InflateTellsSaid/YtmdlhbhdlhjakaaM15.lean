/- Plain: the blocks of deflated bytes hang on what was read alone. The contracts of package bitrow's reader: Align, Bytes. -/
import Derived.Test.YtmdlhbhdlhjakaaM14
set_option linter.unusedVariables false
set_option linter.unusedSimpArgs false
namespace Go.Proofs.Ytmdlhbhdlhjakaa
open Go.RowKit

theorem bytesAt_len (s : ByteArray) (q n : Nat) : (bytesAt s q n).length = n := by simp [bytesAt]
theorem agree_byte {s t : ByteArray} {q i : Nat} (h : Agree t s q) (hi : 8 * i + 8 ≤ q) : byteAt t i = byteAt s i := by
  rw [← val_byte, ← val_byte]
  exact val_congr 8 fun j hj => h _ (by omega)
theorem bytesAt_agree {s t : ByteArray} {q p n : Nat} (h : Agree t s q) (hp : 8 * (p + n) ≤ q) : bytesAt t p n = bytesAt s p n :=
  List.map_congr_left fun i hi => agree_byte h (by have := List.mem_range.1 hi; omega)
section
variable {s t : ByteArray}
theorem storedS_ok {most p q : Nat} {o o' : List Nat} (h : storedS s most p o = .ok (o', q)) :
    ∃ n p1 m p2, getS s (8 * ((p + 7) / 8)) 16 = .ok (n, p1) ∧ getS s p1 16 = .ok (m, p2) ∧ n + m = 65535 ∧ p2 / 8 + n ≤ s.size ∧ o.length + n ≤ most ∧ o' = o ++ bytesAt s (p2 / 8) n ∧ q = p2 + 8 * n := by
  unfold storedS at h
  cases h1 : getS s (8 * ((p + 7) / 8)) 16 with
  | error e => rw [h1] at h; cases h
  | ok r =>
    obtain ⟨n, p1⟩ := r
    rw [h1] at h
    simp only at h
    cases h2 : getS s p1 16 with
    | error e => rw [h2] at h; cases h
    | ok r =>
      obtain ⟨m, p2⟩ := r
      rw [h2] at h
      simp only at h
      split at h
      · cases h
      · split at h
        · cases h
        · split at h
          · cases h
          · simp at h
            exact ⟨n, p1, m, p2, rfl, h2, by omega, by omega, by omega, h.1.symm, h.2.symm⟩
theorem storedS_of {most p n p1 m p2 : Nat} {o : List Nat} (h1 : getS s (8 * ((p + 7) / 8)) 16 = .ok (n, p1)) (h2 : getS s p1 16 = .ok (m, p2)) (h3 : n + m = 65535) (h4 : p2 / 8 + n ≤ s.size) :
    storedS s most p o = if most < o.length + n then .error 7 else .ok (o ++ bytesAt s (p2 / 8) n, p2 + 8 * n) := by
  unfold storedS
  rw [h1]; simp only
  rw [h2]; simp only
  rw [if_neg (by omega), if_neg (by omega)]
theorem storedS_pos {most p q : Nat} {o o' : List Nat} (h : storedS s most p o = .ok (o', q)) : p < q ∧ q ≤ 8 * s.size ∧ o.length ≤ o'.length ∧ o'.length ≤ most := by
  obtain ⟨n, p1, m, p2, h1, h2, h3, h4, h5, rfl, rfl⟩ := storedS_ok h
  have a1 := getS_ok h1
  have a2 := getS_ok h2
  rw [List.length_append, bytesAt_len]; omega
theorem storedS_loc {most p q : Nat} {o o' : List Nat} (h : storedS s most p o = .ok (o', q)) (hq : q ≤ 8 * t.size) (ha : Agree t s q) : storedS t most p o = .ok (o', q) := by
  obtain ⟨n, p1, m, p2, h1, h2, h3, h4, h5, rfl, rfl⟩ := storedS_ok h
  have a1 := getS_ok h1
  have a2 := getS_ok h2
  rw [storedS_of (getS_loc h1 (by omega) (ha.mono (by omega))) (getS_loc h2 (by omega) (ha.mono (by omega))) h3 (by omega), if_neg (by omega), bytesAt_agree ha (by omega)]
theorem storedS_cut {most p q : Nat} {o o' : List Nat} (h : storedS s most p o = .ok (o', q)) (hq : 8 * t.size < q) (ha : Agree t s (8 * t.size)) : storedS t most p o = .error 5 := by
  obtain ⟨n, p1, m, p2, h1, h2, h3, h4, h5, rfl, rfl⟩ := storedS_ok h
  have a1 := getS_ok h1
  have a2 := getS_ok h2
  unfold storedS
  by_cases c1 : 8 * t.size < p1
  · rw [getS_cut h1 c1]
  · rw [getS_loc h1 (by omega) (ha.mono (by omega))]; simp only
    by_cases c2 : 8 * t.size < p2
    · rw [getS_cut h2 c2]
    · rw [getS_loc h2 (by omega) (ha.mono (by omega))]; simp only
      rw [if_neg (by omega), if_pos (by omega)]
theorem storedS_room {most most' p q : Nat} {o o' : List Nat} (h : storedS s most p o = .ok (o', q)) : storedS s most' p o = if most' < o'.length then .error 7 else .ok (o', q) := by
  obtain ⟨n, p1, m, p2, h1, h2, h3, h4, h5, rfl, rfl⟩ := storedS_ok h
  rw [storedS_of h1 h2 h3 h4, List.length_append, bytesAt_len]

/-! ### the codes of a block of its own -/
theorem headFrom_pos : ∀ {k i p q : Nat} {l l' : List Int}, headFrom s k i p l = .ok (l', q) → p ≤ q ∧ (p ≤ 8 * s.size → q ≤ 8 * s.size)
  | 0, i, p, q, l, l', h => by simp [headFrom] at h; omega
  | k + 1, i, p, q, l, l', h => by
    rw [headFrom] at h
    cases h1 : getS s p 3 with
    | error e => rw [h1] at h; cases h
    | ok r =>
      obtain ⟨n, p1⟩ := r
      have a1 := getS_ok h1
      rw [h1] at h
      simp only at h
      have a2 := headFrom_pos h
      exact ⟨by omega, fun _ => a2.2 a1.2.1⟩
theorem headFrom_loc : ∀ {k i p q : Nat} {l l' : List Int}, headFrom s k i p l = .ok (l', q) → q ≤ 8 * t.size → Agree t s q → headFrom t k i p l = .ok (l', q)
  | 0, i, p, q, l, l', h, hq, ha => by simp only [headFrom] at h ⊢; exact h
  | k + 1, i, p, q, l, l', h, hq, ha => by
    rw [headFrom] at h ⊢
    cases h1 : getS s p 3 with
    | error e => rw [h1] at h; cases h
    | ok r =>
      obtain ⟨n, p1⟩ := r
      rw [h1] at h
      simp only at h
      have a2 := headFrom_pos h
      rw [getS_loc h1 (by omega) (ha.mono (by omega))]; simp only
      exact headFrom_loc h hq ha
theorem headFrom_cut : ∀ {k i p q : Nat} {l l' : List Int}, headFrom s k i p l = .ok (l', q) → 8 * t.size < q → p ≤ 8 * t.size → Agree t s (8 * t.size) → headFrom t k i p l = .error 5
  | 0, i, p, q, l, l', h, hq, hp, ha => by simp [headFrom] at h; omega
  | k + 1, i, p, q, l, l', h, hq, hp, ha => by
    rw [headFrom] at h ⊢
    cases h1 : getS s p 3 with
    | error e => rw [h1] at h; cases h
    | ok r =>
      obtain ⟨n, p1⟩ := r
      rw [h1] at h
      simp only at h
      by_cases c1 : 8 * t.size < p1
      · rw [getS_cut h1 c1]
      · rw [getS_loc h1 (by omega) (ha.mono (by omega))]; simp only
        exact headFrom_cut h hq (by omega) ha
theorem headsS_ok {many p q : Nat} {l : List Int} (h : headsS s many p = .ok (l, q)) : headFrom s many 0 p (List.replicate 19 0) = .ok (l, q) ∧ checkOf l = 0 := by
  unfold headsS at h
  cases h1 : headFrom s many 0 p (List.replicate 19 0) with
  | error e => rw [h1] at h; cases h
  | ok r =>
    obtain ⟨l1, q1⟩ := r
    rw [h1] at h
    simp only at h
    split at h
    · cases h
    · simp at h
      obtain ⟨rfl, rfl⟩ := h
      exact ⟨rfl, by omega⟩
theorem headsS_loc {many p q : Nat} {l : List Int} (h : headsS s many p = .ok (l, q)) (hq : q ≤ 8 * t.size) (ha : Agree t s q) : headsS t many p = .ok (l, q) := by
  obtain ⟨h1, h2⟩ := headsS_ok h
  unfold headsS
  rw [headFrom_loc h1 hq ha]; simp only
  rw [if_neg (by omega)]
theorem headsS_cut {many p q : Nat} {l : List Int} (h : headsS s many p = .ok (l, q)) (hq : 8 * t.size < q) (hp : p ≤ 8 * t.size) (ha : Agree t s (8 * t.size)) : headsS t many p = .error 5 := by
  obtain ⟨h1, h2⟩ := headsS_ok h
  unfold headsS
  rw [headFrom_cut h1 hq hp ha]
theorem rowS_pos {tl : List Int} {many : Nat} : ∀ {k p q : Nat} {r r' : List Nat}, rowS s tl many k p r = .ok (r', q) → p ≤ q ∧ (p ≤ 8 * s.size → q ≤ 8 * s.size)
  | 0, p, q, r, r', h => by simp [rowS] at h
  | k + 1, p, q, r, r', h => by
    rw [rowS] at h
    split at h
    · simp at h; omega
    · cases h1 : symS s tl p with
      | error e => rw [h1] at h; cases h
      | ok x =>
        obtain ⟨n, p1⟩ := x
        have a1 := symS_pos h1
        rw [h1] at h
        simp only at h
        split at h
        · cases h
        · cases h2 : toldS s (spanOf n) p1 with
          | error e => rw [h2] at h; cases h
          | ok x =>
            obtain ⟨t', p2⟩ := x
            have a2 := toldS_pos h2
            rw [h2] at h
            simp only at h
            split at h
            · cases h
            · have a3 := rowS_pos h
              exact ⟨by omega, fun _ => a3.2 a2.2⟩
theorem rowS_loc {tl : List Int} {many : Nat} : ∀ {k p q : Nat} {r r' : List Nat}, rowS s tl many k p r = .ok (r', q) → q ≤ 8 * t.size → Agree t s q → rowS t tl many k p r = .ok (r', q)
  | 0, p, q, r, r', h, hq, ha => by simp [rowS] at h
  | k + 1, p, q, r, r', h, hq, ha => by
    rw [rowS] at h ⊢
    split at h
    · rename_i hm
      rw [if_pos hm]; exact h
    · rename_i hm
      rw [if_neg hm]
      cases h1 : symS s tl p with
      | error e => rw [h1] at h; cases h
      | ok x =>
        obtain ⟨n, p1⟩ := x
        have a1 := symS_pos h1
        rw [h1] at h
        simp only at h
        split at h
        · cases h
        · rename_i hn
          cases h2 : toldS s (spanOf n) p1 with
          | error e => rw [h2] at h; cases h
          | ok x =>
            obtain ⟨t', p2⟩ := x
            have a2 := toldS_pos h2
            rw [h2] at h
            simp only at h
            split at h
            · cases h
            · rename_i hb
              have a3 := rowS_pos h
              rw [symS_loc h1 (by omega) (ha.mono (by omega))]; simp only
              rw [if_neg hn, toldS_loc h2 (by omega) (ha.mono (by omega))]; simp only
              rw [if_neg hb]
              exact rowS_loc h hq ha
theorem rowS_cut {tl : List Int} {many : Nat} : ∀ {k p q : Nat} {r r' : List Nat}, rowS s tl many k p r = .ok (r', q) → 8 * t.size < q → p ≤ 8 * t.size → Agree t s (8 * t.size) → rowS t tl many k p r = .error 5
  | 0, p, q, r, r', h, hq, hp, ha => by simp [rowS] at h
  | k + 1, p, q, r, r', h, hq, hp, ha => by
    rw [rowS] at h ⊢
    split at h
    · simp at h; omega
    · rename_i hm
      rw [if_neg hm]
      cases h1 : symS s tl p with
      | error e => rw [h1] at h; cases h
      | ok x =>
        obtain ⟨n, p1⟩ := x
        have a1 := symS_pos h1
        rw [h1] at h
        simp only at h
        split at h
        · cases h
        · rename_i hn
          cases h2 : toldS s (spanOf n) p1 with
          | error e => rw [h2] at h; cases h
          | ok x =>
            obtain ⟨t', p2⟩ := x
            have a2 := toldS_pos h2
            rw [h2] at h
            simp only at h
            split at h
            · cases h
            · rename_i hb
              by_cases c1 : 8 * t.size < p1
              · rw [symS_cut h1 c1 ha]
              · rw [symS_loc h1 (by omega) (ha.mono (by omega))]; simp only
                rw [if_neg hn]
                by_cases c2 : 8 * t.size < p2
                · rw [toldS_cut h2 c2]
                · rw [toldS_loc h2 (by omega) (ha.mono (by omega))]; simp only
                  rw [if_neg hb]
                  exact rowS_cut h hq (by omega) ha

/-! ### a block of its own codes -/
theorem ownS_ok {most p q : Nat} {o o' : List Nat} (h : ownS s most p o = .ok (o', q)) :
    ∃ a p1 b p2 c p3 tl p4 row p5, getS s p 5 = .ok (a, p1) ∧ getS s p1 5 = .ok (b, p2) ∧ getS s p2 4 = .ok (c, p3) ∧ ¬ (29 < a ∨ 29 < b) ∧ headsS s (c + 4) p3 = .ok (tl, p4) ∧
      rowS s tl (a + 257 + (b + 1)) (a + 257 + (b + 1) + 1) p4 [] = .ok (row, p5) ∧ rowBad row (a + 257) = false ∧ codedS s most (castL (row.take (a + 257))) (castL (row.drop (a + 257))) (8 * s.size + 1) p5 o = .ok (o', q) := by
  unfold ownS at h
  cases h1 : getS s p 5 with
  | error e => rw [h1] at h; cases h
  | ok x =>
    obtain ⟨a, p1⟩ := x
    rw [h1] at h
    simp only at h
    cases h2 : getS s p1 5 with
    | error e => rw [h2] at h; cases h
    | ok x =>
      obtain ⟨b, p2⟩ := x
      rw [h2] at h
      simp only at h
      cases h3 : getS s p2 4 with
      | error e => rw [h3] at h; cases h
      | ok x =>
        obtain ⟨c, p3⟩ := x
        rw [h3] at h
        simp only at h
        split at h
        · cases h
        · rename_i hab
          cases h4 : headsS s (c + 4) p3 with
          | error e => rw [h4] at h; cases h
          | ok x =>
            obtain ⟨tl, p4⟩ := x
            rw [h4] at h
            simp only at h
            cases h5 : rowS s tl (a + 257 + (b + 1)) (a + 257 + (b + 1) + 1) p4 [] with
            | error e => rw [h5] at h; cases h
            | ok x =>
              obtain ⟨row, p5⟩ := x
              rw [h5] at h
              simp only at h
              split at h
              · cases h
              · rename_i hr
                exact ⟨a, p1, b, p2, c, p3, tl, p4, row, p5, rfl, h2, h3, hab, h4, h5, by simpa using hr, h⟩
theorem ownS_pos {most p q : Nat} {o o' : List Nat} (h : ownS s most p o = .ok (o', q)) : p < q ∧ q ≤ 8 * s.size ∧ o.length ≤ o'.length ∧ (o.length ≤ most → o'.length ≤ most) := by
  obtain ⟨a, p1, b, p2, c, p3, tl, p4, row, p5, h1, h2, h3, h4, h5, h6, h7, h8⟩ := ownS_ok h
  have a1 := getS_ok h1
  have a2 := getS_ok h2
  have a3 := getS_ok h3
  have a5 := headFrom_pos (headsS_ok h5).1
  have a6 := rowS_pos h6
  have a8 := codedS_pos h8
  exact ⟨by omega, a8.2.1, a8.2.2⟩
theorem ownS_loc {most p q : Nat} {o o' : List Nat} (h : ownS s most p o = .ok (o', q)) (hq : q ≤ 8 * t.size) (ha : Agree t s q) : ownS t most p o = .ok (o', q) := by
  obtain ⟨a, p1, b, p2, c, p3, tl, p4, row, p5, h1, h2, h3, h4, h5, h6, h7, h8⟩ := ownS_ok h
  have a1 := getS_ok h1
  have a2 := getS_ok h2
  have a3 := getS_ok h3
  have a5 := headFrom_pos (headsS_ok h5).1
  have a6 := rowS_pos h6
  have a8 := codedS_pos h8
  unfold ownS
  rw [getS_loc h1 (by omega) (ha.mono (by omega))]; simp only
  rw [getS_loc h2 (by omega) (ha.mono (by omega))]; simp only
  rw [getS_loc h3 (by omega) (ha.mono (by omega))]; simp only
  rw [if_neg h4, headsS_loc h5 (by omega) (ha.mono (by omega))]; simp only
  rw [rowS_loc h6 (by omega) (ha.mono (by omega))]; simp only
  rw [h7]; simp only [Bool.false_eq_true, if_false]
  exact codedS_loc h8 hq ha _ (by omega)
theorem ownS_cut {most p q : Nat} {o o' : List Nat} (h : ownS s most p o = .ok (o', q)) (hq : 8 * t.size < q) (ha : Agree t s (8 * t.size)) : ownS t most p o = .error 5 := by
  obtain ⟨a, p1, b, p2, c, p3, tl, p4, row, p5, h1, h2, h3, h4, h5, h6, h7, h8⟩ := ownS_ok h
  have a1 := getS_ok h1
  have a2 := getS_ok h2
  have a3 := getS_ok h3
  have a5 := headFrom_pos (headsS_ok h5).1
  have a6 := rowS_pos h6
  have a8 := codedS_pos h8
  unfold ownS
  by_cases c1 : 8 * t.size < p1
  · rw [getS_cut h1 c1]
  rw [getS_loc h1 (by omega) (ha.mono (by omega))]; simp only
  by_cases c2 : 8 * t.size < p2
  · rw [getS_cut h2 c2]
  rw [getS_loc h2 (by omega) (ha.mono (by omega))]; simp only
  by_cases c3 : 8 * t.size < p3
  · rw [getS_cut h3 c3]
  rw [getS_loc h3 (by omega) (ha.mono (by omega))]; simp only
  rw [if_neg h4]
  by_cases c4 : 8 * t.size < p4
  · rw [headsS_cut h5 c4 (by omega) ha]
  rw [headsS_loc h5 (by omega) (ha.mono (by omega))]; simp only
  by_cases c5 : 8 * t.size < p5
  · rw [rowS_cut h6 c5 (by omega) ha]
  rw [rowS_loc h6 (by omega) (ha.mono (by omega))]; simp only
  rw [h7]; simp only [Bool.false_eq_true, if_false]
  exact codedS_cut h8 hq ha _ (by omega) (by omega)
theorem ownS_room {most most' p q : Nat} {o o' : List Nat} (h : ownS s most p o = .ok (o', q)) (ho : o.length ≤ most') : ownS s most' p o = if most' < o'.length then .error 7 else .ok (o', q) := by
  obtain ⟨a, p1, b, p2, c, p3, tl, p4, row, p5, h1, h2, h3, h4, h5, h6, h7, h8⟩ := ownS_ok h
  unfold ownS
  rw [h1]; simp only
  rw [h2]; simp only
  rw [h3]; simp only
  rw [if_neg h4, h5]; simp only
  rw [h6]; simp only
  rw [h7]; simp only [Bool.false_eq_true, if_false]
  exact codedS_room h8 ho

/-! ### all blocks -/
theorem kindS_pos {most kind p q : Nat} {o o' : List Nat} (h : kindS s most kind p o = .ok (o', q)) : p < q ∧ q ≤ 8 * s.size ∧ o.length ≤ o'.length ∧ (o.length ≤ most → o'.length ≤ most) := by
  unfold kindS at h
  split at h
  · have := storedS_pos h; exact ⟨this.1, this.2.1, this.2.2.1, fun _ => this.2.2.2⟩
  · split at h
    · exact codedS_pos h
    · split at h
      · exact ownS_pos h
      · cases h
theorem kindS_loc {most kind p q : Nat} {o o' : List Nat} (h : kindS s most kind p o = .ok (o', q)) (hq : q ≤ 8 * t.size) (ha : Agree t s q) : kindS t most kind p o = .ok (o', q) := by
  unfold kindS at h ⊢
  split at h
  · rename_i h0; rw [if_pos h0]; exact storedS_loc h hq ha
  · rename_i h0; rw [if_neg h0]
    split at h
    · rename_i h1; rw [if_pos h1]; exact codedS_loc h hq ha _ (by omega)
    · rename_i h1; rw [if_neg h1]
      split at h
      · rename_i h2; rw [if_pos h2]; exact ownS_loc h hq ha
      · cases h
theorem kindS_cut {most kind p q : Nat} {o o' : List Nat} (h : kindS s most kind p o = .ok (o', q)) (hq : 8 * t.size < q) (ha : Agree t s (8 * t.size)) : kindS t most kind p o = .error 5 := by
  unfold kindS at h ⊢
  split at h
  · rename_i h0; rw [if_pos h0]; exact storedS_cut h hq ha
  · rename_i h0; rw [if_neg h0]
    split at h
    · rename_i h1; rw [if_pos h1]; exact codedS_cut h hq ha _ (by omega) (by omega)
    · rename_i h1; rw [if_neg h1]
      split at h
      · rename_i h2; rw [if_pos h2]; exact ownS_cut h hq ha
      · cases h
theorem kindS_room {most most' kind p q : Nat} {o o' : List Nat} (h : kindS s most kind p o = .ok (o', q)) (ho : o.length ≤ most') : kindS s most' kind p o = if most' < o'.length then .error 7 else .ok (o', q) := by
  unfold kindS at h ⊢
  split at h
  · rename_i h0; rw [if_pos h0]; exact storedS_room h
  · rename_i h0; rw [if_neg h0]
    split at h
    · rename_i h1; rw [if_pos h1]; exact codedS_room h ho
    · rename_i h1; rw [if_neg h1]
      split at h
      · rename_i h2; rw [if_pos h2]; exact ownS_room h ho
      · cases h
theorem inflS_step {most k p n : Nat} {o o' : List Nat} (h : inflS s most (k + 1) p o = .ok (o', n)) :
    ∃ last p1 kind p2 o2 p3, getS s p 1 = .ok (last, p1) ∧ getS s p1 2 = .ok (kind, p2) ∧ kindS s most kind p2 o = .ok (o2, p3) ∧ (last = 1 ∧ o' = o2 ∧ n = (p3 + 7) / 8 ∨ last ≠ 1 ∧ inflS s most k p3 o2 = .ok (o', n)) := by
  rw [inflS] at h
  cases h1 : getS s p 1 with
  | error e => rw [h1] at h; cases h
  | ok x =>
    obtain ⟨last, p1⟩ := x
    rw [h1] at h
    simp only at h
    cases h2 : getS s p1 2 with
    | error e => rw [h2] at h; cases h
    | ok x =>
      obtain ⟨kind, p2⟩ := x
      rw [h2] at h
      simp only at h
      cases h3 : kindS s most kind p2 o with
      | error e => rw [h3] at h; cases h
      | ok x =>
        obtain ⟨o2, p3⟩ := x
        rw [h3] at h
        simp only at h
        refine ⟨last, p1, kind, p2, o2, p3, rfl, h2, h3, ?_⟩
        split at h
        · rename_i hl
          simp at h
          exact .inl ⟨hl, h.1.symm, h.2.symm⟩
        · rename_i hl
          exact .inr ⟨hl, h⟩
theorem inflS_pos {most : Nat} : ∀ {k p n : Nat} {o o' : List Nat}, inflS s most k p o = .ok (o', n) → p < 8 * n ∧ n ≤ s.size ∧ o.length ≤ o'.length ∧ (o.length ≤ most → o'.length ≤ most)
  | 0, p, n, o, o', h => by simp [inflS] at h
  | k + 1, p, n, o, o', h => by
    obtain ⟨last, p1, kind, p2, o2, p3, h1, h2, h3, h4⟩ := inflS_step h
    have a1 := getS_ok h1
    have a2 := getS_ok h2
    have a3 := kindS_pos h3
    rcases h4 with ⟨_, rfl, rfl⟩ | ⟨_, h4⟩
    · exact ⟨by omega, by omega, a3.2.2⟩
    · have a4 := inflS_pos h4
      exact ⟨by omega, a4.2.1, by omega, fun ho => a4.2.2.2 (a3.2.2.2 ho)⟩
theorem inflS_loc {most : Nat} : ∀ {k p n : Nat} {o o' : List Nat}, inflS s most k p o = .ok (o', n) → n ≤ t.size → Agree t s (8 * n) → ∀ k', 8 * n < p + k' → inflS t most k' p o = .ok (o', n)
  | 0, p, n, o, o', h, hq, ha, k', hk => by simp [inflS] at h
  | k + 1, p, n, o, o', h, hq, ha, k', hk => by
    have a0 := inflS_pos h
    obtain ⟨k', rfl⟩ : ∃ m, k' = m + 1 := ⟨k' - 1, by omega⟩
    obtain ⟨last, p1, kind, p2, o2, p3, h1, h2, h3, h4⟩ := inflS_step h
    have a1 := getS_ok h1
    have a2 := getS_ok h2
    have a3 := kindS_pos h3
    have b3 : p3 ≤ 8 * n := by
      rcases h4 with ⟨_, rfl, rfl⟩ | ⟨_, h4⟩
      · omega
      · have := inflS_pos h4; omega
    rw [inflS, getS_loc h1 (by omega) (ha.mono (by omega))]; simp only
    rw [getS_loc h2 (by omega) (ha.mono (by omega))]; simp only
    rw [kindS_loc h3 (by omega) (ha.mono (by omega))]; simp only
    rcases h4 with ⟨hl, rfl, rfl⟩ | ⟨hl, h4⟩
    · rw [if_pos hl]
    · rw [if_neg hl]
      exact inflS_loc h4 hq ha k' (by omega)
theorem inflS_cut {most : Nat} : ∀ {k p n : Nat} {o o' : List Nat}, inflS s most k p o = .ok (o', n) → t.size < n → Agree t s (8 * t.size) → p ≤ 8 * t.size → ∀ k', 8 * t.size < p + k' → inflS t most k' p o = .error 5
  | 0, p, n, o, o', h, hq, ha, hp, k', hk => by simp [inflS] at h
  | k + 1, p, n, o, o', h, hq, ha, hp, k', hk => by
    have a0 := inflS_pos h
    obtain ⟨k', rfl⟩ : ∃ m, k' = m + 1 := ⟨k' - 1, by omega⟩
    obtain ⟨last, p1, kind, p2, o2, p3, h1, h2, h3, h4⟩ := inflS_step h
    have a1 := getS_ok h1
    have a2 := getS_ok h2
    have a3 := kindS_pos h3
    rw [inflS]
    by_cases c1 : 8 * t.size < p1
    · rw [getS_cut h1 c1]
    rw [getS_loc h1 (by omega) (ha.mono (by omega))]; simp only
    by_cases c2 : 8 * t.size < p2
    · rw [getS_cut h2 c2]
    rw [getS_loc h2 (by omega) (ha.mono (by omega))]; simp only
    by_cases c3 : 8 * t.size < p3
    · rw [kindS_cut h3 c3 ha]
    rw [kindS_loc h3 (by omega) (ha.mono (by omega))]; simp only
    rcases h4 with ⟨hl, rfl, rfl⟩ | ⟨hl, h4⟩
    · omega
    · rw [if_neg hl]
      exact inflS_cut h4 hq ha (by omega) k' (by omega)
theorem inflS_room {most most' : Nat} : ∀ {k p n : Nat} {o o' : List Nat}, inflS s most k p o = .ok (o', n) → o.length ≤ most' → inflS s most' k p o = if most' < o'.length then .error 7 else .ok (o', n)
  | 0, p, n, o, o', h, ho => by simp [inflS] at h
  | k + 1, p, n, o, o', h, ho => by
    obtain ⟨last, p1, kind, p2, o2, p3, h1, h2, h3, h4⟩ := inflS_step h
    rw [inflS, h1]; simp only
    rw [h2]; simp only
    rw [kindS_room (most' := most') h3 ho]
    rcases h4 with ⟨hl, rfl, rfl⟩ | ⟨hl, h4⟩
    · by_cases c : most' < o'.length
      · rw [if_pos c, if_pos c]
      · rw [if_neg c, if_neg c]; simp only
        rw [if_pos hl]
    · have a4 := inflS_pos h4
      by_cases c : most' < o2.length
      · rw [if_pos c, if_pos (by omega)]
      · rw [if_neg c]; simp only
        rw [if_neg hl]
        exact inflS_room h4 (by omega)
end
end Go.Proofs.Ytmdlhbhdlhjakaa

namespace Go.Proofs.Ytmdlhbhdlhjakaa
open Go.RowKit

set_option maxRecDepth 100000 in
theorem ralign_ok {w : World} {g : Nat} {s : ByteArray} {p : Nat} (h : RdSt w g s p) (hs : s.size ≤ 140737488355328) :
    Calls Try.prog 112 #[.pointer (some ⟨g, 0, none⟩)] w fun e w' => e = .returned (.tuple #[]) ∧ Chg g [73] w w' ∧ RdSt w' g s (8 * ((p + 7) / 8)) := by
  obtain ⟨m, a, hb, hm, ha, has⟩ := h
  have h1 := hb.cell 1 rfl
  have hB := Sealed.mk hb
  have HA := Sealed.mk ha
  have HT0 := (take_any (w := w.drew) (m := m) (d := m) hb.drew (Nat.lt_of_lt_of_le (val_lt (bit_le s) p m) (Nat.pow_le_pow_right (by decide) (by omega))) (by omega) (Nat.le_refl _))
  have hmm : (m : Int) % 8 = (m : Int) := by omega
  have HT : Sealed (Calls Try.prog 79 #[.pointer (some ⟨g, 0, none⟩), .int .i64 ((m : Int) % 8)] w.drew fun e w' => e = .returned (.int .i64 ((val (bit s) p m % 2 ^ m : Nat) : Int)) ∧
      IsBlk w' g (.int .i64 ((val (bit s) p m / 2 ^ m : Nat) : Int) :: .int .i64 ((m - m : Nat) : Int) :: [.string s, .int .i64 a]) 73 ∧ Chg g [73] w.drew w') := ⟨by rw [hmm]; exact HT0⟩
  clear hb ha hmm HT0
  go_enter Try.func112, Try.ntmps112
  go_wp2
  go_still_tail 9, (by kernel_rfl)
  go_wp2_with fail
  refine HT.out.mono ?_
  rintro e w1 ⟨rfl, h2, h3⟩
  have H2 := Sealed.mk h2
  have H3 := Sealed.mk h3
  clear h2 h3
  go_wp2
  go_end0
  refine ⟨rfl, (Chg.refl g _ w).drew.trans H3.out, 0, a, ?_, by omega, by have := HA.out; omega, has⟩
  have e := H2.out
  rw [Nat.sub_self] at e
  have hv : val (bit s) p m / 2 ^ m = 0 := Nat.div_eq_of_lt (val_lt (bit_le s) p m)
  rw [hv] at e
  exact e
set_option maxRecDepth 100000 in
theorem rbytes_short {w : World} {g : Nat} {s : ByteArray} {q : Nat} (h : RdSt w g s (8 * q)) (hs : s.size ≤ 140737488355328) (n : Nat) (hn : n ≤ 1000000000) (hlt : s.size < q + n) :
    Calls Try.prog 113 #[.pointer (some ⟨g, 0, none⟩), .int .i64 n] w fun e w' => e = .returned (.tuple #[.string ⟨#[]⟩, .int .i64 5]) ∧ Chg g [73] w w' ∧ RdSt w' g s (8 * q) := by
  have hq := h.le
  obtain ⟨m, a, hb, hm, ha, has⟩ := h
  obtain rfl : m = 0 := by omega
  obtain rfl : a = q := by omega
  have h1 := hb.cell 1 rfl
  have h2 := hb.cell 2 rfl
  have h3 := hb.cell 3 rfl
  have hB := Sealed.mk hb
  have h0 : decide ((n : Int) < 0) = false := decide_eq_false (by omega)
  have ht : decide ((s.size : Int) - (a : Int) < (n : Int)) = true := decide_eq_true (by omega)
  clear hb ha hq
  go_enter Try.func113, Try.ntmps113
  go_wp2
  go_quiet (fail)
  go_wp2
  go_ret2
  exact ⟨rfl, (Chg.refl _ _ w).drewN _, 0, a, hB.out.drewN _, by omega, by omega, has⟩
set_option maxRecDepth 100000 in
theorem rbytes_ok {w : World} {g : Nat} {s : ByteArray} {q : Nat} (h : RdSt w g s (8 * q)) (hs : s.size ≤ 140737488355328) (n : Nat) (hn : n ≤ 1000000000) (hlt : q + n ≤ s.size) :
    Calls Try.prog 113 #[.pointer (some ⟨g, 0, none⟩), .int .i64 n] w fun e w' => e = .returned (.tuple #[.string (s.extract q (q + n)), .int .i64 0]) ∧ Chg g [73] w w' ∧ RdSt w' g s (8 * (q + n)) := by
  have hq := h.le
  obtain ⟨m, a, hb, hm, ha, has⟩ := h
  obtain rfl : m = 0 := by omega
  obtain rfl : a = q := by omega
  have h1 := hb.cell 1 rfl
  have h2 := hb.cell 2 rfl
  have h3 := hb.cell 3 rfl
  have f0 := hb.free 0
  have f1 := hb.free 1
  have f3 := hb.free 3
  have h00 := hb.cell 0 rfl
  have hB := Sealed.mk hb
  have h0 : decide ((n : Int) < 0) = false := decide_eq_false (by omega)
  have ht : decide ((s.size : Int) - (a : Int) < (n : Int)) = false := decide_eq_false (by omega)
  clear hb ha hq
  go_enter Try.func113, Try.ntmps113
  go_wp2
  have hi1 : (a : Int) + (n : Int) ≤ (s.size : Int) := by omega
  have hi2 : ((a : Int) + (n : Int)).toNat = a + n := by omega
  have hi3 : 0 ≤ (a : Int) + (n : Int) := by omega
  have hi4 : (a : Int) ≤ (a : Int) + (n : Int) := by omega
  go_quiet (fail)
  go_wp2
  go_quiet (fail)
  go_wp2
  go_ret2
  have b1 := hB.out.set 0 (.int .i64 0)
  have c1 := (Chg.refl g [73] w).set hB.out (Nat.le_refl _) (by simp) 0 (.int .i64 0)
  have b2 := b1.set 1 (.int .i64 0)
  have c2 := c1.set b1 (Nat.le_refl _) (by simp) 1 (.int .i64 0)
  have b3 := b2.set 3 (.int .i64 ((a : Int) + (n : Int)))
  have c3 := c2.set b2 (Nat.le_refl _) (by simp) 3 (.int .i64 ((a : Int) + (n : Int)))
  refine ⟨rfl, ⟨c3.os, c3.tape, c3.output, c3.size, c3.block⟩, 0, a + n, ?_, by omega, by omega, hlt⟩
  rw [show (((a + n : Nat)) : Int) = (a : Int) + (n : Int) by omega]
  exact b3
end Go.Proofs.Ytmdlhbhdlhjakaa
