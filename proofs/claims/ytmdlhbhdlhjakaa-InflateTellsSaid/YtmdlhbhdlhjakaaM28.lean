/- The contract of package inflate's reaches; plain: the lengths of a block's codes. -/
import Derived.Test.YtmdlhbhdlhjakaaM27
import Derived.Test.YtmdlhbhdlhjakaaM17
set_option linter.unusedVariables false
set_option linter.unusedSimpArgs false
namespace Go.Proofs.Ytmdlhbhdlhjakaa
open Go.RowKit

theorem sumL_snoc (l : List Nat) (x : Nat) : sumL (l ++ [x]) = sumL l + x := by simp [sumL, List.foldl_append]
theorem sumL_le : ∀ (k : Nat) (l : List Nat), l.length = k → (∀ x ∈ l, x ≤ 100) → sumL l ≤ 100 * k
  | 0, l, h, _ => by
    obtain rfl := List.eq_nil_of_length_eq_zero h
    simp [sumL]
  | k + 1, l, h, hb => by
    obtain ⟨l', x, rfl⟩ : ∃ l' x, l = l' ++ [x] := ⟨l.dropLast, l.getLast (by intro e; subst e; simp at h), (List.dropLast_concat_getLast _).symm⟩
    have h1 := sumL_le k l' (by simpa using h) (fun y hy => hb y (by simp [hy]))
    have h2 := hb x (by simp)
    rw [sumL_snoc]; omega
theorem takeN_succ {l : List Nat} {i : Nat} (h : i < l.length) : l.take (i + 1) = l.take i ++ [l.getD i 0] := by
  rw [List.take_succ_eq_append_getElem h]; simp [List.getD_eq_getElem?_getD, h]
set_option maxRecDepth 100000 in
theorem reaches_ok {w : World} {A : Option Addr} {cap : Nat} (l : List Nat) (hr : Reads w .i64 A (castL l)) (hl : l.length ≤ 1000) (hb : ∀ x ∈ l, x ≤ 100) {N : Nat} (hN : N = l.length) :
    Calls Try.prog 118 #[.slice A N cap] w fun e w' => e = .returned (.bool (reachB l)) ∧ Below w.heap.size w w' := by
  subst hN
  have HCK : Sealed (∀ w', Below w.heap.size w w' → Calls Try.prog 41 #[.slice A l.length cap] w' fun e w'' => e = .returned (.int .i64 (checkOf (castL l))) ∧ Below w'.heap.size w' w'') := ⟨fun w' h => by
    have h1 := check_any A cap (castL l) w' (hr.below h)
    rw [show (castL l).length = l.length by simp [castL]] at h1
    exact h1⟩
  have HR := Sealed.mk hr
  have HB := Sealed.mk hb
  clear hr hb
  go_enter Try.func118, Try.ntmps118
  go_wp2
  go_loopg [3, 5, 8] l.length (fun k s3 s5 s8 w' => ∃ (i S : Nat), s3 = .int .i64 S ∧ s8 = .int .i64 i ∧ i ≤ l.length ∧ Sealed (k = l.length - i) ∧ S ≤ 100000 ∧ Sealed (S = sumL (l.take i)) ∧ w' = w)
  case atStart => exact ⟨0, 0, rfl, rfl, by omega, ⟨rfl⟩, by omega, ⟨rfl⟩, rfl⟩
  case round =>
    obtain ⟨i, S, rfl, rfl, hi, HK, hS, HS, rfl⟩ := hrel
    by_cases hlt : i < l.length
    · have hlt' : decide (i < l.length) = true := decide_eq_true hlt
      obtain ⟨ad, rfl, hc⟩ := HR.out.cell i (by simpa [castL] using hlt)
      rw [castL_getD] at hc
      have hx : l.getD i 0 ≤ 100 := by
        rw [List.getD_eq_getElem?_getD, List.getElem?_eq_getElem hlt]; exact HB.out _ (List.getElem_mem hlt)
      have hs : sumL (l.take (i + 1)) ≤ 100000 := by
        have := sumL_le (l.take (i + 1)).length (l.take (i + 1)) rfl (fun x hx => HB.out x (List.mem_of_mem_take hx))
        have h2 : (l.take (i + 1)).length ≤ i + 1 := List.length_take_le _ _
        omega
      have HN : Sealed (S + l.getD i 0 = sumL (l.take (i + 1))) := ⟨by rw [takeN_succ hlt, sumL_snoc, HS.out]⟩
      have hsb : S + l.getD i 0 ≤ 100000 := by rw [HN.out]; exact hs
      clear hs
      generalize l.getD i 0 = x at *
      go_wp2
      go_roundg (l.length - (i + 1))
      case measure => have := HK.out; omega
      case rel => exact ⟨i + 1, S + x, by go_num, by go_num, hlt, ⟨rfl⟩, hsb, HN, rfl⟩
    · obtain rfl : i = l.length := by omega
      have hlt' : decide (l.length < l.length) = false := decide_eq_false hlt
      have HS2 : Sealed (S = sumL l) := ⟨by rw [HS.out, List.take_length]⟩
      by_cases h2 : S < 2
      · have HRB : Sealed (reachB l = true) := ⟨by unfold reachB; rw [← HS2.out]; simp [h2]⟩
        clear hlt
        go_wp2
        go_ret
        exact ⟨ret_bool HRB.out.symm, Below.refl _ _⟩
      · have h2' : decide (S < 2) = false := decide_eq_false h2
        have h2n : ¬ (S : Int) < 2 := by omega
        have HCW := Sealed.mk (HCK.out wr (Below.refl _ _))
        by_cases hck : checkOf (castL l) = 0
        · have HRB : Sealed (reachB l = true) := ⟨by unfold reachB; simp [hck]⟩
          rw [hck] at HCW
          clear hlt hck h2
          go_wp2_with fail
          refine HCW.out.mono ?_
          rintro e w2 ⟨rfl, hb⟩
          have B2 := Sealed.mk hb
          clear hb
          go_wp2
          go_ret
          exact ⟨ret_bool HRB.out.symm, B2.out⟩
        · have HRB : Sealed (reachB l = false) := ⟨by unfold reachB; rw [← HS2.out]; simp [hck, h2]⟩
          have hne : ((checkOf (castL l) : Int) == 0) = false := by simpa using hck
          generalize checkOf (castL l) = ck at *
          clear hlt hck h2
          go_wp2_with fail
          refine HCW.out.mono ?_
          rintro e w2 ⟨rfl, hb⟩
          have B2 := Sealed.mk hb
          clear hb
          go_wp2
          go_ret
          exact ⟨ret_bool HRB.out.symm, B2.out⟩
/-! ### plain -/
theorem rowS_len {s : ByteArray} {tl : List Int} {many : Nat} (hn : 0 < tl.length) (hb : tl.length ≤ 19) : ∀ {k p q : Nat} {r r' : List Nat}, rowS s tl many k p r = .ok (r', q) → r.length ≤ many → (∀ x ∈ r, x < 19) → r'.length = many ∧ ∀ x ∈ r', x < 19
  | 0, p, q, r, r', h, _, _ => by simp [rowS] at h
  | k + 1, p, q, r, r', h, hl, hr => by
    rw [rowS] at h
    split at h
    · simp at h
      obtain ⟨rfl, rfl⟩ := h
      exact ⟨by omega, hr⟩
    · cases h1 : symS s tl p with
      | error e => rw [h1] at h; cases h
      | ok x =>
        obtain ⟨n, p1⟩ := x
        have hn19 := symS_lt h1 hn
        rw [h1] at h
        simp only at h
        split at h
        · cases h
        · cases h2 : toldS s (spanOf n) p1 with
          | error e => rw [h2] at h; cases h
          | ok x =>
            obtain ⟨t', p2⟩ := x
            rw [h2] at h
            simp only at h
            split at h
            · cases h
            · refine rowS_len hn hb h (by simp; omega) (fun x hx => ?_)
              rcases List.mem_append.1 hx with hx | hx
              · exact hr x hx
              · rw [List.eq_of_mem_replicate hx]
                unfold whatOf
                split
                · rename_i h16
                  by_cases hz : r.length - 1 < r.length
                  · rw [List.getD_eq_getElem?_getD, List.getElem?_eq_getElem hz]; exact hr _ (List.getElem_mem hz)
                  · rw [List.getD_eq_getElem?_getD, List.getElem?_eq_none (by omega)]; decide
                · split
                  · omega
                  · split <;> omega
theorem rsum_le_one : ∀ (k : Nat) (l : List Nat), l.length = k → sumL l < 2 → rsum (castL l) = 16384 * (sumL l : Int) ∧ (castL l).all lenOk = true
  | 0, l, h, _ => by
    obtain rfl := List.eq_nil_of_length_eq_zero h
    exact ⟨by decide, by decide⟩
  | k + 1, l, h, hs => by
    obtain ⟨l', x, rfl⟩ : ∃ l' x, l = l' ++ [x] := ⟨l.dropLast, l.getLast (by intro e; subst e; simp at h), (List.dropLast_concat_getLast _).symm⟩
    rw [sumL_snoc] at hs
    obtain ⟨h1, h2⟩ := rsum_le_one k l' (by simpa using h) (by omega)
    have e : castL (l' ++ [x]) = castL l' ++ [(x : Int)] := by simp [castL]
    rw [e, rsum_snoc, h1, sumL_snoc, all_snoc, h2]
    rcases Nat.lt_or_ge x 1 with hx | hx
    · obtain rfl : x = 0 := by omega
      exact ⟨by simp [partOf], by decide⟩
    · obtain rfl : x = 1 := by omega
      exact ⟨by simp [partOf]; omega, by decide⟩
theorem reach_may {l : List Nat} (hl : l.length ≤ 320) (h : reachB l = true) : mayOf (checkOf (castL l)) = 0 := by
  unfold reachB at h
  by_cases hc : checkOf (castL l) = 0
  · rw [hc]; decide
  · have hs : sumL l < 2 := by simpa [hc] using h
    obtain ⟨h1, h2⟩ := rsum_le_one l.length l rfl hs
    have hlen : (castL l).length = l.length := by simp [castL]
    rw [← rcheck_eq]
    unfold rcheckOf
    rw [if_neg (by omega), if_pos h2, h1]
    rcases Nat.lt_or_ge (sumL l) 1 with hx | hx
    · rw [show sumL l = 0 by omega]; decide
    · rw [show sumL l = 1 by omega]; decide
end Go.Proofs.Ytmdlhbhdlhjakaa
