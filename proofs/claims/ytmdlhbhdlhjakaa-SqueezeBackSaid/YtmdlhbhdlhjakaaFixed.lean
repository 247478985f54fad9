/- The contract of package squeeze's Fixed. -/
import Derived.Test.YtmdlhbhdlhjakaaCopied
import Derived.Test.YtmdlhbhdlhjakaaFindW
set_option linter.unusedVariables false
set_option linter.unusedSimpArgs false
namespace Go.Proofs.Ytmdlhbhdlhjakaa
open Go.RowKit

theorem ChgW.to_below {T : List TypeId} {w w' : World} (h : ChgW w.heap.size T w w') : Below w.heap.size w w' := ⟨h.os, h.tape, h.output, h.size, fun k hk => h.block k hk (.inl hk)⟩
theorem ChgW.below_step {B : Nat} {T : List TypeId} {w w' w2 : World} (h : ChgW B T w w') (hb : Below w'.heap.size w' w2) : ChgW B T w w2 := h.step (Chg.of_below hb)
/-- A tree that lies below C. -/
def TrL (C B : Nat) (w : World) (g : Nat) (ls : List Int) : Prop :=
  B ≤ g ∧ g < C ∧ ∃ v0 v1 v2, IsBlk w g (v0 :: v1 :: (nums .i64 (cnt0 ls) ++ [v2, .int .i64 (longOf ls)])) 70 ∧
    w.ownsRow B 3 1 v0 ls.length (nums .i64 ls) ∧ w.ownsRow B 3 1 v1 ls.length (nums .i64 (codesOf ls)) ∧ w.ownsRow B 3 1 v2 (symsOf ls).length (nums .i64 (symsOf ls)) ∧
    (∀ k, v0.ownBlock = some k → k < C) ∧ (∀ k, v1.ownBlock = some k → k < C) ∧ (∀ k, v2.ownBlock = some k → k < C)
theorem TrL.st {C B : Nat} {w : World} {g : Nat} {ls : List Int} (h : TrL C B w g ls) : TrSt B w g ls := by
  obtain ⟨h1, h2, v0, v1, v2, hb, o0, o1, o2, _⟩ := h; exact ⟨h1, v0, v1, v2, hb, o0, o1, o2⟩
theorem TrL.of {B : Nat} {w : World} {g : Nat} {ls : List Int} (h : TrSt B w g ls) : TrL w.heap.size B w g ls := by
  obtain ⟨h1, v0, v1, v2, hb, o0, o1, o2⟩ := h; exact ⟨h1, hb.lt, v0, v1, v2, hb, o0, o1, o2, own_lt o0, own_lt o1, own_lt o2⟩
theorem TrL.chg {C B B' : Nat} {T : List TypeId} {w w' : World} {g : Nat} {ls : List Int} (h : TrL C B w g ls) (hc : Chg B' T w w') (h1 : 70 ∉ T) (h2 : 3 ∉ T) : TrL C B w' g ls := by
  obtain ⟨a1, a2, v0, v1, v2, hb, o0, o1, o2, l0, l1, l2⟩ := h
  exact ⟨a1, a2, v0, v1, v2, hb.chg hc (.inr h1), owns_chg o0 hc h2, owns_chg o1 hc h2, owns_chg o2 hc h2, l0, l1, l2⟩
theorem owns_ltW {B base : Nat} {T : List TypeId} {w w' : World} {e : TypeId} {size n : Nat} {v : Value} {xs : List Value} (ho : w.ownsRow base e size v n xs) (hc : ChgW B T w w') (hl : ∀ k, v.ownBlock = some k → k < B) : w'.ownsRow base e size v n xs := by
  obtain ⟨h1, h2⟩ := ho
  refine ⟨h1, ?_⟩
  rcases h2 with h2 | ⟨g, cap, cur, hv, hb, hh, r⟩
  · exact .inl h2
  · exact .inr ⟨g, cap, cur, hv, hb, (hc.block g (lt_of_block hh) (.inl (hl g (by rw [hv]; rfl)))).trans hh, r⟩
theorem TrL.chgW {C B B' : Nat} {T : List TypeId} {w w' : World} {g : Nat} {ls : List Int} (h : TrL C B w g ls) (hc : ChgW B' T w w') (hle : C ≤ B') : TrL C B w' g ls := by
  obtain ⟨a1, a2, v0, v1, v2, hb, o0, o1, o2, l0, l1, l2⟩ := h
  exact ⟨a1, a2, v0, v1, v2, hb.chgW hc (.inl (by omega)), owns_ltW o0 hc (fun k hk => by have := l0 k hk; omega), owns_ltW o1 hc (fun k hk => by have := l1 k hk; omega), owns_ltW o2 hc (fun k hk => by have := l2 k hk; omega), l0, l1, l2⟩
/-- The coder's state, its trees below C. -/
def CSL (C B : Nat) (w : World) (g n a : Nat) (l : List Nat) : Prop :=
  WrSt B w g 80 [.pointer (some ⟨n, 0, none⟩), .pointer (some ⟨a, 0, none⟩)] l ∧ TrL C B w n litL ∧ TrL C B w a distL
theorem CSL.st {C B : Nat} {w : World} {g n a : Nat} {l : List Nat} (h : CSL C B w g n a l) : CSt B w g n a l := ⟨h.1, h.2.1.st, h.2.2.st⟩
theorem CSL.of {B : Nat} {w : World} {g n a : Nat} {l : List Nat} (h : CSt B w g n a l) : CSL w.heap.size B w g n a l := ⟨h.1, .of h.2.1, .of h.2.2⟩
theorem CSL.wrote {C B : Nat} {w w' : World} {g n a : Nat} {l l' : List Nat} (h : CSL C B w g n a l) (hc : Chg B [80, 5] w w') (hw : CSt B w' g n a l') : CSL C B w' g n a l' :=
  ⟨hw.1, h.2.1.chg hc (by decide) (by decide), h.2.2.chg hc (by decide) (by decide)⟩
theorem CSL.chgW {C B B' : Nat} {T : List TypeId} {w w' : World} {g n a : Nat} {l : List Nat} (h : CSL C B w g n a l) (hc : ChgW B' T w w') (hle : C ≤ B') (h1 : 80 ∉ T) (h2 : 5 ∉ T) : CSL C B w' g n a l :=
  ⟨h.1.chgW hc h1 h2, h.2.1.chgW hc hle, h.2.2.chgW hc hle⟩
theorem CSL.drew {C B : Nat} {w : World} {g n a : Nat} {l : List Nat} (h : CSL C B w g n a l) : CSL C B w.drew g n a l := h.chgW (B' := C) (T := []) (.of_chg (Chg.refl C [] w).drew) (Nat.le_refl _) (by simp) (by simp)
theorem FSt.drew {B : Nat} {w : World} {gf gm : Nat} {s : ByteArray} {d : Nat} (h : FSt B w gf gm s d) : FSt B w.drew gf gm s d := h
theorem FSt.chg {B C : Nat} {T : List TypeId} {w w' : World} {gf gm : Nat} {s : ByteArray} {d : Nat} (h : FSt B w gf gm s d) (hc : Chg C T w w') (h1 : 84 ∉ T) (h2 : 3 ∉ T) : FSt B w' gf gm s d := by
  obtain ⟨v, a1, a2, a3, a4, a5, D, ⟨es, clock, hb, r⟩, hf⟩ := h
  refine ⟨v, a1, a2, Nat.le_trans a3 hc.size, a4.chg hc (.inr h1), owns_chg a5 hc h2, D, ⟨es, clock, (hc.block gm (Array.getElem?_eq_some_iff.1 hb).1 (.inr fun t _ hty => ?_)).trans hb, r⟩, hf⟩
  obtain ⟨cs, fz, hh⟩ := hty
  rw [hb] at hh; simp at hh
section
variable {ops : Array Oper} {rest : List Oper} {o : Oper} {a : Act} {Q : Exit → Act → World → Prop}
/-- A new map: its world goes under a name. -/
theorem ev_map {W : World} (hgd : o.guard = none) (hrun : (execOp a.eval o).run Try.prog W = .ok (.value (.map (some W.heap.size))) (W.alloc (.map #[] 0)))
    (h : ∀ gm w1, gm = W.heap.size → MapIs w1 gm 0 (fun _ => none) → Below W.heap.size W w1 → W.heap.size < w1.heap.size → wpList Try.prog ops Q rest (a.put o.dst (.map (some gm))) w1) : wpList Try.prog ops Q (o :: rest) a W :=
  ev_run hgd hrun (h _ _ rfl (MapIs.made W _ (fun _ => rfl)) ((Below.refl _ _).alloc (Nat.le_refl _) _) (by simp))
end
theorem MapIs.below {w w' : World} {b n : Nat} {f : Nat → Option Nat} (h : MapIs w b n f) (hb : Below w.heap.size w w') : MapIs w' b n f := by
  obtain ⟨D, ⟨es, clock, hh, r⟩, hf⟩ := h
  exact ⟨D, ⟨es, clock, (hb.block b (Array.getElem?_eq_some_iff.1 hh).1).trans hh, r⟩, hf⟩

set_option maxRecDepth 100000 in
set_option maxHeartbeats 1000000 in
theorem fixed_ok (s : ByteArray) (w : World) (hs : s.size ≤ 100000000) :
    Calls Try.prog 28 #[.string s] w fun e w' => e = .returned (.string (textOf (fixBits s))) ∧ Below w.heap.size w w' := by
  obtain ⟨L1, hL1⟩ : ∃ L1, L1 = numBits 1 1 ++ numBits 1 2 ++ bitsT (toksOf s) := ⟨_, rfl⟩
  have HFB : Sealed (fixBits s = L1 ++ symBits litL ((256 : Nat) : Int)) := ⟨by rw [hL1]; rfl⟩
  rw [HFB.out]
  have HL1 := Sealed.mk hL1
  clear hL1 HFB
  have hmm := @run_makeMap Try.prog
  go_enter Try.func28, Try.ntmps28
  go_wp2
  go_step3
  go_wp2_with fail
  refine (newCoder_any w).mono ?_
  rintro e w1 ⟨g, n, a, rfl, hw, hn, ha, hb⟩
  have H1 : Sealed (CSt w.heap.size w1 g n a []) := ⟨⟨hw, hn, ha⟩⟩
  have HC1 : Sealed (ChgW w.heap.size [80, 5, 84, 3] w w1) := ⟨.of_chg (Chg.of_below hb)⟩
  clear hw hn ha hb
  go_wp2_with fail
  refine (H1.out.put 1 1 rfl rfl (by omega) (by omega) (by simp)).mono ?_
  rintro e w2 ⟨rfl, h, hc⟩
  have H2 := Sealed.mk h
  have HC2 := Sealed.mk (HC1.out.step (hc.mono (Nat.le_refl _) (by simp)))
  clear h hc H1 HC1
  go_wp2_with fail
  refine (H2.out.put 1 2 rfl rfl (by omega) (by omega) (by simp [numBits_length])).mono ?_
  rintro e w3 ⟨rfl, h, hc⟩
  have H3 := Sealed.mk (CSL.of h)
  have HC3 := Sealed.mk (HC2.out.step (hc.mono (Nat.le_refl _) (by simp)))
  clear h hc H2 HC2
  go_wp2_with (first
    | ((with_reducible refine gate_dst (N := 18) rfl ?_); refine ev_map ?hg ?hr ?_; (case hg => rfl); (case hr => first | (go_simp; done) | (go_simp; rfl)); intro gm w4 hgm hm hB hsz; have GM := Sealed.mk hgm; have M4 := Sealed.mk hm; have L4 := Sealed.mk hB; clear hgm hm hB hsz)
    | ((with_reducible refine gate_dst (N := 20) rfl ?_); refine ev_box (cs := [.string s, .map (some gm), .slice none 0 0, .int .i64 0]) (t := 84) ?hg2 ?hr2 ?_; (case hg2 => rfl); (case hr2 => first | (go_simp; done) | (go_simp; rfl)); intro gf w5 hgf hbf hB hsz; have GF := Sealed.mk hgf; have F5 := Sealed.mk hbf; have L5 := Sealed.mk hB; clear hgf hbf hB hsz))
  have HF5 : Sealed (FSt w3.heap.size w5 gf gm s 0) := ⟨⟨.slice none 0 0, by rw [GF.out]; exact L4.out.size, by rw [GM.out]; exact Nat.le_refl _, Nat.le_trans L4.out.size L5.out.size, F5.out, own_nil _ _ _ _, (M4.out.below L5.out).congr (fun x => rfl)⟩⟩
  have H5 : Sealed (CSL w3.heap.size w.heap.size w5 g n a ([] ++ numBits 1 1 ++ numBits 1 2)) := ⟨(H3.out.chgW (T := []) (.of_chg (Chg.of_below (B := w3.heap.size) L4.out)) (Nat.le_refl _) (by simp) (by simp)).chgW (T := []) (.of_chg (Chg.of_below (B := w4.heap.size) L5.out)) L4.out.size (by simp) (by simp)⟩
  have HC5 := Sealed.mk ((HC3.out.below_step L4.out).below_step L5.out)
  have HW3 : Sealed (w.heap.size ≤ w3.heap.size) := ⟨HC3.out.size⟩
  generalize w3.heap.size = C at *
  clear H3 HC3 GM M4 L4 GF F5 L5 hmm
  go_step3
  go_wp2
  go_loopg [5, 6, 7] s.size (fun k s5 s6 s7 w' => ∃ (q d : Nat) (l : List Nat), s5 = .int .i64 q ∧ q ≤ s.size ∧ Sealed (d ≤ q) ∧ Sealed (s.size ≤ q + k) ∧ Sealed (l ++ bitsT (toksFrom s k q) = L1) ∧ Sealed (l.length ≤ 3 + 48 * q) ∧ Sealed (CSL C w.heap.size w' g n a l) ∧ Sealed (FSt C w' gf gm s d) ∧ Sealed (ChgW w.heap.size [80, 5, 84, 3] w w'))
  case atStart => exact ⟨0, 0, _, rfl, by omega, ⟨by omega⟩, ⟨by omega⟩, ⟨by rw [HL1.out]; rfl⟩, ⟨by simp [numBits_length]⟩, H5, HF5, HC5⟩
  case round =>
    clear H5 HF5 HC5
    obtain ⟨q, d, l, rfl, hq, HD, HK, HE, HLL, H, HF, HC⟩ := hrel
    by_cases hlt : q < s.size
    · obtain ⟨k, rfl⟩ : ∃ k, gk = k + 1 := ⟨gk - 1, by have := HK.out; omega⟩
      have hlt' : decide (q < s.size) = true := decide_eq_true hlt
      have hlt1 : (q : Int) < (s.size : Int) := by omega
      have hgood := findOf_good s q
      have he := HE.out
      rw [toksFrom, if_pos hlt] at he
      have hbyte := byteAt_get s q hlt
      have hb256 := byteAt_lt s q
      have HFI := Sealed.mk (finder_find q HF.out HD.out hq (by omega))
      obtain ⟨c, hc⟩ : ∃ c, c = byteAt s q := ⟨_, rfl⟩
      rw [← hc] at hbyte hb256 he
      clear hc
      obtain ⟨⟨N, Bk⟩, hNB⟩ : ∃ x, x = findOf s q := ⟨_, rfl⟩
      rw [← hNB] at hgood he HFI
      clear hNB
      simp only at hgood he HFI
      by_cases h3 : N < 3
      · have h3' : decide ((N : Int) < 3) = true := decide_eq_true (by omega)
        rw [if_pos h3] at he
        have HE2 : Sealed ((l ++ symBits litL (c : Int)) ++ bitsT (toksFrom s k (q + 1)) = L1) := ⟨by rw [← he]; simp [bitsT, tokBits]⟩
        have HLE := Sealed.mk (lit_len (i := c) (by omega))
        clear he hgood h3
        go_wp2_with fail
        refine HFI.out.mono ?_
        rintro e w6 ⟨rfl, hf, hc6⟩
        have HF6 := Sealed.mk hf
        have H6 := Sealed.mk (H.out.chgW hc6 (Nat.le_refl _) (by decide) (by decide))
        have HC6 := Sealed.mk (HC.out.trans (hc6.mono HW3.out (by simp)))
        clear hf hc6 HF H HC HFI
        have c3 := H6.out.st.cells.1
        go_wp2
        go_still_tail 11, (by kernel_rfl)
        go_wp2_with fail
        refine (H6.out.drew.st.lit c (by omega) (by have := HLL.out; omega) rfl).mono ?_
        rintro e w7 ⟨rfl, hst, hc7⟩
        have H7 := Sealed.mk (H6.out.drew.wrote hc7 hst)
        have HF7 := Sealed.mk (HF6.out.drew.chg hc7 (by decide) (by decide))
        have HC7 := Sealed.mk (HC6.out.drew.step (hc7.mono (Nat.le_refl _) (by simp)))
        clear hst hc7 H6 HF6 HC6 c3
        go_wp2
        go_roundg k
        case measure => omega
        case rel => exact ⟨q + 1, q, _, by go_num, by omega, ⟨by omega⟩, ⟨by have := HK.out; omega⟩, HE2, ⟨by have := HLL.out; have := HLE.out; rw [List.length_append]; omega⟩, H7, HF7, HC7⟩
      · have h3' : decide ((N : Int) < 3) = false := decide_eq_false (by omega)
        rw [if_neg h3] at he
        have HE2 : Sealed ((l ++ copyBits N Bk) ++ bitsT (toksFrom s k (q + N)) = L1) := ⟨by rw [← he]; simp [bitsT, tokBits]⟩
        have hN : 3 ≤ N ∧ N ≤ 258 ∧ 1 ≤ Bk ∧ Bk ≤ 32768 ∧ q + N ≤ s.size := by
          rcases hgood with ⟨h0, _⟩ | ⟨h1, h2, h4, h5, h6⟩
          · omega
          · have h7 := alikeOf_le s (q - Bk) q
            have h8 := (alikeOf_eq (s := s) (j := q - Bk) (q := q) (i := N - 1) (by omega)).1
            exact ⟨h1, by omega, h2, h5, by omega⟩
        obtain ⟨n3, n258, b1, bm, hqn⟩ := hN
        have HLE := Sealed.mk (copyBits_len n3 n258 b1 bm)
        clear he hgood h3
        go_wp2_with fail
        refine HFI.out.mono ?_
        rintro e w6 ⟨rfl, hf, hc6⟩
        have HF6 := Sealed.mk hf
        have H6 := Sealed.mk (H.out.chgW hc6 (Nat.le_refl _) (by decide) (by decide))
        have HC6 := Sealed.mk (HC.out.trans (hc6.mono HW3.out (by simp)))
        clear hf hc6 HF H HC HFI
        go_wp2_with fail
        refine (copied_any H6.out.st N Bk n3 n258 b1 bm (by have := HLL.out; omega)).mono ?_
        rintro e w7 ⟨rfl, hst, hc7⟩
        have H7 := Sealed.mk (H6.out.wrote hc7 hst)
        have HF7 := Sealed.mk (HF6.out.chg hc7 (by decide) (by decide))
        have HC7 := Sealed.mk (HC6.out.step (hc7.mono (Nat.le_refl _) (by simp)))
        clear hst hc7 H6 HF6 HC6
        go_wp2
        go_roundg k
        case measure => omega
        case rel => exact ⟨q + N, q, _, by go_num, hqn, ⟨by omega⟩, ⟨by have := HK.out; omega⟩, HE2, ⟨by have := HLL.out; have := HLE.out; rw [List.length_append]; omega⟩, H7, HF7, HC7⟩
    · obtain rfl : q = s.size := by omega
      have hlt' : decide (s.size < s.size) = false := decide_eq_false hlt
      have HE2 : Sealed (l = L1) := ⟨by
        have he := HE.out
        cases gk with
        | zero => simpa [toksFrom, bitsT] using he
        | succ k => rw [toksFrom, if_neg hlt] at he; simpa [bitsT] using he⟩
      have HLL2 := Sealed.mk (lit_len (i := 256) (by omega))
      have c3 := H.out.st.cells.1
      clear hlt HE HK
      go_wp2
      go_still_tail 7, (by kernel_rfl)
      go_wp2_with fail
      refine (H.out.drew.st.lit 256 (by omega) (by have := HLL.out; omega) rfl).mono ?_
      rintro e w7 ⟨rfl, hst, hc7⟩
      rw [HE2.out] at hst
      have H7 := Sealed.mk hst
      have HC7 := Sealed.mk (HC.out.drew.step (hc7.mono (Nat.le_refl _) (by simp)))
      clear hst hc7 H HF HC c3
      go_wp2_with fail
      refine (text_ok H7.out.1 (by have h1 := HLL.out; have h2 := HLL2.out; rw [HE2.out] at h1; rw [List.length_append]; omega)).mono ?_
      rintro e w8 ⟨rfl, hb⟩
      have HC8 := Sealed.mk (HC7.out.below_step hb)
      clear hb
      go_wp2
      rw [Exit.noGoto_ret]
      go_ret
      exact ⟨rfl, HC8.out.to_below⟩
end Go.Proofs.Ytmdlhbhdlhjakaa
