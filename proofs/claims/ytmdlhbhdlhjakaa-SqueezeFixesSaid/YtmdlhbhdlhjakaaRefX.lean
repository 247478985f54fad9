/- The contracts of the document's answer: Fixed, Best of layer 11. -/
import Derived.Test.YtmdlhbhdlhjakaaRefT
import Derived.Test.YtmdlhbhdlhjakaaBest
set_option linter.unusedVariables false
set_option linter.unusedSimpArgs false
namespace Go.Proofs.Ytmdlhbhdlhjakaa
open Go.RowKit

theorem below_drewN {B : Nat} {w w' : World} (h : Below B w w') (n : Nat) : Below B w (w'.drewN n) := ⟨h.os, h.tape, h.output, h.size, h.block⟩
def AllBits (l : List Nat) : Prop := ∀ x ∈ l, x ≤ 1
theorem AllBits.isBits {l : List Nat} (h : AllBits l) : IsBits (lf l) := fun i => by
  by_cases hi : i < l.length
  · have : lf l i = l[i] := by simp [lf, List.getD_eq_getElem?_getD, hi]
    rw [this]; exact h _ (List.getElem_mem hi)
  · rw [lf_past (by omega)]; omega
theorem AllBits.append {a b : List Nat} (h : AllBits a) (k : AllBits b) : AllBits (a ++ b) := fun x hx => (List.mem_append.1 hx).elim (h x) (k x)
theorem numBits_all (n w : Nat) : AllBits (numBits n w) := fun x hx => by
  simp only [numBits, List.mem_map] at hx
  obtain ⟨j, _, rfl⟩ := hx; omega
theorem codeBits_all (c : Nat) : ∀ n, AllBits (codeBits c n)
  | 0 => fun x hx => by simp [codeBits] at hx
  | n + 1 => fun x hx => by
    rw [codeBits, List.mem_cons] at hx
    rcases hx with rfl | hx
    · omega
    · exact codeBits_all c n x hx
theorem tokBits_all : ∀ t, AllBits (tokBits t)
  | .lit c => codeBits_all _ _
  | .copy n b => (((codeBits_all _ _).append (numBits_all _ _)).append ((codeBits_all _ _).append (numBits_all _ _)))
theorem bitsT_all (ts : List Tok) : AllBits (bitsT ts) := fun x hx => by
  simp only [bitsT, List.mem_flatMap] at hx
  obtain ⟨t, _, hx⟩ := hx
  exact tokBits_all t x hx
theorem fixBits_all (s : ByteArray) : AllBits (fixBits s) := (((numBits_all _ _).append (numBits_all _ _)).append (bitsT_all _)).append (codeBits_all _ _)
theorem dist_code : ∀ d, d < 32 → (codesOf distL).getD d 0 = (d : Int) := by decide +kernel
theorem symBits_dist {d : Nat} (h : d < 32) : symBits distL (d : Int) = codeBits d 5 := by
  unfold symBits
  rw [Int.toNat_natCast, dist_code d h, Int.toNat_natCast, distL_get h]; rfl
/-- The lengths and codes that are read, of the fixed codes. -/
def FixRows (w : World) (A1 A2 A3 : Option Addr) : Prop := Reads w .i64 A1 litL ∧ Reads w .i64 A2 distL ∧ Reads w .i64 A3 (codesOf litL)
theorem FixRows.below {w w' : World} {A1 A2 A3 : Option Addr} (h : FixRows w A1 A2 A3) (hb : Below w.heap.size w w') : FixRows w' A1 A2 A3 := ⟨h.1.below hb, h.2.1.below hb, h.2.2.below hb⟩
theorem codesOf_litL_len : (codesOf litL).length = 288 := by decide +kernel
/-- A symbol's two cells, the width and the code, and what they are as bits. -/
theorem FixRows.lit {w : World} {A1 A2 A3 : Option Addr} (h : FixRows w A1 A2 A3) {k : Nat} (hk : k < 288) : ∃ a1 a3 d C, A1 = some a1 ∧ A3 = some a3 ∧ w.cell? (a1.add k) = some (.int .i64 ((d : Nat) : Int)) ∧ w.cell? (a3.add k) = some (.int .i64 ((C : Nat) : Int)) ∧
    d ≤ 9 ∧ C ≤ 1000000000 ∧ symBits litL (k : Int) = codeBits C d := by
  obtain ⟨a1, e1, c1⟩ := h.1.cell k (by rw [litL_ok.2.2]; exact hk)
  obtain ⟨a3, e3, c3⟩ := h.2.2.cell k (by rw [codesOf_litL_len]; exact hk)
  have hn : litL.length ≤ 320 := by rw [litL_ok.2.2]; decide
  have hb := litF_bd k
  have h0 := codesOf_nn hn k
  have h1 := codesOf_le hn k
  rw [litL_get hk] at c1
  refine ⟨a1, a3, (litF k).toNat, ((codesOf litL).getD k 0).toNat, e1, e3, ?_, ?_, by omega, by omega, ?_⟩
  · rw [c1, Int.toNat_of_nonneg (by omega)]
  · rw [c3, Int.toNat_of_nonneg h0]
  · unfold symBits
    rw [Int.toNat_natCast, litL_get hk]
theorem FixRows.dist {w : World} {A1 A2 A3 : Option Addr} (h : FixRows w A1 A2 A3) {k : Nat} (hk : k < 32) : ∃ a2, A2 = some a2 ∧ w.cell? (a2.add k) = some (.int .i64 5) := by
  obtain ⟨a2, e2, c2⟩ := h.2.1.cell k (by rw [distL_ok.2.2]; exact hk)
  rw [distL_get hk] at c2
  exact ⟨a2, e2, c2⟩

set_option maxRecDepth 100000 in
set_option maxHeartbeats 1000000 in
theorem rfixed11 (s : ByteArray) (w : World) (hs : s.size ≤ 1000000) :
    Calls Try.prog 29 #[.string s] w fun e w' => e = .returned (.string (fixedB s)) ∧ Below w.heap.size w w' := by
  unfold fixedB
  obtain ⟨L1, hL1⟩ : ∃ L1, L1 = numBits 1 1 ++ numBits 1 2 ++ bitsT (toksOf s) := ⟨_, rfl⟩
  have HFB : Sealed (fixBits s = L1 ++ symBits litL ((256 : Nat) : Int)) := ⟨by rw [hL1]; rfl⟩
  have HALL := Sealed.mk (fixBits_all s).isBits
  rw [HFB.out] at HALL ⊢
  have HL1 := Sealed.mk hL1
  clear hL1 HFB
  go_enter Try.func29, Try.ntmps29
  go_wp2_with fail
  refine (rfixed10 w).mono ?_
  rintro e w1 ⟨A1, c1, A2, c2, rfl, h1, h2, hb⟩
  have H1 := Sealed.mk h1
  have H2 := Sealed.mk h2
  have B1 := Sealed.mk hb
  clear h1 h2 hb
  have hcod := rcodes_good (cap := c1) H1.out (by rw [litL_ok.2.2]; decide) litL_ok.1 litL_ok.2.1
  rw [litL_ok.2.2] at hcod
  have HCOD := Sealed.mk hcod
  clear hcod
  go_wp2_with fail
  refine HCOD.out.mono ?_
  rintro e w2 ⟨v, rfl, ho, hb⟩
  obtain ⟨A3, c3, rfl⟩ := own_slice ho
  have HF2 : Sealed (FixRows w2 A1 A2 A3) := ⟨H1.out.below hb, H2.out.below hb, own_reads ho⟩
  have B2 := Sealed.mk (B1.out.trans (hb.mono B1.out.size))
  clear ho hb H1 H2 B1 HCOD
  have hnil : Sealed (∀ w : World, Reads w .i64 none (castL [])) := ⟨fun w => ⟨by simp [castL], fun h => by simp [castL] at h⟩⟩
  go_wp2_with fail
  refine (rnumber (l := []) (cap := 0) (hnil.out w2) 1 1 (by omega) (by omega) (by simp) rfl rfl).mono ?_
  rintro e w3 ⟨A4, c4, rfl, h4, hb⟩
  have H4 := Sealed.mk h4
  have HF3 := Sealed.mk (HF2.out.below hb)
  have B3 := Sealed.mk (B2.out.trans (hb.mono B2.out.size))
  clear h4 hb HF2 B2
  have HN := Sealed.mk (rnumber (l := [] ++ numBits 1 1) (cap := c4) H4.out 1 2 (by omega) (by omega) (by simp [numBits_length]) (N := 1) (D := 2) rfl rfl)
  obtain ⟨LA, hLA⟩ : ∃ LA, LA = [] ++ numBits 1 1 := ⟨_, rfl⟩
  rw [← hLA] at HN
  have HLA := Sealed.mk hLA
  have hlLA : Sealed (LA.length = 1) := ⟨by rw [hLA]; rfl⟩
  rw [← hLA]
  clear hLA
  go_wp2_with fail
  refine HN.out.mono ?_
  rintro e w4 ⟨A5, c5, rfl, h5, hb⟩
  have H5 := Sealed.mk h5
  have HF4 := Sealed.mk (HF3.out.below hb)
  have B4 := Sealed.mk (B3.out.trans (hb.mono B3.out.size))
  clear h5 hb HF3 B3 HN
  obtain ⟨LB, hLB⟩ : ∃ LB, LB = LA ++ numBits 1 2 := ⟨_, rfl⟩
  rw [← hLB] at H5 ⊢
  have HLB : Sealed (LB ++ bitsT (toksFrom s s.size 0) = L1) := ⟨by rw [hLB, HLA.out, HL1.out]; rfl⟩
  have HLBL : Sealed (LB.length ≤ 3) := ⟨by rw [hLB, List.length_append, hlLA.out, numBits_length]; omega⟩
  clear hLB hlLA HLA HL1 H4
  go_wp2
  go_loopg [7, 8, 9, 10, 11, 12, 13] s.size (fun k s7 s8 s9 s10 s11 s12 s13 w' => ∃ (q : Nat) (l : List Nat) (A : Option Addr) (c : Nat), s7 = .slice A l.length c ∧ s8 = .int .i64 q ∧ q ≤ s.size ∧ Sealed (s.size ≤ q + k) ∧ Sealed (l ++ bitsT (toksFrom s k q) = L1) ∧ Sealed (l.length ≤ 3 + 48 * q) ∧ Sealed (Reads w' .i64 A (castL l)) ∧ Sealed (FixRows w' A1 A2 A3) ∧ Sealed (Below w.heap.size w w'))
  case atStart => exact ⟨0, LB, A5, c5, rfl, rfl, by omega, ⟨by omega⟩, HLB, ⟨by have := HLBL.out; omega⟩, H5, HF4, B4⟩
  case round =>
    clear HLB HLBL H5 HF4 B4
    obtain ⟨q, l, A, c, rfl, rfl, hq, HK, HE, HLL, HR, HF, HB⟩ := hrel
    by_cases hlt : q < s.size
    · obtain ⟨k, rfl⟩ : ∃ k, gk = k + 1 := ⟨gk - 1, by have := HK.out; omega⟩
      have hlt' : decide (q < s.size) = true := decide_eq_true hlt
      have hlt1 : (q : Int) < (s.size : Int) := by omega
      have hpf := pieceR_find s q
      have hgood := findOf_good s q
      have he := HE.out
      rw [toksFrom, if_pos hlt] at he
      have hbyte := byteAt_get s q hlt
      have hb256 := byteAt_lt s q
      have HPI := Sealed.mk (piece_any s q hq (by omega) wr)
      obtain ⟨ch, hc⟩ : ∃ c, c = byteAt s q := ⟨_, rfl⟩
      rw [← hc] at hbyte hb256 he
      clear hc
      obtain ⟨⟨N, Bk⟩, hNB⟩ : ∃ x, x = pieceR s q q 0 0 := ⟨_, rfl⟩
      rw [← hNB] at hpf HPI
      clear hNB
      simp only at hpf HPI
      rcases hpf with ⟨h3, hf3⟩ | ⟨h3, hfe⟩
      · have h3' : decide ((N : Int) < 3) = true := decide_eq_true (by omega)
        rw [if_pos hf3] at he
        have HE2 : Sealed ((l ++ symBits litL (ch : Int)) ++ bitsT (toksFrom s k (q + 1)) = L1) := ⟨by rw [← he]; simp [bitsT, tokBits]⟩
        have HLE := Sealed.mk (lit_len (i := ch) (by omega))
        clear he hgood h3 hf3 HE
        go_wp2_with fail
        refine HPI.out.mono ?_
        rintro e w6 ⟨rfl, m6, hw6⟩
        have HR6 : Sealed (Reads w6 .i64 A (castL l)) := ⟨by rw [hw6]; exact HR.out⟩
        have HF6 : Sealed (FixRows w6 A1 A2 A3) := ⟨by rw [hw6]; exact HF.out⟩
        have HB6 : Sealed (Below w.heap.size w w6) := ⟨by rw [hw6]; exact below_drewN HB.out m6⟩
        obtain ⟨a1, a3, d, C, rfl, rfl, x1, x3, hd, hC, hsym⟩ := HF6.out.lit (k := ch) (by omega)
        have HSY := Sealed.mk hsym
        have hci : (ch : Int) < 288 := by omega
        clear hw6 HR HF HB HPI hsym
        go_wp2
        go_still_tail 9, (by kernel_rfl)
        have HPU := Sealed.mk (rput09 (w := w6.drew) (cap := c) (l := l) HR6.out C d (by omega) hC (by have := HLL.out; omega) rfl rfl)
        rw [← HSY.out] at HPU
        obtain ⟨l2, hl2⟩ : ∃ l2, l2 = l ++ symBits litL (ch : Int) := ⟨_, rfl⟩
        rw [← hl2] at HPU HE2
        have HLL2 : Sealed (l2.length ≤ 3 + 48 * (q + 1)) := ⟨by rw [hl2, List.length_append]; have := HLL.out; have := HLE.out; omega⟩
        clear hl2
        go_wp2_with fail
        refine HPU.out.mono ?_
        rintro e w7 ⟨A7, c7, rfl, h7, hb⟩
        have H7 := Sealed.mk h7
        have HF7 : Sealed (FixRows w7 (some a1) A2 (some a3)) := ⟨FixRows.below (w := w6.drew) HF6.out hb⟩
        have HB7 := Sealed.mk (HB6.out.drew.trans (hb.mono HB6.out.size))
        clear h7 hb HPU HR6 HF6 HB6 x1 x3
        go_wp2
        go_roundg k
        case measure => omega
        case rel => exact ⟨q + 1, l2, A7, c7, rfl, by go_num, by omega, ⟨by have := HK.out; omega⟩, HE2, HLL2, H7, HF7, HB7⟩
      · have h3' : decide ((N : Int) < 3) = false := decide_eq_false (by omega)
        rw [hfe] at he hgood
        simp only at he hgood
        rw [if_neg (by omega)] at he
        have HE2 : Sealed ((l ++ copyBits N Bk) ++ bitsT (toksFrom s k (q + N)) = L1) := ⟨by rw [← he]; simp [bitsT, tokBits]⟩
        have hN : 3 ≤ N ∧ N ≤ 258 ∧ 1 ≤ Bk ∧ Bk ≤ 32768 ∧ q + N ≤ s.size := by
          rcases hgood with ⟨h0, _⟩ | ⟨h1, h2, h4, h5, h6⟩
          · omega
          · have h7 := alikeOf_le s (q - Bk) q
            have h8 := (alikeOf_eq (s := s) (j := q - Bk) (q := q) (i := N - 1) (by omega)).1
            exact ⟨h1, by omega, h2, h5, by omega⟩
        obtain ⟨n3, n258, b1, bm, hqn⟩ := hN
        have HLE := Sealed.mk (copyBits_len n3 n258 b1 bm)
        obtain ⟨k1, k2, k3, k4⟩ := codeOf_len n3 n258
        obtain ⟨d1, d2, d3, d4⟩ := codeOf_dist b1 bm
        have HLC : Sealed (∀ w, Calls Try.prog 56 #[.int .i64 N] w fun e w' => e = .returned (.int .i64 (codeOf lenT N)) ∧ w = w') := ⟨fun w => length11_any N n3 n258 w⟩
        have HDC : Sealed (∀ w, Calls Try.prog 57 #[.int .i64 Bk] w fun e w' => e = .returned (.int .i64 (codeOf distT Bk)) ∧ w = w') := ⟨fun w => distance11_any Bk b1 bm w⟩
        have HCB : Sealed (l ++ copyBits N Bk = ((l ++ symBits litL ((257 + codeOf lenT N : Nat) : Int)) ++ numBits (N - leastOf lenT (codeOf lenT N)) (extraOf lenT (codeOf lenT N))) ++ codeBits (codeOf distT Bk) 5 ++ numBits (Bk - leastOf distT (codeOf distT Bk)) (extraOf distT (codeOf distT Bk))) := ⟨by
          unfold copyBits; rw [symBits_dist (by omega)]; simp only [List.append_assoc]⟩
        have hkl := lit_len (i := 257 + codeOf lenT N) (by omega)
        generalize codeOf lenT N = K at *
        generalize codeOf distT Bk = D at *
        have HL10 : Sealed (∀ w, Calls Try.prog 58 #[.int .i64 K] w fun e w' => e = .returned (.int .i64 (leastOf lenT K)) ∧ w = w') := ⟨fun w => length10_any K k1 w⟩
        have HD10 : Sealed (∀ w, Calls Try.prog 60 #[.int .i64 D] w fun e w' => e = .returned (.int .i64 (leastOf distT D)) ∧ w = w') := ⟨fun w => distance10_any D d1 w⟩
        have HX1 : Sealed (K < 28 → ∀ w, Calls Try.prog 59 #[.int .i64 K, .int .i64 8, .int .i64 4] w fun e w' => e = .returned (.int .i64 (extraOf lenT K)) ∧ w = w') := ⟨fun h w => by rw [← (lenSum_ok K h).2.1]; exact extra_any K 8 4 (by omega) (by omega) (by omega) (by omega) w⟩
        have HX2 : Sealed (∀ w, Calls Try.prog 59 #[.int .i64 D, .int .i64 4, .int .i64 2] w fun e w' => e = .returned (.int .i64 (extraOf distT D)) ∧ w = w') := ⟨fun w => by rw [← (distSum_ok D d1).2.1]; exact extra_any D 4 2 (by omega) (by omega) (by omega) (by omega) w⟩
        have HK28 : Sealed (K = 28 → extraOf lenT K = 0) := ⟨fun h => by rw [h]; rfl⟩
        generalize leastOf lenT K = kl at *
        generalize extraOf lenT K = ke at *
        generalize leastOf distT D = dl at *
        generalize extraOf distT D = de at *
        have K3 := Sealed.mk k3
        have D3 := Sealed.mk d3
        have KL := Sealed.mk hkl
        clear he hgood h3 hfe HE hbyte hb256 k3 d3 hkl
        go_wp2_with fail
        refine HPI.out.mono ?_
        rintro e w6 ⟨rfl, m6, hw6⟩
        have HR6 : Sealed (Reads w6 .i64 A (castL l)) := ⟨by rw [hw6]; exact HR.out⟩
        have HF6 : Sealed (FixRows w6 A1 A2 A3) := ⟨by rw [hw6]; exact HF.out⟩
        have HB6 : Sealed (Below w.heap.size w w6) := ⟨by rw [hw6]; exact below_drewN HB.out m6⟩
        clear hw6 HR HF HB HPI
        go_wp2_with fail
        refine (HLC.out _).mono ?_
        rintro e w' ⟨rfl, rfl⟩
        go_wp2_with fail
        refine (HDC.out _).mono ?_
        rintro e w' ⟨rfl, rfl⟩
        obtain ⟨a1, a3, d, C, rfl, rfl, x1, x3, hd, hC, hsym⟩ := HF6.out.lit (k := 257 + K) (by omega)
        have HSY := Sealed.mk hsym
        have hci : 257 + (K : Int) < 288 := by omega
        have hcn : (257 + (K : Int)).toNat = 257 + K := by omega
        have hc0 : 0 ≤ 257 + (K : Int) := by omega
        have hcw : IntKind.i64.wrap (257 + (K : Int)) = 257 + (K : Int) := by rw [IntKind.wrap_i64]; omega
        clear hsym
        go_wp2
        go_still_tail 11, (by kernel_rfl)
        have HPU := Sealed.mk (rput09 (w := w6.drew) (cap := c) (l := l) HR6.out C d (by omega) hC (by have := HLL.out; omega) rfl rfl)
        rw [← HSY.out] at HPU
        obtain ⟨l2, hl2⟩ : ∃ l2, l2 = l ++ symBits litL ((257 + K : Nat) : Int) := ⟨_, rfl⟩
        rw [← hl2] at HPU HCB
        have HLL2 : Sealed (l2.length ≤ 18 + 48 * q) := ⟨by rw [hl2, List.length_append]; have := HLL.out; have := KL.out; omega⟩
        clear hl2
        go_wp2_with fail
        refine HPU.out.mono ?_
        rintro e w7 ⟨A7, c7, rfl, h7, hb⟩
        have H7 := Sealed.mk h7
        have HF7 : Sealed (FixRows w7 (some a1) A2 (some a3)) := ⟨FixRows.below (w := w6.drew) HF6.out hb⟩
        have HB7 := Sealed.mk (HB6.out.drew.trans (hb.mono HB6.out.size))
        clear h7 hb HPU HR6 HF6 HB6 x1 x3
        clear hcw hc0 hcn
        by_cases hK : K < 28
        · go_wp2_with fail
          refine (HL10.out _).mono ?_
          rintro e w' ⟨rfl, rfl⟩
          go_wp2_with fail
          refine (HX1.out hK _).mono ?_
          rintro e w' ⟨rfl, rfl⟩
          have HPN1 := Sealed.mk (rnumber (cap := c7) (l := l2) H7.out (N - kl) ke (by omega) K3.out (by have := HLL2.out; omega) (N := (N : Int) - (kl : Int)) (by omega) rfl)
          obtain ⟨l3, hl3⟩ : ∃ l3, l3 = l2 ++ numBits (N - kl) ke := ⟨_, rfl⟩
          rw [← hl3] at HPN1 HCB
          have HLL3 : Sealed (l3.length ≤ 23 + 48 * q) := ⟨by rw [hl3, List.length_append, numBits_length]; have := HLL2.out; omega⟩
          clear hl3
          go_wp2_with fail
          refine HPN1.out.mono ?_
          rintro e w8 ⟨A8, c8, rfl, h8, hb⟩
          have H8 := Sealed.mk h8
          have HF8 := Sealed.mk (HF7.out.below hb)
          have HB8 := Sealed.mk (HB7.out.trans (hb.mono HB7.out.size))
          clear h8 hb HPN1 H7 HF7 HB7
          obtain ⟨a2, rfl, x2⟩ := HF8.out.dist (k := D) (by omega)
          have hdi : (D : Int) < 32 := by omega
          have HPD := Sealed.mk (rput09 (cap := c8) (l := l3) H8.out D 5 (by omega) (by omega) (by have := HLL3.out; omega) rfl (D := 5) rfl)
          obtain ⟨l4, hl4⟩ : ∃ l4, l4 = l3 ++ codeBits D 5 := ⟨_, rfl⟩
          rw [← hl4] at HPD HCB
          have HLL4 : Sealed (l4.length ≤ 28 + 48 * q) := ⟨by rw [hl4, List.length_append, codeBits_len]; have := HLL3.out; omega⟩
          clear hl4
          go_wp2_with fail
          refine HPD.out.mono ?_
          rintro e w9 ⟨A9, c9, rfl, h9, hb⟩
          have H9 := Sealed.mk h9
          have HF9 := Sealed.mk (HF8.out.below hb)
          have HB9 := Sealed.mk (HB8.out.trans (hb.mono HB8.out.size))
          clear h9 hb HPD H8 HF8 HB8 x2
          go_wp2_with fail
          refine (HD10.out _).mono ?_
          rintro e w' ⟨rfl, rfl⟩
          go_wp2_with fail
          refine (HX2.out _).mono ?_
          rintro e w' ⟨rfl, rfl⟩
          have HPN := Sealed.mk (rnumber (cap := c9) (l := l4) H9.out (Bk - dl) de (by omega) D3.out (by have := HLL4.out; omega) (N := (Bk : Int) - (dl : Int)) (by omega) rfl)
          obtain ⟨l5, hl5⟩ : ∃ l5, l5 = l4 ++ numBits (Bk - dl) de := ⟨_, rfl⟩
          rw [← hl5] at HPN HCB
          have HLL5 : Sealed (l5.length ≤ 3 + 48 * (q + N)) := ⟨by rw [hl5, List.length_append, numBits_length]; have := HLL4.out; omega⟩
          clear hl5
          go_wp2_with fail
          refine HPN.out.mono ?_
          rintro e w10 ⟨A10, c10, rfl, h10, hb⟩
          have H10 := Sealed.mk h10
          have HF10 := Sealed.mk (HF9.out.below hb)
          have HB10 := Sealed.mk (HB9.out.trans (hb.mono HB9.out.size))
          rw [HCB.out] at HE2
          clear h10 hb HPN H9 HF9 HB9
          go_wp2
          go_roundg k
          case measure => omega
          case rel => exact ⟨q + N, l5, A10, c10, rfl, by go_num, hqn, ⟨by have := HK.out; omega⟩, HE2, HLL5, H10, HF10, HB10⟩
        · have hke : ke = 0 := HK28.out (by omega)
          have HCB2 : Sealed (l ++ copyBits N Bk = l2 ++ codeBits D 5 ++ numBits (Bk - dl) de) := ⟨by rw [HCB.out, hke]; simp [numBits]⟩
          clear HCB hke
          have HCB := HCB2
          clear HCB2
          obtain ⟨l3, hl3⟩ : ∃ l3, l3 = l2 := ⟨_, rfl⟩
          subst hl3
          obtain ⟨A8, hA8⟩ : ∃ A8, A8 = A7 := ⟨_, rfl⟩
          subst hA8
          obtain ⟨c8, hc8⟩ : ∃ c8, c8 = c7 := ⟨_, rfl⟩
          subst hc8
          have HLL3 : Sealed (l3.length ≤ 23 + 48 * q) := ⟨by have := HLL2.out; omega⟩
          have H8 := H7
          have HF8 := HF7
          have HB8 := HB7
          clear H7 HF7 HB7
          obtain ⟨a2, rfl, x2⟩ := HF8.out.dist (k := D) (by omega)
          have hdi : (D : Int) < 32 := by omega
          have HPD := Sealed.mk (rput09 (cap := c8) (l := l3) H8.out D 5 (by omega) (by omega) (by have := HLL3.out; omega) rfl (D := 5) rfl)
          obtain ⟨l4, hl4⟩ : ∃ l4, l4 = l3 ++ codeBits D 5 := ⟨_, rfl⟩
          rw [← hl4] at HPD HCB
          have HLL4 : Sealed (l4.length ≤ 28 + 48 * q) := ⟨by rw [hl4, List.length_append, codeBits_len]; have := HLL3.out; omega⟩
          clear hl4
          go_wp2_with fail
          refine HPD.out.mono ?_
          rintro e w9 ⟨A9, c9, rfl, h9, hb⟩
          have H9 := Sealed.mk h9
          have HF9 := Sealed.mk (HF8.out.below hb)
          have HB9 := Sealed.mk (HB8.out.trans (hb.mono HB8.out.size))
          clear h9 hb HPD H8 HF8 HB8 x2
          go_wp2_with fail
          refine (HD10.out _).mono ?_
          rintro e w' ⟨rfl, rfl⟩
          go_wp2_with fail
          refine (HX2.out _).mono ?_
          rintro e w' ⟨rfl, rfl⟩
          have HPN := Sealed.mk (rnumber (cap := c9) (l := l4) H9.out (Bk - dl) de (by omega) D3.out (by have := HLL4.out; omega) (N := (Bk : Int) - (dl : Int)) (by omega) rfl)
          obtain ⟨l5, hl5⟩ : ∃ l5, l5 = l4 ++ numBits (Bk - dl) de := ⟨_, rfl⟩
          rw [← hl5] at HPN HCB
          have HLL5 : Sealed (l5.length ≤ 3 + 48 * (q + N)) := ⟨by rw [hl5, List.length_append, numBits_length]; have := HLL4.out; omega⟩
          clear hl5
          go_wp2_with fail
          refine HPN.out.mono ?_
          rintro e w10 ⟨A10, c10, rfl, h10, hb⟩
          have H10 := Sealed.mk h10
          have HF10 := Sealed.mk (HF9.out.below hb)
          have HB10 := Sealed.mk (HB9.out.trans (hb.mono HB9.out.size))
          rw [HCB.out] at HE2
          clear h10 hb HPN H9 HF9 HB9
          go_wp2
          go_roundg k
          case measure => omega
          case rel => exact ⟨q + N, l5, A10, c10, rfl, by go_num, hqn, ⟨by have := HK.out; omega⟩, HE2, HLL5, H10, HF10, HB10⟩
    · obtain rfl : q = s.size := by omega
      have hlt' : decide (s.size < s.size) = false := decide_eq_false hlt
      have HE2 : Sealed (l = L1) := ⟨by
        have he := HE.out
        cases gk with
        | zero => simpa [toksFrom, bitsT] using he
        | succ k => rw [toksFrom, if_neg hlt] at he; simpa [bitsT] using he⟩
      obtain ⟨a1, a3, d, C, rfl, rfl, x1, x3, hd, hC, hsym⟩ := HF.out.lit (k := 256) (by omega)
      have HSY := Sealed.mk hsym
      have HLLE := Sealed.mk (lit_len (i := 256) (by omega))
      obtain rfl := HE2.out
      have y1 : wr.cell? ⟨a1.block, a1.off + 256, none⟩ = some (.int .i64 ((d : Nat) : Int)) := x1
      have y3 : wr.cell? ⟨a3.block, a3.off + 256, none⟩ = some (.int .i64 ((C : Nat) : Int)) := x3
      clear hlt HE HK hsym x1 x3
      go_wp2
      go_still_tail 7, (by kernel_rfl)
      have HPU := Sealed.mk (rput09 (w := wr.drew) (cap := c) (l := l) HR.out C d (by omega) hC (by have := HLL.out; omega) rfl rfl)
      rw [← HSY.out] at HPU
      have HLW : Sealed ((l ++ symBits litL ((256 : Nat) : Int)).length ≤ 18 + 48 * s.size) := ⟨by rw [List.length_append]; have := HLL.out; have := HLLE.out; omega⟩
      obtain ⟨l2, hl2⟩ : ∃ l2, l2 = l ++ symBits litL ((256 : Nat) : Int) := ⟨_, rfl⟩
      rw [← hl2] at HPU HLW HALL
      have HL2 := Sealed.mk hl2
      clear hl2
      go_wp2_with fail
      refine HPU.out.mono ?_
      rintro e w7 ⟨A7, c7, rfl, h7, hb⟩
      have H7 := Sealed.mk h7
      have HB7 := Sealed.mk (HB.out.drew.trans (hb.mono HB.out.size))
      clear h7 hb HPU HR HF HB y1 y3
      go_wp2_with fail
      refine (rtext (cap := c7) H7.out (by have := HLW.out; omega) HALL.out).mono ?_
      rintro e w8 ⟨rfl, hb⟩
      have HB8 := Sealed.mk (HB7.out.trans (hb.mono HB7.out.size))
      clear hb
      go_wp2
      go_ret
      exact ⟨by rw [HL2.out]; rfl, HB8.out⟩
end Go.Proofs.Ytmdlhbhdlhjakaa
