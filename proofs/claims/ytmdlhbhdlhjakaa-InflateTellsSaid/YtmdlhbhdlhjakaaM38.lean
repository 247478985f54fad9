/- The law CodesReads, walked. The contracts of the document's answer's rows of bits: Put, number, Align, Text. -/
import Derived.Test.YtmdlhbhdlhjakaaM19
import Derived.Test.YtmdlhbhdlhjakaaM09
import Derived.Test.YtmdlhbhdlhjakaaM13
import Derived.Test.YtmdlhbhdlhjakaaM16
set_option linter.unusedVariables false
set_option linter.unusedSimpArgs false
namespace Go.Proofs.Ytmdlhbhdlhjakaa
open Go.RowKit

theorem own_reads {w : World} {base n c : Nat} {e : TypeId} {k : IntKind} {A : Option Addr} {xs : List Int} (h : w.ownsRow base e 1 (.slice A n c) n (nums k xs)) : Reads w k A xs := by
  obtain ⟨_, a, b, hv, _, hy⟩ := Reads.of_own h
  injection hv with hv _ _
  rw [hv]; exact hy

set_option maxRecDepth 100000 in
theorem reads_long (A0 : Option Addr) (n0 c0 : Nat) (s : ByteArray) (w : World) (h : 320 < n0 ∨ 60 < s.size) :
    Calls Try.prog 3 #[.slice A0 n0 c0, .string s] w fun e w' => e = .returned (.bool true) ∧ Below w.heap.size w w' := by
  by_cases h0 : 320 < n0
  · have hd : decide (320 < n0) = true := decide_eq_true h0
    go_enter Try.func3, Try.ntmps3
    go_wp2_with fail
    refine (trees_any w).mono ?_
    rintro e w1 ⟨rfl, hb⟩
    go_wp2
    go_ret
    exact ⟨rfl, hb⟩
  · have hd : decide (320 < n0) = false := decide_eq_false h0
    have hd1 : decide (60 < s.size) = true := decide_eq_true (by omega)
    have h2 : n0 ≤ 320 := by omega
    have h3 : 60 < s.size := by omega
    clear h h0
    go_enter Try.func3, Try.ntmps3
    go_wp2_with fail
    refine (trees_any w).mono ?_
    rintro e w1 ⟨rfl, hb⟩
    go_wp2
    go_ret
    exact ⟨rfl, hb⟩

set_option maxRecDepth 100000 in
theorem reads_bad (A0 : Option Addr) (c0 : Nat) (ls : List Int) (s : ByteArray) (w : World) (hr : Reads w .i64 A0 ls) (hn : ls.length ≤ 320) (hn1 : s.size ≤ 60) (he : (mayOf (checkOf ls) != 0) = true) :
    Calls Try.prog 3 #[.slice A0 ls.length c0, .string s] w fun e w' => e = .returned (.bool true) ∧ Below w.heap.size w w' := by
  have hd : decide (320 < ls.length) = false := decide_eq_false (by omega)
  have hd1 : decide (60 < s.size) = false := decide_eq_false (by omega)
  have H := Sealed.mk (new_bad (cap := c0) hr he)
  have H2 : Sealed (∀ w', Below w.heap.size w w' → Calls Try.prog 16 #[.slice A0 ls.length c0] w' fun e w'' => e = .returned (.tuple #[.slice none 0 0, .int .i64 (mayOf (checkOf ls))]) ∧ Below w'.heap.size w' w'') := ⟨fun w' hb => rcodes_err (hr.below hb) he⟩
  obtain ⟨r, hre⟩ : ∃ r, r = mayOf (checkOf ls) := ⟨_, rfl⟩
  rw [← hre] at H H2 he
  have he2 : (r == 0) = false := by simpa using he
  have he3 : (r != r) = false := by simp
  clear hr hre
  go_enter Try.func3, Try.ntmps3
  go_wp2_with fail
  refine H.out.mono ?_
  rintro e w1 ⟨rfl, hb⟩
  have C1 : Sealed (Chg w.heap.size [] w w1) := ⟨Chg.of_below hb⟩
  have H3 := Sealed.mk (H2.out w1 hb)
  clear hb
  go_wp2_with fail
  refine H3.out.mono ?_
  rintro e w2 ⟨rfl, hb⟩
  have C2 := Sealed.mk (C1.out.below_step hb)
  clear hb
  go_wp2_with fail
  refine (newReader_any s w2).mono ?_
  rintro e w3 ⟨rfl, _, hb, _⟩
  have C3 := Sealed.mk (C2.out.below_step hb)
  clear hb
  go_wp2_with fail
  refine (trees_any w3).mono ?_
  rintro e w4 ⟨rfl, hb⟩
  have C4 := Sealed.mk (C3.out.below_step hb)
  clear hb
  go_wp2
  go_ret
  exact ⟨rfl, C4.out.to_below⟩

set_option maxRecDepth 100000 in
set_option maxHeartbeats 1000000 in
theorem reads_good (A0 : Option Addr) (c0 : Nat) (ls : List Int) (s : ByteArray) (w : World) (hr : Reads w .i64 A0 ls) (hn : ls.length ≤ 320) (hn1 : s.size ≤ 60) (hm : mayOf (checkOf ls) = 0) :
    Calls Try.prog 3 #[.slice A0 ls.length c0, .string s] w fun e w' => e = .returned (.bool true) ∧ Below w.heap.size w w' := by
  have ha := may_zero hn hm
  have hd : decide (320 < ls.length) = false := decide_eq_false (by omega)
  have hd1 : decide (60 < s.size) = false := decide_eq_false (by omega)
  have H := Sealed.mk (new_good (cap := c0) hr hn ha hm)
  have HX := Sealed.mk hr
  have HA := Sealed.mk ha
  have HM := Sealed.mk hm
  clear hr ha hm
  go_enter Try.func3, Try.ntmps3
  go_wp2_with fail
  refine H.out.mono ?_
  rintro e w1 ⟨gt, rfl, ht, hb⟩
  have HT1 := Sealed.mk ht
  have C1 : Sealed (Chg w.heap.size [73] w w1) := ⟨Chg.of_below hb⟩
  clear hb ht H
  go_wp2_with fail
  refine (rcodes_good (cap := c0) (HX.out.chg C1.out (Nat.le_refl _)) hn HA.out HM.out).mono ?_
  rintro e w2 ⟨v7, rfl, ho, hb⟩
  have HT2 := Sealed.mk (HT1.out.later (T := []) (Chg.of_below hb))
  have C2 := Sealed.mk (C1.out.below_step hb)
  obtain ⟨A7, c7, hv7⟩ := own_slice ho
  subst hv7
  have HO2 := Sealed.mk ho
  clear hb ho HT1 C1
  go_wp2_with fail
  refine (newReader_any s w2).mono ?_
  rintro e w3 ⟨rfl, hr3, hb, hs3⟩
  have HG : Sealed (w.heap.size ≤ w2.heap.size) := ⟨C2.out.size⟩
  obtain ⟨gr, hgr⟩ : ∃ gr, gr = w2.heap.size := ⟨_, rfl⟩
  have HT3 := Sealed.mk (HT2.out.later (T := []) (Chg.of_below hb))
  have C3 := Sealed.mk (C2.out.below_step hb)
  have HO3 := Sealed.mk (owns_below HO2.out hb)
  rw [← hgr] at hr3 HG
  rw [← hgr]
  have HR3 := Sealed.mk hr3
  clear hb hr3 hs3 hgr HT2 C2 HO2
  go_wp2_with fail
  refine (bits_any s w3 (by omega)).mono ?_
  rintro e w4 ⟨v10, rfl, ho, hb⟩
  have HT4 := Sealed.mk (HT3.out.later (T := []) (Chg.of_below hb))
  have C4 := Sealed.mk (C3.out.below_step hb)
  have HO4 := Sealed.mk (owns_below HO3.out hb)
  have HR4 := Sealed.mk (HR3.out.chg (B := w3.heap.size) (T := []) (Chg.of_below hb) (.inr (by simp)))
  obtain ⟨bs, hbs⟩ : ∃ bs, bs = sbits s (8 * s.size) := ⟨_, rfl⟩
  have hbl : bs.length = 8 * s.size := by rw [hbs, sbits_len]
  have hbg : ∀ i, i < bs.length → bs.getD i 0 = ((bit s i : Nat) : Int) := by intro i hi; rw [hbs]; exact sbits_get s (by omega)
  rw [← hbs, ← hbl] at ho
  obtain ⟨A10, c10, hv10⟩ := own_slice ho
  subst hv10
  have HP4 := Sealed.mk ho
  have hb480 : bs.length ≤ 480 := by omega
  have HBL := Sealed.mk hbl
  have HBG := Sealed.mk hbg
  clear hb ho hbs hbl hbg HT3 C3 HO3 HR3
  go_wp2
  go_loopg [11, 12] (bs.length + 1) (fun k s11 s12 w' => ∃ i p : Nat, s11 = .int .i64 p ∧ s12 = .int .i64 i ∧ Sealed (k = bs.length + 1 - i) ∧ i ≤ bs.length + 1 ∧ Sealed (TrSt w.heap.size w' gt ls) ∧ Sealed (w'.ownsRow w1.heap.size 3 1 (.slice A7 ls.length c7) ls.length (nums .i64 (codesOf ls))) ∧ Sealed (w'.ownsRow w3.heap.size 3 1 (.slice A10 bs.length c10) bs.length (nums .i64 bs)) ∧ Sealed (RdSt w' gr s p) ∧ Sealed (Chg w.heap.size [73] w w'))
  case atStart => exact ⟨0, 0, rfl, rfl, ⟨rfl⟩, by omega, HT4, HO4, HP4, HR4, C4⟩
  case round =>
    clear HT4 HO4 HP4 HR4 C4
    obtain ⟨i, p, rfl, rfl, HK, hi, HT, HO, HP, HR, HC⟩ := hrel
    by_cases hlt : i ≤ bs.length
    · have hdi : decide (i ≤ bs.length) = true := decide_eq_true hlt
      have hpl : p ≤ bs.length := by rw [HBL.out]; exact HR.out.le
      obtain ⟨⟨k, er, pt⟩, hRe⟩ : ∃ R, R = readOf ls (bit s) bs.length p := ⟨_, rfl⟩
      have h1 := read_any HT.out HR.out (by omega) hn HA.out
      rw [← HBL.out, ← hRe] at h1
      have H1 := Sealed.mk h1
      have HRE := Sealed.mk hRe
      have e1 : (k != k) = false := by simp
      have e2 : (er != er) = false := by simp
      have e3 : ((pt : Int) != (pt : Int)) = false := by simp
      clear h1 hRe
      go_wp2_with fail
      refine H1.out.mono ?_
      rintro e w5 ⟨rfl, hr5, hc5⟩
      have HR5 := Sealed.mk hr5
      have HT5 := Sealed.mk (HT.out.chg hc5 (by decide) (by decide))
      have HO5 := Sealed.mk (owns_chg HO.out hc5 (by decide))
      have HP5 := Sealed.mk (owns_chg HP.out hc5 (by decide))
      have HC5 := Sealed.mk (HC.out.trans (hc5.mono HG.out (fun _ h => h)))
      clear hr5 hc5 H1 HT HO HP HC HR
      have hx5 := HX.out.chg HC5.out (Nat.le_refl _)
      have hy5 := own_reads HO5.out
      have hz5 := own_reads HP5.out
      have h2 := rread_any (c0 := c0) (c1 := c7) (c2 := c10) p hx5 hy5 hz5 (bit_le s) HBG.out (by omega) hpl hn HA.out
      rw [← HRE.out] at h2
      have H2 := Sealed.mk h2
      clear h2 hx5 hy5 hz5
      go_wp2_with fail
      refine H2.out.mono ?_
      rintro e w6 ⟨rfl, hb⟩
      have HT6 := Sealed.mk (HT5.out.later (T := []) (Chg.of_below hb))
      have HC6 := Sealed.mk (HC5.out.below_step hb)
      have HO6 := Sealed.mk (owns_below HO5.out hb)
      have HP6 := Sealed.mk (owns_below HP5.out hb)
      have HR6 := Sealed.mk (HR5.out.chg (B := w5.heap.size) (T := []) (Chg.of_below hb) (.inr (by simp)))
      clear hb H2 HT5 HC5 HO5 HP5 HR5
      go_wp2_with fail
      refine (at_any HR6.out (by omega)).mono ?_
      rintro e w7 ⟨rfl, n7, rfl⟩
      by_cases hz : er = 0
      · have hb : (er != 0) = false := by simpa using hz
        clear hz
        go_wp2
        go_roundg (bs.length + 1 - (i + 1))
        case measure => have := HK.out; omega
        case rel =>
          have hd0 : Chg 0 [] w6 (w6.drewN n7) := (Chg.refl 0 [] w6).drewN n7
          exact ⟨i + 1, pt, rfl, by go_num, ⟨rfl⟩, by omega, ⟨HT6.out.chg hd0 (by simp) (by simp)⟩, ⟨owns_chg HO6.out hd0 (by simp)⟩, ⟨owns_chg HP6.out hd0 (by simp)⟩, ⟨HR6.out.chg hd0 (.inr (by simp))⟩, ⟨HC6.out.drewN n7⟩⟩
      · have hb : (er != 0) = true := by simpa using hz
        clear hz
        have HC7 := Sealed.mk (HC6.out.drewN n7)
        go_wp2_with fail
        refine (trees_any _).mono ?_
        rintro e w8 ⟨rfl, hb8⟩
        have HC8 := Sealed.mk (HC7.out.below_step hb8)
        clear hb8
        go_wp2
        go_ret
        exact ⟨rfl, HC8.out.to_below⟩
    · have hdi : decide (i ≤ bs.length) = false := decide_eq_false hlt
      have hlt2 : bs.length < i := by omega
      clear hlt
      go_wp2_with fail
      refine (trees_any _).mono ?_
      rintro e w8 ⟨rfl, hb8⟩
      have HC8 := Sealed.mk (HC.out.below_step hb8)
      clear hb8
      go_wp2
      go_ret
      exact ⟨rfl, HC8.out.to_below⟩
end Go.Proofs.Ytmdlhbhdlhjakaa

namespace Go.Proofs.Ytmdlhbhdlhjakaa
open Go.RowKit

theorem numBits_succ (n w : Nat) : numBits n (w + 1) = numBits n w ++ [n / 2 ^ w % 2] := by simp [numBits, List.range_succ]
theorem castL_len (l : List Nat) : (castL l).length = l.length := by simp [castL]
theorem castL_snoc (l : List Nat) (x : Nat) : castL (l ++ [x]) = castL l ++ [(x : Int)] := by simp [castL]

set_option maxRecDepth 100000 in
theorem rput08 {w : World} {A : Option Addr} {cap : Nat} {l : List Nat} (hr : Reads w .i64 A (castL l)) (n d : Nat) (hd : d ≤ 16) (hn : n < 2 ^ d) (hl : l.length ≤ 1000000000) :
    Calls Try.prog 86 #[.slice A l.length cap, .int .i64 n, .int .i64 d] w fun e w' => ∃ A' c', e = .returned (.tuple #[.slice A' (l ++ numBits n d).length c', .int .i64 0]) ∧ Reads w' .i64 A' (castL (l ++ numBits n d)) ∧ Below w.heap.size w w' := by
  have hlen : (l ++ numBits n d).length = l.length + d := by rw [List.length_append, numBits_length]
  rw [hlen]
  clear hlen
  have HP : Sealed (∀ w, Calls Try.prog 111 #[.int .i64 d] w fun e w' => e = .returned (.int .i64 ((2 ^ d : Nat) : Int)) ∧ w = w') := ⟨fun w => power08_any d (by omega) w⟩
  have hp : 2 ^ d ≤ 2 ^ 16 := Nat.pow_le_pow_right (by decide) hd
  obtain ⟨P, hP⟩ : ∃ P, P = 2 ^ d := ⟨_, rfl⟩
  rw [← hP] at HP hn hp
  have hpb : P ≤ 65536 := hp
  have h0 : decide (P ≤ n) = false := decide_eq_false (by omega)
  have h1 : decide ((n : Int) < 0) = false := decide_eq_false (by omega)
  have h2 : decide ((d : Int) < 0) = false := decide_eq_false (by omega)
  have h3 : decide (16 < d) = false := decide_eq_false (by omega)
  have HR := Sealed.mk hr
  have HL := castL_len l
  have HLL := Sealed.mk HL
  clear hP hp hr HL
  go_enter Try.func86, Try.ntmps86
  go_wp2_with fail
  refine (HP.out _).mono ?_
  rintro e w1 ⟨rfl, rfl⟩
  go_wp2_with (first
    | ((with_reducible refine gate_dst (N := 26) rfl ?_); refine ev_lit (cs := []) (t := 3) (n := 0) ?hg ?hr ?_; (case hg => rfl); (case hr => first | (go_simp; done) | (go_simp; rfl)); intro g1 w2 hg1 hb1 hB1 hs1; have G1 := Sealed.mk hg1; have L2 := Sealed.mk hB1; have HO2 : Sealed (w2.ownsRow w.heap.size 3 1 (.slice (some ⟨g1, 0, none⟩) 0 0) 0 (nums .i64 (castL []))) := ⟨hb1.owns (by rw [G1.out]; exact Nat.le_refl _) (by decide)⟩; have HR2 := Sealed.mk (HR.out.below hB1); clear hg1 hb1 hB1 hs1)
    | ((with_reducible refine gate_dst (N := 28) rfl ?_); refine wp_app_row w.heap.size rfl (.tmp 26) (.tmp 27) 22 3 .i64 8 rfl Try.underlying22 info_i64 (by decide) _ 0 _ (castL l) A cap rfl (by rw [HLL.out]; rfl) HO2.out HR2.out L2.out.size (by rw [HLL.out]; omega) ?_; intro v4 w4 ho4 hg4; have HO4 : Sealed (w4.ownsRow w.heap.size 3 1 v4 l.length (nums .i64 (castL l))) := ⟨by have h := ho4; rw [HLL.out, Nat.zero_add] at h; exact h⟩; have HC4 : Sealed (Chg w.heap.size [3] w w4) := ⟨(Chg.of_below L2.out).grown HO2.out (Nat.le_refl _) (by simp) hg4⟩; clear ho4 hg4))
  go_loopg [1, 8, 9] d (fun k s1 s8 s9 w' => ∃ i m : Nat, s1 = .int .i64 m ∧ s9 = .int .i64 i ∧ i ≤ d ∧ Sealed (k = d - i) ∧ m ≤ 65536 ∧ Sealed (m = n / 2 ^ i) ∧ Sealed (w'.ownsRow w.heap.size 3 1 s8 (l.length + i) (nums .i64 (castL (l ++ numBits n i)))) ∧ Sealed (Chg w.heap.size [3] w w'))
  case atStart => exact ⟨0, n, rfl, rfl, by omega, ⟨rfl⟩, by omega, ⟨by simp⟩, ⟨by simpa [numBits] using HO4.out⟩, HC4⟩
  case round =>
    clear HO4 HC4
    obtain ⟨i, m, rfl, rfl, hi, HK, hm, HM, HO, HC⟩ := hrel
    by_cases hlt : i < d
    · have hlt' : decide (i < d) = true := decide_eq_true hlt
      have HS : Sealed (w.heap.size ≤ wr.heap.size) := ⟨HC.out.size⟩
      go_wp2_with ((with_reducible refine gate_dst (N := 38) rfl ?_); refine wp_app1 w.heap.size rfl (.tmp 34) (.tmp 37) 22 3 (.int .i64 0) 8 rfl Try.underlying22 info_i64 rfl (by decide) _ (l.length + i) _ _ rfl rfl rfl HO.out HS.out (by omega) ?_; intro v4 w4 ho4 hg4; have HO4 := Sealed.mk ho4; have HG4 := Sealed.mk hg4; clear ho4 hg4)
      go_roundg (d - (i + 1))
      case measure => have := HK.out; omega
      case rel =>
        refine ⟨i + 1, m / 2, by go_num, by go_num, hlt, ⟨rfl⟩, by omega, ⟨by rw [HM.out, Nat.div_div_eq_div_mul, Nat.pow_succ]⟩, ⟨?_⟩, ⟨HC.out.grown HO.out (Nat.le_refl _) (by simp) HG4.out⟩⟩
        have ho := HO4.out
        rw [numBits_succ, ← List.append_assoc, castL_snoc, nums_snoc, ← Nat.add_assoc, ← HM.out]
        exact ho
    · obtain rfl : i = d := by omega
      have hlt' : decide (i < i) = false := decide_eq_false hlt
      obtain ⟨A5, c5, hv5⟩ := own_slice HO.out
      subst hv5
      go_wp2
      go_ret2
      exact ⟨A5, c5, rfl, own_reads HO.out, HC.out.to_below⟩
theorem rnumber {w : World} {A : Option Addr} {cap : Nat} {l : List Nat} (hr : Reads w .i64 A (castL l)) (n d : Nat) (hd : d ≤ 16) (hn : n < 2 ^ d) (hl : l.length ≤ 1000000000) {N D : Int} (hN : N = (n : Int)) (hD : D = (d : Int)) :
    Calls Try.prog 53 #[.slice A l.length cap, .int .i64 N, .int .i64 D] w fun e w' => ∃ A' c', e = .returned (.slice A' (l ++ numBits n d).length c') ∧ Reads w' .i64 A' (castL (l ++ numBits n d)) ∧ Below w.heap.size w w' := by
  subst hN hD
  have H := Sealed.mk (rput08 (cap := cap) hr n d hd hn hl)
  generalize l ++ numBits n d = L at *
  clear hr hn
  go_enter Try.func53, Try.ntmps53
  go_wp2_with fail
  refine H.out.mono ?_
  rintro e w1 ⟨A', c', rfl, h1, h2⟩
  have H1 := Sealed.mk h1
  have H2 := Sealed.mk h2
  clear h1 h2
  go_wp2
  go_ret
  exact ⟨A', c', rfl, H1.out, H2.out⟩
end Go.Proofs.Ytmdlhbhdlhjakaa
