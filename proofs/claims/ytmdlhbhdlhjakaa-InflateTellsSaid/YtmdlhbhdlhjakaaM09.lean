/- What must come at any rate: the page's example: the law's function 'trees' is true. The law CodesBack: what is written is read again. Plain: bytes that are deflated as they are. -/
import Derived.Test.YtmdlhbhdlhjakaaM08
import Derived.Test.YtmdlhbhdlhjakaaM07
set_option linter.unusedVariables false
set_option linter.unusedSimpArgs false
namespace Go.Proofs.Ytmdlhbhdlhjakaa
open Go.RowKit

set_option maxRecDepth 100000 in
theorem same_any (A A' : Option Addr) (c c' : Nat) (xs ys : List Int) (w : World) (hx : Reads w .i64 A xs) (hy : Reads w .i64 A' ys) (hl : xs.length ≤ 1000000000000) :
    Calls Try.prog 40 #[.slice A xs.length c, .slice A' ys.length c'] w fun e w' => e = .returned (.bool (decide (xs = ys))) ∧ Below w.heap.size w w' := by
  have HX := Sealed.mk hx
  have HY := Sealed.mk hy
  clear hx hy
  by_cases hlen : xs.length = ys.length
  · have hd : (xs.length != ys.length) = false := by simpa using hlen
    obtain ⟨R, hR⟩ : ∃ R, R = decide (xs = ys) := ⟨_, rfl⟩
    rw [← hR]
    have HR := Sealed.mk hR
    have HL := Sealed.mk hlen
    obtain ⟨n, hn⟩ : ∃ n, n = xs.length := ⟨_, rfl⟩
    rw [← hn] at hl
    rw [← hlen, ← hn]
    have HN := Sealed.mk hn
    clear hlen hd hn hR
    go_enter Try.func40, Try.ntmps40
    go_wp2
    go_loopg [5] n (fun k s5 w' => ∃ i : Nat, s5 = .int .i64 i ∧ Sealed (k = n - i) ∧ Sealed (i ≤ n) ∧ Sealed (xs.take i = ys.take i) ∧ Sealed (Below w.heap.size w w'))
    case atStart => exact ⟨0, rfl, ⟨rfl⟩, ⟨Nat.zero_le _⟩, ⟨rfl⟩, ⟨Below.refl _ _⟩⟩
    case round =>
      obtain ⟨i, rfl, HK, HI, HE, HB⟩ := hrel
      by_cases hlt : i < n
      · obtain ⟨ad, rfl, hc0⟩ := HX.out.cell i (by have := HN.out; omega)
        obtain ⟨ad', rfl, hc1⟩ := HY.out.cell i (by have := HN.out; have := HL.out; omega)
        have x0 := (HB.out.cell (World.block_lt_of_cell? w _ hc0)).trans hc0
        have x1 := (HB.out.cell (World.block_lt_of_cell? w _ hc1)).trans hc1
        have tx := take_snoc (ls := xs) (i := i) (by have := HN.out; omega)
        have ty := take_snoc (ls := ys) (i := i) (by have := HN.out; have := HL.out; omega)
        obtain ⟨a, ha⟩ : ∃ a, a = xs.getD i 0 := ⟨_, rfl⟩
        obtain ⟨b, hb⟩ : ∃ b, b = ys.getD i 0 := ⟨_, rfl⟩
        rw [← ha] at x0 tx
        rw [← hb] at x1 ty
        have TX := Sealed.mk tx
        have TY := Sealed.mk ty
        have HA := Sealed.mk ha
        have HBb := Sealed.mk hb
        clear tx ty ha hb hc0 hc1
        by_cases he : a = b
        · have hd1 : (a != b) = false := by simpa using he
          have HEE := Sealed.mk he
          clear he
          go_wp2
          go_quiet (fail)
          go_wp2
          go_roundg (n - (i + 1))
          case measure => have := HK.out; omega
          case rel => exact ⟨i + 1, by go_num, ⟨rfl⟩, ⟨hlt⟩, ⟨by rw [TX.out, TY.out, HE.out, HEE.out]⟩, ⟨⟨HB.out.os, HB.out.tape, HB.out.output, HB.out.size, HB.out.block⟩⟩⟩
        · have hd1 : (a != b) = true := by simpa using he
          have hne : R = false := by
            rw [HR.out]
            refine decide_eq_false fun h => he ?_
            rw [HA.out, HBb.out, h]
          have HNE := Sealed.mk hne
          clear he hne
          go_wp2
          go_quiet (fail)
          go_wp2
          go_ret
          exact ⟨ret_bool HNE.out.symm, ⟨HB.out.os, HB.out.tape, HB.out.output, HB.out.size, HB.out.block⟩⟩
      · have hi : i = n := by have := HI.out; omega
        have hne : R = true := by
          rw [HR.out]
          refine decide_eq_true ?_
          have h := HE.out
          rw [hi, HN.out, List.take_length, HL.out, List.take_length] at h
          exact h
        have HNE := Sealed.mk hne
        have hd2 : decide (i < n) = false := decide_eq_false hlt
        clear hne hi hlt
        go_wp2
        go_ret
        exact ⟨ret_bool HNE.out.symm, HB.out⟩
  · have hd : (xs.length != ys.length) = true := by simpa using hlen
    have HR : Sealed (false = decide (xs = ys)) := ⟨by symm; exact decide_eq_false fun h => hlen (by rw [h])⟩
    have hd' : ((xs.length : Int) != (ys.length : Int)) = true := by simp; omega
    generalize xs.length = n at *
    generalize ys.length = m at *
    clear hlen
    go_enter Try.func40, Try.ntmps40
    go_wp2
    go_ret
    exact ⟨ret_bool HR.out, Below.refl _ _⟩

/-! ### the example's own numbers -/
def exL : List Int := [2, 1, 3, 3]
theorem ex_ok : exL.all lenOk = true := by decide
theorem ex_may : mayOf (checkOf exL) = 0 := by decide +kernel
theorem ex_codesOf : codesOf exL = [2, 0, 6, 7] := by decide +kernel
theorem ex_read : readOf exL (bit ⟨#[3]⟩) 8 0 = (2, 0, 3) := by decide +kernel
theorem ex_text : textOf [1, 1, 0] = ⟨#[3]⟩ := by decide +kernel
theorem ex_check : checkOf [1, 1, 1] = 7 := by decide +kernel
theorem ex_codes {w : World} {g : Nat} (h : IsBlk w g (nums .i64 exL) 3) :
    Calls Try.prog 39 #[.slice (some ⟨g, 0, none⟩) 4 4] w fun e w' => ∃ g', e = .returned (.tuple #[.slice (some ⟨g', 0, none⟩) 4 4, .int .i64 0]) ∧ IsBlk w' g' (nums .i64 [2, 0, 6, 7]) 3 ∧ Below w.heap.size w w' := by
  have h1 := codes_good (cap := 4) (blk_reads h (by decide)) (by decide) ex_ok ex_may
  rw [ex_codesOf] at h1
  exact h1.mono fun e w' ⟨g', a, b, _, c⟩ => ⟨g', a, b, c⟩
theorem ex_new {w : World} {g : Nat} (h : IsBlk w g (nums .i64 exL) 3) :
    Calls Try.prog 15 #[.slice (some ⟨g, 0, none⟩) 4 4] w fun e w' => ∃ g', e = .returned (.tuple #[.pointer (some ⟨g', 0, none⟩), .int .i64 0]) ∧ TrSt w.heap.size w' g' exL ∧ Below w.heap.size w w' :=
  new_good (cap := 4) (blk_reads h (by decide)) (by decide) ex_ok ex_may
theorem ex_write {B B2 : Nat} {w : World} {gt g : Nat} (ht : TrSt B2 w gt exL) (hw : WrSt B w g 43 [] []) :
    Calls Try.prog 22 #[.pointer (some ⟨gt, 0, none⟩), .pointer (some ⟨g, 0, none⟩), .int .i64 2] w fun e w' => e = .returned (.int .i64 0) ∧ Chg B [43, 5] w w' ∧ WrSt B w' g 43 [] [1, 1, 0] :=
  write_ok ht hw (by decide) ex_ok (by decide) (by decide) 2 (by decide) 3 rfl (by decide) (by decide)
theorem ex_readc {B : Nat} {w : World} {gt gr : Nat} (ht : TrSt B w gt exL) (hr : RdSt w gr ⟨#[3]⟩ 0) :
    Calls Try.prog 19 #[.pointer (some ⟨gt, 0, none⟩), .pointer (some ⟨gr, 0, none⟩)] w fun e w' => e = .returned (.tuple #[.int .i64 2, .int .i64 0]) ∧ Chg gr [73] w w' := by
  have h := read_any ht hr (by decide) (by decide) ex_ok
  rw [show (8 * (⟨#[3]⟩ : ByteArray).size) = 8 from rfl, ex_read] at h
  exact h.mono fun e w' ⟨a, _, c⟩ => ⟨a, c⟩
theorem ex_textc {B : Nat} {w : World} {g : Nat} (h : WrSt B w g 43 [] [1, 1, 0]) :
    Calls Try.prog 23 #[.pointer (some ⟨g, 0, none⟩)] w fun e w' => e = .returned (.string ⟨#[3]⟩) ∧ Below w.heap.size w w' := by
  have h1 := text_ok h (by decide)
  rwa [ex_text] at h1
theorem ex_bad {B2 : Nat} {w : World} {gt g : Nat} (ht : TrSt B2 w gt exL) :
    Calls Try.prog 22 #[.pointer (some ⟨gt, 0, none⟩), .pointer (some ⟨g, 0, none⟩), .int .i64 4] w fun e w' => e = .returned (.int .i64 12) ∧ w = w' :=
  write_bad ht 4 (by decide) (by decide)
theorem ex_checkc {w : World} {g : Nat} (h : IsBlk w g (nums .i64 [1, 1, 1]) 3) :
    Calls Try.prog 41 #[.slice (some ⟨g, 0, none⟩) 3 3] w fun e w' => e = .returned (.int .i64 7) ∧ Below w.heap.size w w' := by
  have h1 := check_any (some ⟨g, 0, none⟩) 3 [1, 1, 1] w (blk_reads h (by decide))
  rw [ex_check] at h1
  exact h1
theorem ex_same {w : World} {g g' : Nat} (h : IsBlk w g (nums .i64 [2, 0, 6, 7]) 3) (h' : IsBlk w g' (nums .i64 [2, 0, 6, 7]) 3) :
    Calls Try.prog 40 #[.slice (some ⟨g, 0, none⟩) 4 4, .slice (some ⟨g', 0, none⟩) 4 4] w fun e w' => e = .returned (.bool true) ∧ Below w.heap.size w w' :=
  same_any _ _ 4 4 [2, 0, 6, 7] [2, 0, 6, 7] w (blk_reads h (by decide)) (blk_reads h' (by decide)) (by decide)

theorem ht4chg {B : Nat} {w w' : World} {g : Nat} {ls : List Int} (h : TrSt B w g ls) (hb : Below w.heap.size w w') : TrSt B w' g ls := h.chg (T := []) (Chg.of_below (B := 0) hb) (by simp) (by simp)
set_option maxRecDepth 100000 in
set_option maxHeartbeats 1000000 in
theorem trees_any (w : World) : Calls Try.prog 14 #[] w fun e w' => e = .returned (.bool true) ∧ Below w.heap.size w w' := by
  go_enter Try.func14, Try.ntmps14
  go_wp2_with ((with_reducible refine gate_dst (N := 16) rfl ?_); refine ev_lit (cs := nums .i64 exL) (t := 3) (n := 4) ?hg ?hr ?_; (case hg => rfl); (case hr => first | (go_simp; done) | (go_simp; rfl)); intro g1 w1 hg1 hb1 hB1 hs1; have Bg1 := Sealed.mk hb1; have Lg1 := Sealed.mk hB1; clear hg1 hb1 hB1 hs1)
  refine (ex_codes Bg1.out).mono ?_
  rintro e w2 ⟨g2, rfl, hb2, hl2⟩
  have B2 := Sealed.mk hb2
  have C2 : Sealed (Chg w.heap.size [] w w2) := ⟨((Chg.refl w.heap.size [] w).below_step Lg1.out).below_step hl2⟩
  clear hb2 hl2
  go_wp2_with ((with_reducible refine gate_dst (N := 21) rfl ?_); refine ev_lit (cs := nums .i64 exL) (t := 3) (n := 4) ?hg ?hr ?_; (case hg => rfl); (case hr => first | (go_simp; done) | (go_simp; rfl)); intro g3 w3 hg1 hb1 hB1 hs1; have Bg3 := Sealed.mk hb1; have Lg3 := Sealed.mk hB1; clear hg1 hb1 hB1 hs1)
  refine (ex_new Bg3.out).mono ?_
  rintro e w4 ⟨gt, rfl, ht4, hl4⟩
  have HT4 := Sealed.mk ht4
  have C4 : Sealed (Chg w.heap.size [] w w4) := ⟨(C2.out.below_step Lg3.out).below_step hl4⟩
  have B4 := Sealed.mk ((B2.out.below' Lg3.out).below' hl4)
  clear ht4 hl4
  go_wp2_with fail
  refine (newReader_any ⟨#[3]⟩ w4).mono ?_
  rintro e w5 ⟨rfl, hr5, hl5, hs5⟩
  have HR5 := Sealed.mk hr5
  have HT5 := Sealed.mk (ht4chg HT4.out hl5)
  have C5 : Sealed (Chg w.heap.size [] w w5) := ⟨C4.out.below_step hl5⟩
  have hB4 : w.heap.size ≤ w4.heap.size := C4.out.size
  have B5 := Sealed.mk (B4.out.below' hl5)
  clear hr5 hl5 hs5
  go_wp2_with ((with_reducible refine gate_dst (N := 6) rfl ?_); refine ev_box (cs := [.int .i64 0, .int .i64 0, .slice none 0 0]) (t := 43) ?hg ?hr ?_; (case hg => rfl); (case hr => first | (go_simp; done) | (go_simp; rfl)); intro g6 w6 hg6 hb6 hB6 hs6; have G6 := Sealed.mk hg6; have B6 := Sealed.mk hb6; have L6 := Sealed.mk hB6; clear hg6 hb6 hB6 hs6)
  have HT6 := Sealed.mk (ht4chg HT5.out L6.out)
  have HR6 := Sealed.mk (HR5.out.chg (B := 0) (T := []) (Chg.of_below L6.out) (.inr (by simp)))
  have HW6 : Sealed (WrSt w.heap.size w6 g6 43 [] []) := ⟨WrSt.new B6.out (by rw [G6.out]; exact C5.out.size) (by decide)⟩
  have C6 : Sealed (Chg w.heap.size [] w w6) := ⟨C5.out.below_step L6.out⟩
  have B6' := Sealed.mk (B5.out.below' L6.out)
  clear HT5 HR5 C5 L6 B6 G6 HT4 C4 B4 B5 Bg3 Lg3 B2 C2
  refine (ex_write HT6.out HW6.out).mono ?_
  rintro e w7 ⟨rfl, hc7, hw7⟩
  have HW7 := Sealed.mk hw7
  have HT7 := Sealed.mk (HT6.out.chg hc7 (by decide) (by decide))
  have HR7 := Sealed.mk (HR6.out.chg hc7 (.inr (by decide)))
  have B7 := Sealed.mk (B6'.out.chg hc7 (.inr (by decide)))
  have C7 : Sealed (Chg w.heap.size [43, 5, 73] w w7) := ⟨(C6.out.mono (Nat.le_refl _) (by simp)).trans (hc7.mono (Nat.le_refl _) (by simp))⟩
  clear hc7 hw7 HT6 HR6 HW6 C6 B6'
  go_wp2_with fail
  refine (ex_readc HT7.out HR7.out).mono ?_
  rintro e w8 ⟨rfl, hc8⟩
  have HW8 := Sealed.mk (HW7.out.chg hc8 (by decide) (by decide))
  have HT8 := Sealed.mk (HT7.out.chg hc8 (by decide) (by decide))
  have B8 := Sealed.mk (B7.out.chg hc8 (.inr (by decide)))
  have C8 : Sealed (Chg w.heap.size [43, 5, 73] w w8) := ⟨C7.out.trans (hc8.mono hB4 (by simp))⟩
  clear hc8 HW7 HT7 HR7 B7 C7
  go_wp2_with fail
  refine (read_nil _ _).mono ?_
  rintro e w' ⟨rfl, rfl⟩
  go_wp2_with fail
  refine (read_nil2 _ _).mono ?_
  rintro e w' ⟨rfl, rfl⟩
  go_wp2_with ((with_reducible refine gate_dst (N := 52) rfl ?_); refine ev_lit (cs := nums .i64 [2, 0, 6, 7]) (t := 3) (n := 4) ?hg ?hr ?_; (case hg => rfl); (case hr => first | (go_simp; done) | (go_simp; rfl)); intro g9 w9 hg1 hb1 hB1 hs1; have Bg9 := Sealed.mk hb1; have Lg9 := Sealed.mk hB1; clear hg1 hb1 hB1 hs1)
  refine (ex_same (B8.out.below' Lg9.out) Bg9.out).mono ?_
  rintro e w10 ⟨rfl, hb⟩
  have HW10 := Sealed.mk (HW8.out.chg (B := w.heap.size) (T := []) (C := 0) ((Chg.of_below (B := 0) Lg9.out).trans (Chg.of_below hb)) (by simp) (by simp))
  have HT10 := Sealed.mk (ht4chg (ht4chg HT8.out Lg9.out) hb)
  have C10 := Sealed.mk ((C8.out.below_step Lg9.out).below_step hb)
  clear hb HW8 HT8 C8 B8 Bg9 Lg9
  go_wp2_with fail
  refine (ex_textc HW10.out).mono ?_
  rintro e w11 ⟨rfl, hb⟩
  have HT11 := Sealed.mk (ht4chg HT10.out hb)
  have C11 := Sealed.mk (C10.out.below_step hb)
  clear hb HT10 C10
  go_wp2_with fail
  refine (write_nil _ _ _).mono ?_
  rintro e w' ⟨rfl, rfl⟩
  go_wp2_with fail
  refine (write_nil2 _ _ _).mono ?_
  rintro e w' ⟨rfl, rfl⟩
  go_wp2_with fail
  refine (ex_bad HT11.out).mono ?_
  rintro e w' ⟨rfl, rfl⟩
  go_wp2_with fail
  have B12 : IsBlk (w11.alloc (.cells #[.int .i64 1, .int .i64 1, .int .i64 1] 3)) w11.heap.size (nums .i64 [1, 1, 1]) 3 := IsBlk.new w11 [.int .i64 1, .int .i64 1, .int .i64 1] _
  refine (ex_checkc B12).mono ?_
  rintro e w13 ⟨rfl, hb⟩
  have C13 := Sealed.mk ((C11.out.alloc _).below_step hb)
  clear hb C11 B12
  go_wp2
  go_ret
  exact ⟨rfl, C13.out.to_below⟩
end Go.Proofs.Ytmdlhbhdlhjakaa

namespace Go.Proofs.Ytmdlhbhdlhjakaa
open Go.RowKit

theorem TrSt.later {B : Nat} {T : List TypeId} {w w' : World} {g : Nat} {ls : List Int} (h : TrSt B w g ls) (hc : Chg w.heap.size T w w') : TrSt B w' g ls := by
  obtain ⟨hB, v0, v1, v2, hb, o0, o1, o2⟩ := h
  exact ⟨hB, v0, v1, v2, hb.chg hc (.inl hb.lt), owns_lt o0 hc (own_lt o0), owns_lt o1 hc (own_lt o1), owns_lt o2 hc (own_lt o2)⟩
theorem may_zero {ls : List Int} (hn : ls.length ≤ 320) (hm : mayOf (checkOf ls) = 0) : ls.all lenOk = true := by
  by_cases ha : ls.all lenOk = true
  · exact ha
  · have ha' : ls.all lenOk = false := by simpa using ha
    have : checkOf ls = 3 := by simp only [checkOf, if_neg (show ¬ ls.length > 320 by omega), ha']; rfl
    rw [this] at hm
    exact absurd hm (by decide)
theorem new_bad {A : Option Addr} {cap : Nat} {ls : List Int} {w : World} (hr : Reads w .i64 A ls) (he : (mayOf (checkOf ls) != 0) = true) :
    Calls Try.prog 15 #[.slice A ls.length cap] w fun e w' => e = .returned (.tuple #[.pointer none, .int .i64 (mayOf (checkOf ls))]) ∧ Below w.heap.size w w' :=
  new_err he (codes_err he (may_any A cap ls w hr))

/-! ### plain -/
def validB (ls : List Int) (k : Int) : Bool := decide (0 ≤ k) && decide (k < ls.length) && (ls.getD k.toNat 0 != 0)
def symBits (ls : List Int) (k : Int) : List Nat := codeBits ((codesOf ls).getD k.toNat 0).toNat (ls.getD k.toNat 0).toNat
def bitsOf (ls : List Int) (ks : List Int) : List Nat := ks.flatMap (symBits ls)
theorem bitsOf_snoc (ls ks : List Int) (k : Int) : bitsOf ls (ks ++ [k]) = bitsOf ls ks ++ symBits ls k := by simp [bitsOf]
theorem filter_snoc (p : Int → Bool) (l : List Int) (x : Int) : (l ++ [x]).filter p = if p x then l.filter p ++ [x] else l.filter p := by
  rw [List.filter_append]
  by_cases h : p x
  · simp [h]
  · simp [h]
theorem symBits_len {ls : List Int} (ha : ls.all lenOk = true) {k : Int} (hv : validB ls k = true) : (symBits ls k).length ≤ 15 ∧ 1 ≤ (symBits ls k).length := by
  simp only [validB, Bool.and_eq_true, decide_eq_true_eq, bne_iff_ne] at hv
  have := lenOk_at ha (k := k.toNat) (by omega)
  rw [symBits, codeBits_len]
  omega
theorem bitsOf_len {ls : List Int} (ha : ls.all lenOk = true) : ∀ ks : List Int, (∀ k ∈ ks, validB ls k = true) → (bitsOf ls ks).length ≤ 15 * ks.length
  | [], _ => by simp [bitsOf]
  | k :: ks, h => by
    have h1 := bitsOf_len ha ks (fun x hx => h x (List.mem_cons_of_mem _ hx))
    have h2 := symBits_len ha (h k (List.mem_cons_self ..))
    have e : bitsOf ls (k :: ks) = symBits ls k ++ bitsOf ls ks := rfl
    rw [e, List.length_append, List.length_cons]
    omega
theorem textOf_size (l : List Nat) : (textOf l).size = (l.length + 7) / 8 := by rw [textOf, strOfNums_size, rowOf_length]
theorem textOf_byte {l : List Nat} (hl : IsBits (lf l)) {i : Nat} (h : i < (l.length + 7) / 8) : byteAt (textOf l) i = val (lf l) (8 * i) 8 := by
  have hs : i < (textOf l).size := by rw [textOf_size]; exact h
  rw [← byteAt_get _ _ hs]
  have hv := val_lt hl (8 * i) 8
  have e : (textOf l)[i]'hs = ((rowOf l ((l.length + 7) / 8)).map fun n => UInt8.ofNat n.toNat)[i]'(by simpa [rowOf] using h) := rfl
  rw [e]
  simp [rowOf]
  omega
theorem textOf_bit {l : List Nat} (hl : IsBits (lf l)) {p : Nat} (h : p < 8 * ((l.length + 7) / 8)) : bit (textOf l) p = lf l p := by
  have h1 := textOf_byte hl (i := p / 8) (by omega)
  rw [bit, h1, val_div hl (8 * (p / 8)) (a := p % 8) (by omega)]
  have h2 : 8 * (p / 8) + p % 8 = p := by omega
  rw [h2]
  have h3 : 8 - p % 8 = 1 + (7 - p % 8) := by omega
  rw [h3, val_add, val_one]
  have := hl p
  omega
theorem lf_isBits_append {l k : List Nat} (hl : IsBits (lf l)) (hk : IsBits (lf k)) : IsBits (lf (l ++ k)) := by
  intro i
  by_cases hi : i < l.length
  · rw [lf_left hi]; exact hl i
  · obtain ⟨j, rfl⟩ : ∃ j, i = l.length + j := ⟨i - l.length, by omega⟩
    rw [lf_right]; exact hk j
/-- The i-th symbol that was written is read where it stands. -/
theorem back_read {ls : List Int} (hn : ls.length ≤ 320) (ha : ls.all lenOk = true) (hm : mayOf (checkOf ls) = 0) {P : List Int} (hP : ∀ k ∈ P, validB ls k = true) (hl : IsBits (lf (bitsOf ls P))) {i : Nat} (hi : i < P.length) :
    readOf ls (bit (textOf (bitsOf ls P))) (8 * (textOf (bitsOf ls P)).size) (bitsOf ls (P.take i)).length = (P.getD i 0, 0, (bitsOf ls (P.take (i + 1))).length) := by
  have hk := hP (P.getD i 0) (by rw [List.getD_eq_getElem?_getD, List.getElem?_eq_getElem hi]; simp)
  have hsplit : bitsOf ls P = bitsOf ls (P.take i) ++ (symBits ls (P.getD i 0) ++ bitsOf ls (P.drop (i + 1))) := by
    have e : P = P.take i ++ (P.getD i 0 :: P.drop (i + 1)) := by
      have e1 : P.drop i = P.getD i 0 :: P.drop (i + 1) := by rw [List.drop_eq_getElem_cons hi, List.getD_eq_getElem?_getD, List.getElem?_eq_getElem hi]; rfl
      rw [← e1, List.take_append_drop]
    conv => lhs; rw [e]
    simp [bitsOf]
  have hk2 := hk
  simp only [validB, Bool.and_eq_true, decide_eq_true_eq, bne_iff_ne] at hk2
  have hx := lenOk_at ha (k := (P.getD i 0).toNat) (by omega)
  have hsn : bitsOf ls (P.take (i + 1)) = bitsOf ls (P.take i) ++ symBits ls (P.getD i 0) := by rw [take_snoc hi, bitsOf_snoc]
  have hsl : (symBits ls (P.getD i 0)).length = (ls.getD (P.getD i 0).toNat 0).toNat := codeBits_len _ _
  have hle : (bitsOf ls (P.take i)).length + (ls.getD (P.getD i 0).toNat 0).toNat ≤ (bitsOf ls P).length := by
    rw [hsplit, List.length_append, List.length_append, hsl]; omega
  rw [textOf_size]
  have h := readOf_code hn ha hm (k := (P.getD i 0).toNat) (L := (ls.getD (P.getD i 0).toNat 0).toNat) (by omega) (by omega) (by omega) (bit (textOf (bitsOf ls P))) (8 * (((bitsOf ls P).length + 7) / 8)) (bitsOf ls (P.take i)).length (by omega)
    (fun j hj => by
      rw [textOf_bit hl (by omega)]
      conv => lhs; rw [hsplit]
      rw [lf_right, lf_left (by rw [hsl]; exact hj)]
      rfl)
  rw [h, hsn, List.length_append, hsl]
  congr 1
  omega
end Go.Proofs.Ytmdlhbhdlhjakaa

namespace Go.Proofs.Ytmdlhbhdlhjakaa
open Go.RowKit

def blkOf (last n : Nat) : List Nat := [last, n % 256, n / 256, (65535 - n) % 256, (65535 - n) / 256]
def bytesOf (s : ByteArray) (n : Nat) : List Nat := (List.range n).map (byteAt s)
def storedL : Nat → ByteArray → List Nat
  | 0, _ => []
  | k + 1, s => if s.size ≤ 65535 then blkOf 1 s.size ++ bytesOf s s.size else blkOf 0 65535 ++ bytesOf s 65535 ++ storedL k (s.extract 65535 s.size)
def byteBits (bs : List Nat) : List Nat := bs.flatMap fun x => numBits x 8
def castL (bs : List Nat) : List Int := bs.map fun x => ((x : Nat) : Int)
theorem byteBits_append (a b : List Nat) : byteBits (a ++ b) = byteBits a ++ byteBits b := by simp [byteBits]
theorem byteBits_len : ∀ bs : List Nat, (byteBits bs).length = 8 * bs.length
  | [] => rfl
  | x :: xs => by
    have := byteBits_len xs
    show (numBits x 8 ++ byteBits xs).length = _
    rw [List.length_append, this, numBits_length, List.length_cons]; omega
theorem byteBits_one (x : Nat) : byteBits [x] = numBits x 8 := by simp [byteBits]
theorem rowOf_bytes : ∀ (k : Nat) (bs : List Nat), bs.length = k → (∀ x ∈ bs, x < 256) → rowOf (byteBits bs) k = castL bs
  | 0, bs, h, _ => by
    obtain rfl := List.eq_nil_of_length_eq_zero h
    rfl
  | k + 1, bs, h, hb => by
    obtain ⟨l, x, rfl⟩ : ∃ l x, bs = l ++ [x] := ⟨bs.dropLast, bs.getLast (by intro e; subst e; simp at h), (List.dropLast_concat_getLast _).symm⟩
    have hl : l.length = k := by simpa using h
    have h8 := byteBits_len l
    rw [rowOf_succ, byteBits_append, byteBits_one, rowOf_left (by omega), rowOf_bytes k l hl (fun y hy => hb y (by simp [hy]))]
    have e := val_numBits (byteBits l) (n := x) (w := 8) (by have := hb x (by simp); omega)
    rw [h8, hl] at e
    rw [e]; simp [castL]
theorem textOf_bytes (bs : List Nat) (hb : ∀ x ∈ bs, x < 256) : textOf (byteBits bs) = strOfNums (castL bs) := by
  rw [textOf, byteBits_len, show (8 * bs.length + 7) / 8 = bs.length by omega, rowOf_bytes _ bs rfl hb]
theorem numBits_two (n : Nat) : numBits n 16 = numBits (n % 256) 8 ++ numBits (n / 256) 8 := by
  simp [numBits, List.range_succ]; omega
theorem numBits_head {last : Nat} (h : last ≤ 1) : numBits last 1 ++ numBits 0 2 ++ numBits 0 5 = numBits last 8 := by
  rcases Nat.lt_or_ge last 1 with h1 | h1
  · obtain rfl : last = 0 := by omega
    decide
  · obtain rfl : last = 1 := by omega
    decide
theorem blk_bits {last n : Nat} (h : last ≤ 1) (bs : List Nat) :
    (((((byteBits bs ++ numBits last 1) ++ numBits 0 2) ++ numBits 0 (alignZeros ((byteBits bs ++ numBits last 1) ++ numBits 0 2).length)) ++ numBits n 16) ++ numBits (65535 - n) 16) = byteBits (bs ++ blkOf last n) := by
  have e : alignZeros ((byteBits bs ++ numBits last 1) ++ numBits 0 2).length = 5 := by
    simp only [List.length_append, numBits_length, byteBits_len, alignZeros]; omega
  rw [e, numBits_two n, numBits_two (65535 - n), byteBits_append]
  have e2 : byteBits (blkOf last n) = numBits last 8 ++ (numBits (n % 256) 8 ++ (numBits (n / 256) 8 ++ (numBits ((65535 - n) % 256) 8 ++ numBits ((65535 - n) / 256) 8))) := by simp [byteBits, blkOf]
  rw [e2, ← numBits_head h]
  simp only [List.append_assoc]
theorem blkOf_lt {last n : Nat} (h : last ≤ 1) (hn : n ≤ 65535) : ∀ x ∈ blkOf last n, x < 256 := by
  intro x hx
  simp [blkOf] at hx
  omega
theorem bytesOf_lt (s : ByteArray) (n : Nat) : ∀ x ∈ bytesOf s n, x < 256 := by
  intro x hx
  simp [bytesOf] at hx
  obtain ⟨i, _, rfl⟩ := hx
  exact byteAt_lt s i
theorem bytesOf_succ (s : ByteArray) (n : Nat) : bytesOf s (n + 1) = bytesOf s n ++ [byteAt s n] := by simp [bytesOf, List.range_succ]
theorem bytesOf_len (s : ByteArray) (n : Nat) : (bytesOf s n).length = n := by simp [bytesOf]
theorem storedL_lt : ∀ (k : Nat) (s : ByteArray), ∀ x ∈ storedL k s, x < 256
  | 0, s, x, h => by simp [storedL] at h
  | k + 1, s, x, h => by
    rw [storedL] at h
    split at h
    · rcases List.mem_append.1 h with h | h
      · exact blkOf_lt (by omega) (by assumption) x h
      · exact bytesOf_lt _ _ x h
    · rcases List.mem_append.1 h with h | h
      · rcases List.mem_append.1 h with h | h
        · exact blkOf_lt (by omega) (by omega) x h
        · exact bytesOf_lt _ _ x h
      · exact storedL_lt k _ x h
theorem bits_xor_block (n : Nat) (h : n ≤ 65535) : bits .xor .i64 65535 (n : Int) = ((65535 - n : Nat) : Int) := by
  have e1 : (65535 : Int) = ((65535 : Nat) : Int) := rfl
  have e2 : 65535 ^^^ n = 65535 - n := by
    apply Nat.eq_of_testBit_eq
    intro i
    have h1 := Nat.testBit_two_pow_sub_succ (x := n) (n := 16) (by omega) i
    have h2 := Nat.testBit_two_pow_sub_one 16 i
    rw [show 2 ^ 16 - (n + 1) = 65535 - n by omega] at h1
    rw [show 2 ^ 16 - 1 = 65535 by decide] at h2
    rw [Nat.testBit_xor, h1, h2]
    by_cases hi : i < 16
    · simp [hi]
    · have : n.testBit i = false := Nat.testBit_lt_two_pow (Nat.lt_of_lt_of_le (show n < 2 ^ 16 by omega) (Nat.pow_le_pow_right (by decide) (by omega)))
      simp [hi, this]
  rw [e1]
  simp only [bits, BitVec.ofInt_natCast, BitVec.toNat_xor, BitVec.toNat_ofNat]
  rw [Nat.mod_eq_of_lt (show 65535 < 2 ^ IntKind.i64.bits by decide), Nat.mod_eq_of_lt (Nat.lt_of_le_of_lt h (show 65535 < 2 ^ IntKind.i64.bits by decide)), e2]
  exact wraps_i62 _ (by omega) (by omega)
end Go.Proofs.Ytmdlhbhdlhjakaa
