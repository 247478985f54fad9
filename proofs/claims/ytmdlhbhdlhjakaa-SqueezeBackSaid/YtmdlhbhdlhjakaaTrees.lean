/- What must come at any rate: the page's example: the law's function 'trees' is true. -/
import Derived.Test.YtmdlhbhdlhjakaaTreeC
set_option linter.unusedVariables false
set_option linter.unusedSimpArgs false
namespace Go.Proofs.Ytmdlhbhdlhjakaa
open Go.RowKit

set_option maxRecDepth 100000 in
theorem same_any (A A' : Option Addr) (c c' : Nat) (xs ys : List Int) (w : World) (hx : Reads w .i64 A xs) (hy : Reads w .i64 A' ys) (hl : xs.length ≤ 1000000000000) :
    Calls Try.prog 40 #[.slice A xs.length c, .slice A' ys.length c'] w fun e w' => e = .returned (.bool (decide (xs = ys))) ∧ Below w.heap.size w w' := by
  have HX := Sealed.mk hx
  have HY := Sealed.mk hy
  clear hx hy
  by_cases hlen : xs.length = ys.length
  · have hd : (xs.length != ys.length) = false := by simpa using hlen
    obtain ⟨R, hR⟩ : ∃ R, R = decide (xs = ys) := ⟨_, rfl⟩
    rw [← hR]
    have HR := Sealed.mk hR
    have HL := Sealed.mk hlen
    obtain ⟨n, hn⟩ : ∃ n, n = xs.length := ⟨_, rfl⟩
    rw [← hn] at hl
    rw [← hlen, ← hn]
    have HN := Sealed.mk hn
    clear hlen hd hn hR
    go_enter Try.func40, Try.ntmps40
    go_wp2
    go_loopg [5] n (fun k s5 w' => ∃ i : Nat, s5 = .int .i64 i ∧ Sealed (k = n - i) ∧ Sealed (i ≤ n) ∧ Sealed (xs.take i = ys.take i) ∧ Sealed (Below w.heap.size w w'))
    case atStart => exact ⟨0, rfl, ⟨rfl⟩, ⟨Nat.zero_le _⟩, ⟨rfl⟩, ⟨Below.refl _ _⟩⟩
    case round =>
      obtain ⟨i, rfl, HK, HI, HE, HB⟩ := hrel
      by_cases hlt : i < n
      · obtain ⟨ad, rfl, hc0⟩ := HX.out.cell i (by have := HN.out; omega)
        obtain ⟨ad', rfl, hc1⟩ := HY.out.cell i (by have := HN.out; have := HL.out; omega)
        have x0 := (HB.out.cell (World.block_lt_of_cell? w _ hc0)).trans hc0
        have x1 := (HB.out.cell (World.block_lt_of_cell? w _ hc1)).trans hc1
        have tx := take_snoc (ls := xs) (i := i) (by have := HN.out; omega)
        have ty := take_snoc (ls := ys) (i := i) (by have := HN.out; have := HL.out; omega)
        obtain ⟨a, ha⟩ : ∃ a, a = xs.getD i 0 := ⟨_, rfl⟩
        obtain ⟨b, hb⟩ : ∃ b, b = ys.getD i 0 := ⟨_, rfl⟩
        rw [← ha] at x0 tx
        rw [← hb] at x1 ty
        have TX := Sealed.mk tx
        have TY := Sealed.mk ty
        have HA := Sealed.mk ha
        have HBb := Sealed.mk hb
        clear tx ty ha hb hc0 hc1
        by_cases he : a = b
        · have hd1 : (a != b) = false := by simpa using he
          have HEE := Sealed.mk he
          clear he
          go_wp2
          go_quiet (fail)
          go_wp2
          go_roundg (n - (i + 1))
          case measure => have := HK.out; omega
          case rel => exact ⟨i + 1, by go_num, ⟨rfl⟩, ⟨hlt⟩, ⟨by rw [TX.out, TY.out, HE.out, HEE.out]⟩, ⟨⟨HB.out.os, HB.out.tape, HB.out.output, HB.out.size, HB.out.block⟩⟩⟩
        · have hd1 : (a != b) = true := by simpa using he
          have hne : R = false := by
            rw [HR.out]
            refine decide_eq_false fun h => he ?_
            rw [HA.out, HBb.out, h]
          have HNE := Sealed.mk hne
          clear he hne
          go_wp2
          go_quiet (fail)
          go_wp2
          go_ret
          exact ⟨ret_bool HNE.out.symm, ⟨HB.out.os, HB.out.tape, HB.out.output, HB.out.size, HB.out.block⟩⟩
      · have hi : i = n := by have := HI.out; omega
        have hne : R = true := by
          rw [HR.out]
          refine decide_eq_true ?_
          have h := HE.out
          rw [hi, HN.out, List.take_length, HL.out, List.take_length] at h
          exact h
        have HNE := Sealed.mk hne
        have hd2 : decide (i < n) = false := decide_eq_false hlt
        clear hne hi hlt
        go_wp2
        go_ret
        exact ⟨ret_bool HNE.out.symm, HB.out⟩
  · have hd : (xs.length != ys.length) = true := by simpa using hlen
    have HR : Sealed (false = decide (xs = ys)) := ⟨by symm; exact decide_eq_false fun h => hlen (by rw [h])⟩
    have hd' : ((xs.length : Int) != (ys.length : Int)) = true := by simp; omega
    generalize xs.length = n at *
    generalize ys.length = m at *
    clear hlen
    go_enter Try.func40, Try.ntmps40
    go_wp2
    go_ret
    exact ⟨ret_bool HR.out, Below.refl _ _⟩

/-! ### the example's own numbers -/
def exL : List Int := [2, 1, 3, 3]
theorem ex_ok : exL.all lenOk = true := by decide
theorem ex_may : mayOf (checkOf exL) = 0 := by decide +kernel
theorem ex_codesOf : codesOf exL = [2, 0, 6, 7] := by decide +kernel
theorem ex_read : readOf exL (bit ⟨#[3]⟩) 8 0 = (2, 0, 3) := by decide +kernel
theorem ex_text : textOf [1, 1, 0] = ⟨#[3]⟩ := by decide +kernel
theorem ex_check : checkOf [1, 1, 1] = 7 := by decide +kernel
theorem ex_codes {w : World} {g : Nat} (h : IsBlk w g (nums .i64 exL) 3) :
    Calls Try.prog 39 #[.slice (some ⟨g, 0, none⟩) 4 4] w fun e w' => ∃ g', e = .returned (.tuple #[.slice (some ⟨g', 0, none⟩) 4 4, .int .i64 0]) ∧ IsBlk w' g' (nums .i64 [2, 0, 6, 7]) 3 ∧ Below w.heap.size w w' := by
  have h1 := codes_good (cap := 4) (blk_reads h (by decide)) (by decide) ex_ok ex_may
  rw [ex_codesOf] at h1
  exact h1.mono fun e w' ⟨g', a, b, _, c⟩ => ⟨g', a, b, c⟩
theorem ex_new {w : World} {g : Nat} (h : IsBlk w g (nums .i64 exL) 3) :
    Calls Try.prog 15 #[.slice (some ⟨g, 0, none⟩) 4 4] w fun e w' => ∃ g', e = .returned (.tuple #[.pointer (some ⟨g', 0, none⟩), .int .i64 0]) ∧ TrSt w.heap.size w' g' exL ∧ Below w.heap.size w w' :=
  new_good (cap := 4) (blk_reads h (by decide)) (by decide) ex_ok ex_may
theorem ex_write {B B2 : Nat} {w : World} {gt g : Nat} (ht : TrSt B2 w gt exL) (hw : WrSt B w g 43 [] []) :
    Calls Try.prog 22 #[.pointer (some ⟨gt, 0, none⟩), .pointer (some ⟨g, 0, none⟩), .int .i64 2] w fun e w' => e = .returned (.int .i64 0) ∧ Chg B [43, 5] w w' ∧ WrSt B w' g 43 [] [1, 1, 0] :=
  write_ok ht hw (by decide) ex_ok (by decide) (by decide) 2 (by decide) 3 rfl (by decide) (by decide)
theorem ex_readc {B : Nat} {w : World} {gt gr : Nat} (ht : TrSt B w gt exL) (hr : RdSt w gr ⟨#[3]⟩ 0) :
    Calls Try.prog 19 #[.pointer (some ⟨gt, 0, none⟩), .pointer (some ⟨gr, 0, none⟩)] w fun e w' => e = .returned (.tuple #[.int .i64 2, .int .i64 0]) ∧ Chg gr [73] w w' := by
  have h := read_any ht hr (by decide) (by decide) ex_ok
  rw [show (8 * (⟨#[3]⟩ : ByteArray).size) = 8 from rfl, ex_read] at h
  exact h.mono fun e w' ⟨a, _, c⟩ => ⟨a, c⟩
theorem ex_textc {B : Nat} {w : World} {g : Nat} (h : WrSt B w g 43 [] [1, 1, 0]) :
    Calls Try.prog 23 #[.pointer (some ⟨g, 0, none⟩)] w fun e w' => e = .returned (.string ⟨#[3]⟩) ∧ Below w.heap.size w w' := by
  have h1 := text_ok h (by decide)
  rwa [ex_text] at h1
theorem ex_bad {B2 : Nat} {w : World} {gt g : Nat} (ht : TrSt B2 w gt exL) :
    Calls Try.prog 22 #[.pointer (some ⟨gt, 0, none⟩), .pointer (some ⟨g, 0, none⟩), .int .i64 4] w fun e w' => e = .returned (.int .i64 12) ∧ w = w' :=
  write_bad ht 4 (by decide) (by decide)
theorem ex_checkc {w : World} {g : Nat} (h : IsBlk w g (nums .i64 [1, 1, 1]) 3) :
    Calls Try.prog 41 #[.slice (some ⟨g, 0, none⟩) 3 3] w fun e w' => e = .returned (.int .i64 7) ∧ Below w.heap.size w w' := by
  have h1 := check_any (some ⟨g, 0, none⟩) 3 [1, 1, 1] w (blk_reads h (by decide))
  rw [ex_check] at h1
  exact h1
theorem ex_same {w : World} {g g' : Nat} (h : IsBlk w g (nums .i64 [2, 0, 6, 7]) 3) (h' : IsBlk w g' (nums .i64 [2, 0, 6, 7]) 3) :
    Calls Try.prog 40 #[.slice (some ⟨g, 0, none⟩) 4 4, .slice (some ⟨g', 0, none⟩) 4 4] w fun e w' => e = .returned (.bool true) ∧ Below w.heap.size w w' :=
  same_any _ _ 4 4 [2, 0, 6, 7] [2, 0, 6, 7] w (blk_reads h (by decide)) (blk_reads h' (by decide)) (by decide)

theorem ht4chg {B : Nat} {w w' : World} {g : Nat} {ls : List Int} (h : TrSt B w g ls) (hb : Below w.heap.size w w') : TrSt B w' g ls := h.chg (T := []) (Chg.of_below (B := 0) hb) (by simp) (by simp)
set_option maxRecDepth 100000 in
set_option maxHeartbeats 1000000 in
theorem trees_any (w : World) : Calls Try.prog 14 #[] w fun e w' => e = .returned (.bool true) ∧ Below w.heap.size w w' := by
  go_enter Try.func14, Try.ntmps14
  go_wp2_with ((with_reducible refine gate_dst (N := 16) rfl ?_); refine ev_lit (cs := nums .i64 exL) (t := 3) (n := 4) ?hg ?hr ?_; (case hg => rfl); (case hr => first | (go_simp; done) | (go_simp; rfl)); intro g1 w1 hg1 hb1 hB1 hs1; have Bg1 := Sealed.mk hb1; have Lg1 := Sealed.mk hB1; clear hg1 hb1 hB1 hs1)
  refine (ex_codes Bg1.out).mono ?_
  rintro e w2 ⟨g2, rfl, hb2, hl2⟩
  have B2 := Sealed.mk hb2
  have C2 : Sealed (Chg w.heap.size [] w w2) := ⟨((Chg.refl w.heap.size [] w).below_step Lg1.out).below_step hl2⟩
  clear hb2 hl2
  go_wp2_with ((with_reducible refine gate_dst (N := 21) rfl ?_); refine ev_lit (cs := nums .i64 exL) (t := 3) (n := 4) ?hg ?hr ?_; (case hg => rfl); (case hr => first | (go_simp; done) | (go_simp; rfl)); intro g3 w3 hg1 hb1 hB1 hs1; have Bg3 := Sealed.mk hb1; have Lg3 := Sealed.mk hB1; clear hg1 hb1 hB1 hs1)
  refine (ex_new Bg3.out).mono ?_
  rintro e w4 ⟨gt, rfl, ht4, hl4⟩
  have HT4 := Sealed.mk ht4
  have C4 : Sealed (Chg w.heap.size [] w w4) := ⟨(C2.out.below_step Lg3.out).below_step hl4⟩
  have B4 := Sealed.mk ((B2.out.below' Lg3.out).below' hl4)
  clear ht4 hl4
  go_wp2_with fail
  refine (newReader_any ⟨#[3]⟩ w4).mono ?_
  rintro e w5 ⟨rfl, hr5, hl5, hs5⟩
  have HR5 := Sealed.mk hr5
  have HT5 := Sealed.mk (ht4chg HT4.out hl5)
  have C5 : Sealed (Chg w.heap.size [] w w5) := ⟨C4.out.below_step hl5⟩
  have hB4 : w.heap.size ≤ w4.heap.size := C4.out.size
  have B5 := Sealed.mk (B4.out.below' hl5)
  clear hr5 hl5 hs5
  go_wp2_with ((with_reducible refine gate_dst (N := 6) rfl ?_); refine ev_box (cs := [.int .i64 0, .int .i64 0, .slice none 0 0]) (t := 43) ?hg ?hr ?_; (case hg => rfl); (case hr => first | (go_simp; done) | (go_simp; rfl)); intro g6 w6 hg6 hb6 hB6 hs6; have G6 := Sealed.mk hg6; have B6 := Sealed.mk hb6; have L6 := Sealed.mk hB6; clear hg6 hb6 hB6 hs6)
  have HT6 := Sealed.mk (ht4chg HT5.out L6.out)
  have HR6 := Sealed.mk (HR5.out.chg (B := 0) (T := []) (Chg.of_below L6.out) (.inr (by simp)))
  have HW6 : Sealed (WrSt w.heap.size w6 g6 43 [] []) := ⟨WrSt.new B6.out (by rw [G6.out]; exact C5.out.size) (by decide)⟩
  have C6 : Sealed (Chg w.heap.size [] w w6) := ⟨C5.out.below_step L6.out⟩
  have B6' := Sealed.mk (B5.out.below' L6.out)
  clear HT5 HR5 C5 L6 B6 G6 HT4 C4 B4 B5 Bg3 Lg3 B2 C2
  refine (ex_write HT6.out HW6.out).mono ?_
  rintro e w7 ⟨rfl, hc7, hw7⟩
  have HW7 := Sealed.mk hw7
  have HT7 := Sealed.mk (HT6.out.chg hc7 (by decide) (by decide))
  have HR7 := Sealed.mk (HR6.out.chg hc7 (.inr (by decide)))
  have B7 := Sealed.mk (B6'.out.chg hc7 (.inr (by decide)))
  have C7 : Sealed (Chg w.heap.size [43, 5, 73] w w7) := ⟨(C6.out.mono (Nat.le_refl _) (by simp)).trans (hc7.mono (Nat.le_refl _) (by simp))⟩
  clear hc7 hw7 HT6 HR6 HW6 C6 B6'
  go_wp2_with fail
  refine (ex_readc HT7.out HR7.out).mono ?_
  rintro e w8 ⟨rfl, hc8⟩
  have HW8 := Sealed.mk (HW7.out.chg hc8 (by decide) (by decide))
  have HT8 := Sealed.mk (HT7.out.chg hc8 (by decide) (by decide))
  have B8 := Sealed.mk (B7.out.chg hc8 (.inr (by decide)))
  have C8 : Sealed (Chg w.heap.size [43, 5, 73] w w8) := ⟨C7.out.trans (hc8.mono hB4 (by simp))⟩
  clear hc8 HW7 HT7 HR7 B7 C7
  go_wp2_with fail
  refine (read_nil _ _).mono ?_
  rintro e w' ⟨rfl, rfl⟩
  go_wp2_with fail
  refine (read_nil2 _ _).mono ?_
  rintro e w' ⟨rfl, rfl⟩
  go_wp2_with ((with_reducible refine gate_dst (N := 52) rfl ?_); refine ev_lit (cs := nums .i64 [2, 0, 6, 7]) (t := 3) (n := 4) ?hg ?hr ?_; (case hg => rfl); (case hr => first | (go_simp; done) | (go_simp; rfl)); intro g9 w9 hg1 hb1 hB1 hs1; have Bg9 := Sealed.mk hb1; have Lg9 := Sealed.mk hB1; clear hg1 hb1 hB1 hs1)
  refine (ex_same (B8.out.below' Lg9.out) Bg9.out).mono ?_
  rintro e w10 ⟨rfl, hb⟩
  have HW10 := Sealed.mk (HW8.out.chg (B := w.heap.size) (T := []) (C := 0) ((Chg.of_below (B := 0) Lg9.out).trans (Chg.of_below hb)) (by simp) (by simp))
  have HT10 := Sealed.mk (ht4chg (ht4chg HT8.out Lg9.out) hb)
  have C10 := Sealed.mk ((C8.out.below_step Lg9.out).below_step hb)
  clear hb HW8 HT8 C8 B8 Bg9 Lg9
  go_wp2_with fail
  refine (ex_textc HW10.out).mono ?_
  rintro e w11 ⟨rfl, hb⟩
  have HT11 := Sealed.mk (ht4chg HT10.out hb)
  have C11 := Sealed.mk (C10.out.below_step hb)
  clear hb HT10 C10
  go_wp2_with fail
  refine (write_nil _ _ _).mono ?_
  rintro e w' ⟨rfl, rfl⟩
  go_wp2_with fail
  refine (write_nil2 _ _ _).mono ?_
  rintro e w' ⟨rfl, rfl⟩
  go_wp2_with fail
  refine (ex_bad HT11.out).mono ?_
  rintro e w' ⟨rfl, rfl⟩
  go_wp2_with fail
  have B12 : IsBlk (w11.alloc (.cells #[.int .i64 1, .int .i64 1, .int .i64 1] 3)) w11.heap.size (nums .i64 [1, 1, 1]) 3 := IsBlk.new w11 [.int .i64 1, .int .i64 1, .int .i64 1] _
  refine (ex_checkc B12).mono ?_
  rintro e w13 ⟨rfl, hb⟩
  have C13 := Sealed.mk ((C11.out.alloc _).below_step hb)
  clear hb C11 B12
  go_wp2
  go_ret
  exact ⟨rfl, C13.out.to_below⟩
end Go.Proofs.Ytmdlhbhdlhjakaa
