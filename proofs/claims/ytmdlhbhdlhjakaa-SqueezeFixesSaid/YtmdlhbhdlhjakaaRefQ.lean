/- The contracts of the document's answer's rows of bits: Put of codes, Align, Text. -/
import Derived.Test.YtmdlhbhdlhjakaaRefO
import Derived.Test.YtmdlhbhdlhjakaaPass
set_option linter.unusedVariables false
set_option linter.unusedSimpArgs false
namespace Go.Proofs.Ytmdlhbhdlhjakaa
open Go.RowKit

theorem castL_repl (m : Nat) : castL (List.replicate m 0) = List.replicate m 0 := by simp [castL]
theorem set_code (l : List Nat) (C t m : Nat) : (castL (l ++ List.replicate (t + 1) 0 ++ codeBits C m)).set (l.length + t) ((C / 2 ^ m % 2 : Nat) : Int) = castL (l ++ List.replicate t 0 ++ codeBits C (m + 1)) := by
  have e : castL (l ++ List.replicate (t + 1) 0 ++ codeBits C m) = castL (l ++ List.replicate t 0) ++ (0 :: castL (codeBits C m)) := by
    rw [List.replicate_succ']; simp [castL]
  have hl : (castL (l ++ List.replicate t 0)).length = l.length + t := by simp [castL]
  rw [e, List.set_append_right _ _ (by rw [hl]; omega), hl, Nat.sub_self]
  simp [castL, codeBits]
set_option maxRecDepth 100000 in
theorem rput09 {w : World} {A : Option Addr} {cap : Nat} {l : List Nat} (hr : Reads w .i64 A (castL l)) (C d : Nat) (hd : d ≤ 16) (hC : C ≤ 1000000000) (hl : l.length ≤ 1000000000) {N D : Int} (hN : N = (C : Int)) (hD : D = (d : Int)) :
    Calls Try.prog 55 #[.slice A l.length cap, .int .i64 D, .int .i64 N] w fun e w' => ∃ A' c', e = .returned (.slice A' (l ++ codeBits C d).length c') ∧ Reads w' .i64 A' (castL (l ++ codeBits C d)) ∧ Below w.heap.size w w' := by
  subst hN hD
  have hlen : (l ++ codeBits C d).length = l.length + d := by rw [List.length_append, codeBits_len]
  rw [hlen]
  clear hlen
  have HR := Sealed.mk hr
  have HL := castL_len l
  have HLL := Sealed.mk HL
  clear hr HL
  go_enter Try.func55, Try.ntmps55
  go_wp2_with (first
    | ((with_reducible refine gate_dst (N := 11) rfl ?_); refine ev_lit (cs := []) (t := 3) (n := 0) ?hg ?hr ?_; (case hg => rfl); (case hr => first | (go_simp; done) | (go_simp; rfl)); intro g1 w2 hg1 hb1 hB1 hs1; have G1 := Sealed.mk hg1; have L2 := Sealed.mk hB1; have HO2 : Sealed (w2.ownsRow w.heap.size 3 1 (.slice (some ⟨g1, 0, none⟩) 0 0) 0 (nums .i64 (castL []))) := ⟨hb1.owns (by rw [G1.out]; exact Nat.le_refl _) (by decide)⟩; have HR2 := Sealed.mk (HR.out.below hB1); clear hg1 hb1 hB1 hs1)
    | ((with_reducible refine gate_dst (N := 13) rfl ?_); refine wp_app_row w.heap.size rfl (.tmp 11) (.tmp 12) 22 3 .i64 8 rfl Try.underlying22 info_i64 (by decide) _ 0 _ (castL l) A cap rfl (by rw [HLL.out]; rfl) HO2.out HR2.out L2.out.size (by rw [HLL.out]; omega) ?_; intro v4 w4 ho4 hg4; have HO4 : Sealed (w4.ownsRow w.heap.size 3 1 v4 l.length (nums .i64 (castL l))) := ⟨by have h := ho4; rw [HLL.out, Nat.zero_add] at h; exact h⟩; obtain ⟨A4, c4, hv4⟩ := own_slice HO4.out; subst hv4; have HC4 : Sealed (Chg w.heap.size [3] w w4) := ⟨(Chg.of_below L2.out).grown HO2.out (Nat.le_refl _) (by simp) hg4⟩; clear ho4 hg4))
  go_loopg [7, 9] d (fun k s7 s9 w' => ∃ i : Nat, s9 = .int .i64 i ∧ i ≤ d ∧ Sealed (k = d - i) ∧ Sealed (w'.ownsRow w.heap.size 3 1 s7 (l.length + i) (nums .i64 (castL (l ++ List.replicate i 0)))) ∧ Sealed (Chg w.heap.size [3] w w'))
  case atStart => exact ⟨0, rfl, by omega, ⟨rfl⟩, ⟨by simpa using HO4.out⟩, HC4⟩
  case round =>
    clear HO4 HC4
    obtain ⟨i, rfl, hi, HK, HO, HC⟩ := hrel
    by_cases hlt : i < d
    · have hlt' : decide (i < d) = true := decide_eq_true hlt
      have HS : Sealed (w.heap.size ≤ wr.heap.size) := ⟨HC.out.size⟩
      go_wp2_with ((with_reducible refine gate_dst (N := 23) rfl ?_); refine wp_app1 w.heap.size rfl (.tmp 21) (.tmp 22) 22 3 (.int .i64 0) 8 rfl Try.underlying22 info_i64 rfl (by decide) _ (l.length + i) _ _ rfl rfl rfl HO.out HS.out (by omega) ?_; intro v4 w4 ho4 hg4; have HO4 := Sealed.mk ho4; have HG4 := Sealed.mk hg4; clear ho4 hg4)
      go_roundg (d - (i + 1))
      case measure => have := HK.out; omega
      case rel =>
        refine ⟨i + 1, by go_num, hlt, ⟨rfl⟩, ⟨?_⟩, ⟨HC.out.grown HO.out (Nat.le_refl _) (by simp) HG4.out⟩⟩
        have ho := HO4.out
        rw [List.replicate_succ', ← List.append_assoc, castL_snoc, nums_snoc, ← Nat.add_assoc]
        exact ho
    · obtain rfl : i = d := by omega
      have hlt' : decide (i < i) = false := decide_eq_false hlt
      have HO1 : Sealed (wr.ownsRow w.heap.size 3 1 u7 (l.length + i) (nums .i64 (castL (l ++ List.replicate i 0 ++ codeBits C 0)))) := ⟨by simpa [codeBits] using HO.out⟩
      clear HO
      go_wp2
      go_loopg [2, 10] i (fun k s2 s10 w' => ∃ (x m t : Nat) (J : Int), s2 = .int .i64 x ∧ s10 = .int .i64 J ∧ Sealed (J = (t : Int) - 1) ∧ -1 ≤ J ∧ J ≤ 15 ∧ Sealed (k = t) ∧ Sealed (m + t = i) ∧ x ≤ 1000000000 ∧ Sealed (x = C / 2 ^ m) ∧ Sealed (w'.ownsRow w.heap.size 3 1 u7 (l.length + i) (nums .i64 (castL (l ++ List.replicate t 0 ++ codeBits C m)))) ∧ Sealed (Chg w.heap.size [3] w w'))
      case atStart => exact ⟨C, 0, i, (i : Int) - 1, rfl, rfl, ⟨rfl⟩, by omega, by omega, ⟨rfl⟩, ⟨by omega⟩, hC, ⟨by simp⟩, HO1, HC⟩
      case round =>
        clear HO1 HC HK
        obtain ⟨x, m, t, J, rfl, rfl, HJ, hJ0, hJ1, HK, HMT, hx, HX, HO, HC⟩ := hrel
        by_cases hlt : 0 ≤ J
        · have hlt' : decide (0 ≤ J) = true := decide_eq_true hlt
          obtain ⟨t, rfl⟩ : ∃ t', t = t' + 1 := ⟨t - 1, by have := HJ.out; omega⟩
          obtain ⟨g5, c5, hv5⟩ := own_head HO.out (by have := HMT.out; omega)
          subst hv5
          have hJt : Sealed (J = (t : Int)) := ⟨by have := HJ.out; omega⟩
          have hix : 0 ≤ (l.length : Int) + J := by omega
          have hix2 : (l.length : Int) + J < (l.length : Int) + (i : Int) := by have := hJt.out; have := HMT.out; omega
          have hixn : ((l.length : Int) + J).toNat = l.length + t := by have := hJt.out; omega
          have hc := own_cell HO.out (i := l.length + t) (by have := HMT.out; omega)
          rw [add_plain] at hc
          have hf := World.ownsRow.frozenAt HO.out (l.length + t)
          have hty : Sealed (Typed wr g5 3 ∧ w.heap.size ≤ g5) := ⟨by obtain ⟨g, e, h1, h2⟩ := own_form HO.out (by have := HMT.out; omega); injection e with e; injection e with e; subst e; exact ⟨h2, h1⟩⟩
          obtain ⟨y, hy⟩ : ∃ y, y = (castL (l ++ List.replicate (t + 1) 0 ++ codeBits C m)).getD (l.length + t) 0 := ⟨_, rfl⟩
          rw [← hy] at hc
          clear hy
          go_wp2
          go_roundg t
          case measure => have := HK.out; omega
          case rel =>
            have hst := (World.ownsRow.stored HO.out (l.length + t) (.int .i64 ((x : Int) % 2))).1
            rw [nums_set, show (x : Int) % 2 = ((C / 2 ^ m % 2 : Nat) : Int) by rw [← HX.out]; omega, set_code] at hst
            have hch := HC.out.set_old (p := ⟨g5, l.length + t, none⟩) hty.out.2 (by simp) hty.out.1 (.int .i64 ((x : Int) % 2))
            refine ⟨x / 2, m + 1, t, J - 1, by go_num, rfl, ⟨by have := hJt.out; omega⟩, by omega, by omega, ⟨rfl⟩, ⟨by have := HMT.out; omega⟩, by omega, ⟨by rw [HX.out, Nat.div_div_eq_div_mul, Nat.pow_succ]⟩, ⟨?_⟩, ⟨hch⟩⟩
            rw [show (x : Int) % 2 = ((C / 2 ^ m % 2 : Nat) : Int) by rw [← HX.out]; omega]
            exact hst
        · have hlt' : decide (0 ≤ J) = false := decide_eq_false hlt
          have ht0 : t = 0 := by have := HJ.out; omega
          have hm : m = i := by have := HMT.out; omega
          have HO1 : Sealed (wr.ownsRow w.heap.size 3 1 u7 (l.length + i) (nums .i64 (castL (l ++ codeBits C i)))) := ⟨by have h := HO.out; rw [ht0, hm] at h; simpa using h⟩
          obtain ⟨A5, c5, hv5⟩ := own_slice HO1.out
          subst hv5
          clear ht0 hm
          go_wp2
          go_ret
          exact ⟨A5, ⟨c5, rfl⟩, own_reads HO1.out, HC.out.to_below⟩
end Go.Proofs.Ytmdlhbhdlhjakaa
