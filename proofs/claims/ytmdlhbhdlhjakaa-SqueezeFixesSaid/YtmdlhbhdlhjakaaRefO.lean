/- The contracts of the document's answer's rows of bits: Put, number, Align, Text. -/
import Derived.Test.YtmdlhbhdlhjakaaRefN
import Derived.Test.YtmdlhbhdlhjakaaStoreR
import Derived.Test.YtmdlhbhdlhjakaaReadsW
set_option linter.unusedVariables false
set_option linter.unusedSimpArgs false
namespace Go.Proofs.Ytmdlhbhdlhjakaa
open Go.RowKit

theorem numBits_succ (n w : Nat) : numBits n (w + 1) = numBits n w ++ [n / 2 ^ w % 2] := by simp [numBits, List.range_succ]
theorem castL_len (l : List Nat) : (castL l).length = l.length := by simp [castL]
theorem castL_snoc (l : List Nat) (x : Nat) : castL (l ++ [x]) = castL l ++ [(x : Int)] := by simp [castL]

set_option maxRecDepth 100000 in
theorem rput08 {w : World} {A : Option Addr} {cap : Nat} {l : List Nat} (hr : Reads w .i64 A (castL l)) (n d : Nat) (hd : d ≤ 16) (hn : n < 2 ^ d) (hl : l.length ≤ 1000000000) :
    Calls Try.prog 86 #[.slice A l.length cap, .int .i64 n, .int .i64 d] w fun e w' => ∃ A' c', e = .returned (.tuple #[.slice A' (l ++ numBits n d).length c', .int .i64 0]) ∧ Reads w' .i64 A' (castL (l ++ numBits n d)) ∧ Below w.heap.size w w' := by
  have hlen : (l ++ numBits n d).length = l.length + d := by rw [List.length_append, numBits_length]
  rw [hlen]
  clear hlen
  have HP : Sealed (∀ w, Calls Try.prog 111 #[.int .i64 d] w fun e w' => e = .returned (.int .i64 ((2 ^ d : Nat) : Int)) ∧ w = w') := ⟨fun w => power08_any d (by omega) w⟩
  have hp : 2 ^ d ≤ 2 ^ 16 := Nat.pow_le_pow_right (by decide) hd
  obtain ⟨P, hP⟩ : ∃ P, P = 2 ^ d := ⟨_, rfl⟩
  rw [← hP] at HP hn hp
  have hpb : P ≤ 65536 := hp
  have h0 : decide (P ≤ n) = false := decide_eq_false (by omega)
  have h1 : decide ((n : Int) < 0) = false := decide_eq_false (by omega)
  have h2 : decide ((d : Int) < 0) = false := decide_eq_false (by omega)
  have h3 : decide (16 < d) = false := decide_eq_false (by omega)
  have HR := Sealed.mk hr
  have HL := castL_len l
  have HLL := Sealed.mk HL
  clear hP hp hr HL
  go_enter Try.func86, Try.ntmps86
  go_wp2_with fail
  refine (HP.out _).mono ?_
  rintro e w1 ⟨rfl, rfl⟩
  go_wp2_with (first
    | ((with_reducible refine gate_dst (N := 26) rfl ?_); refine ev_lit (cs := []) (t := 3) (n := 0) ?hg ?hr ?_; (case hg => rfl); (case hr => first | (go_simp; done) | (go_simp; rfl)); intro g1 w2 hg1 hb1 hB1 hs1; have G1 := Sealed.mk hg1; have L2 := Sealed.mk hB1; have HO2 : Sealed (w2.ownsRow w.heap.size 3 1 (.slice (some ⟨g1, 0, none⟩) 0 0) 0 (nums .i64 (castL []))) := ⟨hb1.owns (by rw [G1.out]; exact Nat.le_refl _) (by decide)⟩; have HR2 := Sealed.mk (HR.out.below hB1); clear hg1 hb1 hB1 hs1)
    | ((with_reducible refine gate_dst (N := 28) rfl ?_); refine wp_app_row w.heap.size rfl (.tmp 26) (.tmp 27) 22 3 .i64 8 rfl Try.underlying22 info_i64 (by decide) _ 0 _ (castL l) A cap rfl (by rw [HLL.out]; rfl) HO2.out HR2.out L2.out.size (by rw [HLL.out]; omega) ?_; intro v4 w4 ho4 hg4; have HO4 : Sealed (w4.ownsRow w.heap.size 3 1 v4 l.length (nums .i64 (castL l))) := ⟨by have h := ho4; rw [HLL.out, Nat.zero_add] at h; exact h⟩; have HC4 : Sealed (Chg w.heap.size [3] w w4) := ⟨(Chg.of_below L2.out).grown HO2.out (Nat.le_refl _) (by simp) hg4⟩; clear ho4 hg4))
  go_loopg [1, 8, 9] d (fun k s1 s8 s9 w' => ∃ i m : Nat, s1 = .int .i64 m ∧ s9 = .int .i64 i ∧ i ≤ d ∧ Sealed (k = d - i) ∧ m ≤ 65536 ∧ Sealed (m = n / 2 ^ i) ∧ Sealed (w'.ownsRow w.heap.size 3 1 s8 (l.length + i) (nums .i64 (castL (l ++ numBits n i)))) ∧ Sealed (Chg w.heap.size [3] w w'))
  case atStart => exact ⟨0, n, rfl, rfl, by omega, ⟨rfl⟩, by omega, ⟨by simp⟩, ⟨by simpa [numBits] using HO4.out⟩, HC4⟩
  case round =>
    clear HO4 HC4
    obtain ⟨i, m, rfl, rfl, hi, HK, hm, HM, HO, HC⟩ := hrel
    by_cases hlt : i < d
    · have hlt' : decide (i < d) = true := decide_eq_true hlt
      have HS : Sealed (w.heap.size ≤ wr.heap.size) := ⟨HC.out.size⟩
      go_wp2_with ((with_reducible refine gate_dst (N := 38) rfl ?_); refine wp_app1 w.heap.size rfl (.tmp 34) (.tmp 37) 22 3 (.int .i64 0) 8 rfl Try.underlying22 info_i64 rfl (by decide) _ (l.length + i) _ _ rfl rfl rfl HO.out HS.out (by omega) ?_; intro v4 w4 ho4 hg4; have HO4 := Sealed.mk ho4; have HG4 := Sealed.mk hg4; clear ho4 hg4)
      go_roundg (d - (i + 1))
      case measure => have := HK.out; omega
      case rel =>
        refine ⟨i + 1, m / 2, by go_num, by go_num, hlt, ⟨rfl⟩, by omega, ⟨by rw [HM.out, Nat.div_div_eq_div_mul, Nat.pow_succ]⟩, ⟨?_⟩, ⟨HC.out.grown HO.out (Nat.le_refl _) (by simp) HG4.out⟩⟩
        have ho := HO4.out
        rw [numBits_succ, ← List.append_assoc, castL_snoc, nums_snoc, ← Nat.add_assoc, ← HM.out]
        exact ho
    · obtain rfl : i = d := by omega
      have hlt' : decide (i < i) = false := decide_eq_false hlt
      obtain ⟨A5, c5, hv5⟩ := own_slice HO.out
      subst hv5
      go_wp2
      go_ret2
      exact ⟨A5, c5, rfl, own_reads HO.out, HC.out.to_below⟩
theorem rnumber {w : World} {A : Option Addr} {cap : Nat} {l : List Nat} (hr : Reads w .i64 A (castL l)) (n d : Nat) (hd : d ≤ 16) (hn : n < 2 ^ d) (hl : l.length ≤ 1000000000) {N D : Int} (hN : N = (n : Int)) (hD : D = (d : Int)) :
    Calls Try.prog 53 #[.slice A l.length cap, .int .i64 N, .int .i64 D] w fun e w' => ∃ A' c', e = .returned (.slice A' (l ++ numBits n d).length c') ∧ Reads w' .i64 A' (castL (l ++ numBits n d)) ∧ Below w.heap.size w w' := by
  subst hN hD
  have H := Sealed.mk (rput08 (cap := cap) hr n d hd hn hl)
  generalize l ++ numBits n d = L at *
  clear hr hn
  go_enter Try.func53, Try.ntmps53
  go_wp2_with fail
  refine H.out.mono ?_
  rintro e w1 ⟨A', c', rfl, h1, h2⟩
  have H1 := Sealed.mk h1
  have H2 := Sealed.mk h2
  clear h1 h2
  go_wp2
  go_ret
  exact ⟨A', c', rfl, H1.out, H2.out⟩
end Go.Proofs.Ytmdlhbhdlhjakaa
