/- The contract of package codes' New. -/
import Derived.Deep.DeepCutAuto
import Derived.Test.YtmdlhbhdlhjakaaM04
set_option linter.unusedVariables false
set_option linter.unusedSimpArgs false
namespace Go.Proofs.Ytmdlhbhdlhjakaa
open Go.RowKit

theorem cells16 {w : World} {g t : Nat} {x0 x1 x2 x3 x4 x5 x6 x7 x8 x9 x10 x11 x12 x13 x14 x15 : Int} (h : IsBlk w g (nums .i64 [x0, x1, x2, x3, x4, x5, x6, x7, x8, x9, x10, x11, x12, x13, x14, x15]) t) : w.cell? ⟨g, 0, none⟩ = some (.int .i64 x0) ∧ w.cell? ⟨g, 1, none⟩ = some (.int .i64 x1) ∧ w.cell? ⟨g, 2, none⟩ = some (.int .i64 x2) ∧ w.cell? ⟨g, 3, none⟩ = some (.int .i64 x3) ∧ w.cell? ⟨g, 4, none⟩ = some (.int .i64 x4) ∧ w.cell? ⟨g, 5, none⟩ = some (.int .i64 x5) ∧ w.cell? ⟨g, 6, none⟩ = some (.int .i64 x6) ∧ w.cell? ⟨g, 7, none⟩ = some (.int .i64 x7) ∧ w.cell? ⟨g, 8, none⟩ = some (.int .i64 x8) ∧ w.cell? ⟨g, 9, none⟩ = some (.int .i64 x9) ∧ w.cell? ⟨g, 10, none⟩ = some (.int .i64 x10) ∧ w.cell? ⟨g, 11, none⟩ = some (.int .i64 x11) ∧ w.cell? ⟨g, 12, none⟩ = some (.int .i64 x12) ∧ w.cell? ⟨g, 13, none⟩ = some (.int .i64 x13) ∧ w.cell? ⟨g, 14, none⟩ = some (.int .i64 x14) ∧ w.cell? ⟨g, 15, none⟩ = some (.int .i64 x15) :=
  ⟨h.cell 0 rfl, h.cell 1 rfl, h.cell 2 rfl, h.cell 3 rfl, h.cell 4 rfl, h.cell 5 rfl, h.cell 6 rfl, h.cell 7 rfl, h.cell 8 rfl, h.cell 9 rfl, h.cell 10 rfl, h.cell 11 rfl, h.cell 12 rfl, h.cell 13 rfl, h.cell 14 rfl, h.cell 15 rfl⟩
theorem list16 (l : List Int) (h : l.length = 16) : ∃ x0 x1 x2 x3 x4 x5 x6 x7 x8 x9 x10 x11 x12 x13 x14 x15, l = [x0, x1, x2, x3, x4, x5, x6, x7, x8, x9, x10, x11, x12, x13, x14, x15] := by
  match l, h with
  | [x0, x1, x2, x3, x4, x5, x6, x7, x8, x9, x10, x11, x12, x13, x14, x15], _ => exact ⟨_, _, _, _, _, _, _, _, _, _, _, _, _, _, _, _, rfl⟩
/-- The indexes of the lengths n, of the first k. -/
def idxPart (ls : List Int) (n : Int) (k : Nat) : List Int := ((List.range k).filter fun i => ls.getD i 0 == n).map Int.ofNat
def idxOf (ls : List Int) (n : Int) : List Int := idxPart ls n ls.length
theorem idxPart_yes {ls : List Int} {n : Int} {k : Nat} (h : ls.getD k 0 = n) : idxPart ls n (k + 1) = idxPart ls n k ++ [(k : Int)] := by
  simp only [idxPart, List.range_succ, List.filter_append, List.map_append, List.filter_cons, List.filter_nil, h]; simp
theorem idxPart_no {ls : List Int} {n : Int} {k : Nat} (h : ls.getD k 0 ≠ n) : idxPart ls n (k + 1) = idxPart ls n k := by
  have h' : (ls.getD k 0 == n) = false := by simpa using h
  simp only [idxPart, List.range_succ, List.filter_append, List.map_append, List.filter_cons, List.filter_nil, h']; simp
def symsUpto (ls : List Int) : Nat → List Int
  | 0 => []
  | n + 1 => symsUpto ls n ++ idxOf ls ((n + 1 : Nat) : Int)
def symsOf (ls : List Int) : List Int := symsUpto ls 15
def longUpto (ls : List Int) : Nat → Int
  | 0 => 0
  | n + 1 => if idxOf ls ((n + 1 : Nat) : Int) = [] then longUpto ls n else ((n + 1 : Nat) : Int)
def longOf (ls : List Int) : Int := longUpto ls 15

def longPart (ls : List Int) (n k : Nat) : Int := if idxPart ls ((n + 1 : Nat) : Int) k = [] then longUpto ls n else ((n + 1 : Nat) : Int)
/-- At block g stands the tree of the lengths ls; what it leads to lies from B on. -/
def TrSt (B : Nat) (w : World) (g : Nat) (ls : List Int) : Prop :=
  B ≤ g ∧ ∃ v0 v1 v2, IsBlk w g (v0 :: v1 :: (nums .i64 (cnt0 ls) ++ [v2, .int .i64 (longOf ls)])) 70 ∧
    w.ownsRow B 3 1 v0 ls.length (nums .i64 ls) ∧ w.ownsRow B 3 1 v1 ls.length (nums .i64 (codesOf ls)) ∧ w.ownsRow B 3 1 v2 (symsOf ls).length (nums .i64 (symsOf ls))
theorem TrSt.chg {B C : Nat} {T : List TypeId} {w w' : World} {g : Nat} {ls : List Int} (h : TrSt B w g ls) (hc : Chg C T w w') (h1 : 70 ∉ T) (h2 : 3 ∉ T) : TrSt B w' g ls := by
  obtain ⟨hB, v0, v1, v2, hb, o0, o1, o2⟩ := h
  exact ⟨hB, v0, v1, v2, hb.chg hc (.inr h1), owns_chg o0 hc h2, owns_chg o1 hc h2, owns_chg o2 hc h2⟩

theorem tl18 {v0 v1 v2 l : Value} {xs : List Int} (h : xs.length = 16) : (v0 :: v1 :: (nums .i64 xs ++ [v2, l]))[18]? = some v2 := by
  have hl : (nums .i64 xs).length = 16 := by rw [nums_length, h]
  simp [List.getElem?_append_right, hl]
theorem tl19 {v0 v1 v2 l : Value} {xs : List Int} (h : xs.length = 16) : (v0 :: v1 :: (nums .i64 xs ++ [v2, l]))[19]? = some l := by
  have hl : (nums .i64 xs).length = 16 := by rw [nums_length, h]
  simp [List.getElem?_append_right, hl]
theorem tls18 {v0 v1 v2 l u : Value} {xs : List Int} (h : xs.length = 16) : (v0 :: v1 :: (nums .i64 xs ++ [v2, l])).set 18 u = v0 :: v1 :: (nums .i64 xs ++ [u, l]) := by
  have hl : (nums .i64 xs).length = 16 := by rw [nums_length, h]
  simp [List.set_append_right, hl]
theorem tls19 {v0 v1 v2 l u : Value} {xs : List Int} (h : xs.length = 16) : (v0 :: v1 :: (nums .i64 xs ++ [v2, l])).set 19 u = v0 :: v1 :: (nums .i64 xs ++ [v2, u]) := by
  have hl : (nums .i64 xs).length = 16 := by rw [nums_length, h]
  simp [List.set_append_right, hl]
theorem tlx {v0 v1 v2 l : Value} {xs : List Int} (h : xs.length = 16) {i : Nat} (hi : i < 16) : (v0 :: v1 :: (nums .i64 xs ++ [v2, l]))[i + 2]? = some (.int .i64 (xs.getD i 0)) := by
  have hl : (nums .i64 xs).length = 16 := by rw [nums_length, h]
  simp only [List.getElem?_cons_succ]
  rw [List.getElem?_append_left (by omega), nums_get (by omega)]
/-- The tree, as it grows. -/
def TrIn (G : Nat) (v0 v1 : Value) (xs : List Int) (w w' : World) (syms : List Int) (lg : Int) : Prop :=
  ∃ v2, IsBlk w' G (v0 :: v1 :: (nums .i64 xs ++ [v2, .int .i64 lg])) 70 ∧ w'.ownsRow G 3 1 v2 syms.length (nums .i64 syms) ∧ Chg G [70, 3] w w' ∧ G ≤ w'.heap.size
theorem symsUpto_le (ls : List Int) : ∀ n, (symsUpto ls n).length ≤ n * ls.length
  | 0 => by simp [symsUpto]
  | n + 1 => by
    have h := symsUpto_le ls n
    have h2 : (idxOf ls ((n + 1 : Nat) : Int)).length ≤ ls.length := by
      have := List.length_filter_le (fun i => ls.getD i 0 == ((n + 1 : Nat) : Int)) (List.range ls.length)
      simp only [idxOf, idxPart, List.length_map, List.length_range] at *
      exact this
    rw [symsUpto, List.length_append, Nat.succ_mul]
    omega
theorem idxPart_le (ls : List Int) (n : Int) (k : Nat) : (idxPart ls n k).length ≤ k := by
  have := List.length_filter_le (fun i => ls.getD i 0 == n) (List.range k)
  simp only [idxPart, List.length_map, List.length_range] at *
  exact this

set_option maxRecDepth 100000 in
theorem new_err {A : Option Addr} {n cap : Nat} {er : Int} {w : World} (he : (er != 0) = true)
    (h : Calls Try.prog 39 #[.slice A n cap] w fun e w' => e = .returned (.tuple #[.slice none 0 0, .int .i64 er]) ∧ Below w.heap.size w w') :
    Calls Try.prog 15 #[.slice A n cap] w fun e w' => e = .returned (.tuple #[.pointer none, .int .i64 er]) ∧ Below w.heap.size w w' := by
  have H := Sealed.mk h
  clear h
  go_enter Try.func15, Try.ntmps15
  go_wp2_with (go_at_call 39; refine H.out.mono ?_; rintro e w1 ⟨rfl, hb⟩; have L1 := Sealed.mk hb; clear hb)
  go_ret2
  exact ⟨rfl, L1.out⟩

set_option maxRecDepth 100000 in
set_option maxHeartbeats 1000000 in
theorem new_good {A : Option Addr} {cap : Nat} {ls : List Int} {w : World} (hr : Reads w .i64 A ls) (hn : ls.length ≤ 320) (ha : ls.all lenOk = true) (hm : mayOf (checkOf ls) = 0) :
    Calls Try.prog 15 #[.slice A ls.length cap] w fun e w' => ∃ g, e = .returned (.tuple #[.pointer (some ⟨g, 0, none⟩), .int .i64 0]) ∧ TrSt w.heap.size w' g ls ∧ Below w.heap.size w w' := by
  have H1 := Sealed.mk (codes_good (cap := cap) hr hn ha hm)
  have HR := Sealed.mk hr
  have HCo := Sealed.mk (cnt0_ok hn)
  have HA := Sealed.mk ha
  have HCL : Sealed ((codesOf ls).length = ls.length) := ⟨(codeSt_len _ _).2⟩
  clear hr hm ha
  go_enter Try.func15, Try.ntmps15
  go_wp2_with (first
    | (go_at_call 39; refine H1.out.mono ?_; rintro e w1 ⟨gc, rfl, hbc, hgc, hb⟩; have L1 := Sealed.mk hb; have HR1 := Sealed.mk (HR.out.below hb); have BC := Sealed.mk hbc; have GC := Sealed.mk hgc; clear hb hbc hgc)
    | (go_at_call 42; refine (counted_ok A cap ls _ HR1.out hn).mono ?_; rw [cntVal_ok HA.out]; rintro e w2 ⟨rfl, hb⟩; have L2 := Sealed.mk hb; clear hb)
    | ((with_reducible refine gate_dst (N := 6) rfl ?_); refine ev_box (cs := nums .i64 zeros16) (t := 66) ?hg ?hr ?_; (case hg => rfl); (case hr => first | (go_simp; done) | (go_simp; rfl)); intro g1 w3 hg1 hb1 hB1 hs1; have G1 := Sealed.mk hg1; have B1 := Sealed.mk hb1; have L3 := Sealed.mk hB1; clear hg1 hb1 hB1 hs1)
    | ((with_reducible refine gate_store (p := 6) rfl ?_); refine wp_store_arr rfl _ _ _ rfl (cells := nums .i64 (cnt0 ls)) rfl rfl B1.out (by rw [nums_length, HCo.out.1]; exact info_counts) (by rw [nums_length, nums_length, HCo.out.1]; rfl) (nums_all _ _) ?_; intro w4 hb3 hc3 hk3 hs3; have B4 := Sealed.mk hb3; have C4 := Sealed.mk hc3; clear hb3 hc3 hk3 hs3))
  have c4 : Chg w.heap.size [] w w4 := (((Chg.refl w.heap.size [] w).below_step L1.out).below_step L2.out).below_step L3.out |>.one_new C4.out (by rw [G1.out]; exact Nat.le_trans L1.out.size L2.out.size)
  have HR4 := Sealed.mk (HR.out.below c4.to_below)
  have BC4 : Sealed (IsBlk w4 gc (nums .i64 (codesOf ls)) 3) := ⟨((BC.out.below' L2.out).below' L3.out).chg C4.out (.inr (by decide))⟩
  have CC4 := Sealed.mk c4
  clear c4 L1 L2 L3 C4 B1 BC HR1 H1
  obtain ⟨x0, x1, x2, x3, x4, x5, x6, x7, x8, x9, x10, x11, x12, x13, x14, x15, h16⟩ := list16 (cnt0 ls) HCo.out.1
  have H16 := Sealed.mk h16
  have B4' := Sealed.mk (h16 ▸ B4.out)
  clear h16
  obtain ⟨k0, k1, k2, k3, k4, k5, k6, k7, k8, k9, k10, k11, k12, k13, k14, k15⟩ := cells16 B4'.out
  obtain ⟨q0, q1, q2, q3, q4, q5, q6, q7, q8, q9, q10, q11, q12, q13, q14, q15⟩ := cells16 (B4'.out.alloc (.cells #[] 3))
  have HOW : Sealed ((w4.alloc (.cells #[] 3)).drew.ownsRow w.heap.size 3 1 (.slice (some ⟨w4.heap.size, 0, none⟩) 0 0) 0 (nums .i64 [])) := ⟨(IsBlk.new w4 [] 3).drew.owns CC4.out.size (by decide)⟩
  have HRW : Sealed (Reads (w4.alloc (.cells #[] 3)).drew .i64 A ls) := ⟨(HR4.out.alloc _).drew⟩
  have HSW : Sealed (w.heap.size ≤ (w4.alloc (.cells #[] 3)).drew.heap.size) := ⟨by have := CC4.out.size; simp; omega⟩
  go_cut [8] (fun s8 wx => ∃ (g : Nat) (v0 v1 : Value), s8 = .pointer (some ⟨g, 0, none⟩) ∧ Sealed (IsBlk wx g (v0 :: v1 :: (nums .i64 (cnt0 ls) ++ [.slice none 0 0, .int .i64 0])) 70) ∧ Sealed (wx.ownsRow w.heap.size 3 1 v0 ls.length (nums .i64 ls)) ∧ Sealed (wx.ownsRow w.heap.size 3 1 v1 ls.length (nums .i64 (codesOf ls))) ∧ Sealed ((∀ k, v0.ownBlock = some k → k < g) ∧ (∀ k, v1.ownBlock = some k → k < g)) ∧ Sealed (Chg w.heap.size [] w wx) ∧ Sealed (w.heap.size ≤ g))
  case first =>
    go_region_law (first | (refine step_app_row (W := (w4.alloc (.cells #[] 3)).drew) w.heap.size rfl (.tmp 25) (.tmp 26) 22 3 .i64 8 rfl Try.underlying22 info_i64 (by decide) (.slice (some ⟨w4.heap.size, 0, none⟩) 0 0) 0 [] ls _ _ rfl rfl HOW.out HRW.out HSW.out (by omega) ?_; intro v6 w6 ho6 hg6; simp only [Nat.zero_add, List.nil_append] at ho6; obtain ⟨A6, c6, rfl⟩ := own_slice ho6; have O6 := Sealed.mk ho6; have L6 := Sealed.mk hg6; have B46 := Sealed.mk ((B4'.out.alloc (.cells #[] 3)).drew.grown hg6 ((B4'.out.alloc _).drew.own_ne HOW.out (by decide))); obtain ⟨m0, m1, m2, m3, m4, m5, m6, m7, m8, m9, m10, m11, m12, m13, m14, m15⟩ := cells16 B46.out; clear ho6 hg6))
    all_goals
      have hl6 := own_lt O6.out
      have hrow : ∀ k, (Value.slice (some ⟨w4.heap.size, 0, none⟩) 0 0).ownBlock = some k → w.heap.size ≤ k := by
        intro k hk
        have : w4.heap.size = k := by simpa [Value.ownBlock] using hk
        have := CC4.out.size
        omega
      have C6 : Sealed (Chg w.heap.size [] w w6) := ⟨((CC4.out.alloc _).drew).grown_new L6.out hrow⟩
      have GS : Sealed (gc < w6.heap.size) := ⟨Nat.lt_of_lt_of_le BC4.out.lt (by have := L6.out.size; simp at this; omega)⟩
      have BC6 : Sealed (IsBlk w6 gc (nums .i64 (codesOf ls)) 3) := ⟨(((BC4.out.alloc _).drew).grown L6.out (by
        have := BC4.out.lt
        simp [Value.ownBlock]; omega))⟩
      clear hrow L6 BC4 CC4 HR4 k0 k1 k2 k3 k4 k5 k6 k7 k8 k9 k10 k11 k12 k13 k14 k15 m0 m1 m2 m3 m4 m5 m6 m7 m8 m9 m10 m11 m12 m13 m14 m15 q0 q1 q2 q3 q4 q5 q6 q7 q8 q9 q10 q11 q12 q13 q14 q15 B4 B4' B46 HOW HRW HSW
      go_wp2_with fail
      go_meet
      refine ⟨w6.heap.size, .slice A6 ls.length c6, .slice (some ⟨gc, 0, none⟩) ls.length ls.length, rfl, ⟨?_⟩, ⟨owns_below O6.out ((Below.refl _ _).alloc (Nat.le_refl _) _)⟩, ⟨?_⟩, ⟨hl6, ?_⟩, ⟨C6.out.alloc _⟩, ⟨C6.out.size⟩⟩
      · rw [H16.out]
        exact IsBlk.new w6 [.slice A6 ls.length c6, .slice (some ⟨gc, 0, none⟩) ls.length ls.length, .int .i64 x0, .int .i64 x1, .int .i64 x2, .int .i64 x3, .int .i64 x4, .int .i64 x5, .int .i64 x6, .int .i64 x7, .int .i64 x8, .int .i64 x9, .int .i64 x10, .int .i64 x11, .int .i64 x12, .int .i64 x13, .int .i64 x14, .int .i64 x15, .slice none 0 0, .int .i64 0] _
      · have h := BC6.out.owns (B := w.heap.size) GC.out (by rw [nums_length, HCL.out]; omega)
        rw [nums_length, HCL.out] at h
        exact owns_below h ((Below.refl _ _).alloc (Nat.le_refl _) _)
      · intro k hk
        have : gc = k := by simpa [Value.ownBlock] using hk
        rw [← this]; exact GS.out
  case rest =>
    obtain ⟨G, v0, v1, rfl, HB, HO0, HO1, HLT, HC, HG⟩ := hcut
    clear HOW HRW HSW B4 B4' BC4 CC4 HR4 k0 k1 k2 k3 k4 k5 k6 k7 k8 k9 k10 k11 k12 k13 k14 k15 q0 q1 q2 q3 q4 q5 q6 q7 q8 q9 q10 q11 q12 q13 q14 q15 H16 G1 GC
    obtain ⟨cs, hcs⟩ : ∃ cs, cs = cnt0 ls := ⟨_, rfl⟩
    rw [← hcs] at HB
    have HCS := Sealed.mk hcs
    clear hcs
    go_wp2
    go_loopg [9] 15 (fun k n w' => ∃ (m : Nat) (N : Int), n = .int .i64 N ∧ Sealed (N = ((m + 1 : Nat) : Int)) ∧ 1 ≤ N ∧ N ≤ 16 ∧ Sealed (k = 15 - m) ∧ m ≤ 15 ∧ Sealed (TrIn G v0 v1 cs wc w' (symsUpto ls m) (longUpto ls m)))
    case atStart => exact ⟨0, 1, rfl, ⟨rfl⟩, by omega, by omega, ⟨rfl⟩, by omega, ⟨.slice none 0 0, HB.out, own_nil _ _ _ _, Chg.refl _ _ _, Nat.le_of_lt HB.out.lt⟩⟩
    case round =>
      obtain ⟨m, N, rfl, HNN, hN1, hN16, HK, hm, HT⟩ := hrel
      by_cases hlt : N ≤ 15
      · go_wp2
        go_loopg [38] ls.length (fun k i w' => ∃ n : Nat, i = .int .i64 n ∧ Sealed (k = ls.length - n) ∧ Sealed (n ≤ ls.length) ∧ Sealed (TrIn G v0 v1 cs wc w' (symsUpto ls m ++ idxPart ls ((m + 1 : Nat) : Int) n) (longPart ls m n)))
        case atStart => exact ⟨0, rfl, ⟨rfl⟩, ⟨Nat.zero_le _⟩, by simpa [idxPart, longPart] using HT⟩
        case round =>
          clear HT
          obtain ⟨n, rfl, HK2, HN, HT⟩ := hrel
          by_cases hlt2 : n < ls.length
          · obtain ⟨ad, rfl, hc0⟩ := HR.out.cell n hlt2
            obtain ⟨x, hx⟩ : ∃ x, x = ls.getD n 0 := ⟨_, rfl⟩
            rw [← hx] at hc0
            obtain ⟨v2, hb2, ho2, hcG, hsG⟩ := HT.out
            have hcw : Chg w.heap.size [70, 3] w wr := (HC.out.mono (Nat.le_refl _) (by simp)).trans (hcG.mono HG.out (fun _ h => h))
            have hc := cell_chg hc0 hcw (World.block_lt_of_cell? w _ hc0)
            have HX := Sealed.mk hx
            clear hx hc0 hcw
            have HCL16 : Sealed (cs.length = 16) := ⟨by rw [HCS.out]; exact HCo.out.1⟩
            have hsy1 := symsUpto_le ls m
            have hsy2 := idxPart_le ls ((m + 1 : Nat) : Int) n
            have hsy3 : (symsUpto ls m ++ idxPart ls ((m + 1 : Nat) : Int) n).length ≤ 10000 := by
              have : m * ls.length ≤ 15 * 320 := Nat.mul_le_mul hm hn
              rw [List.length_append]; omega
            obtain ⟨sy, hsy⟩ : ∃ sy, sy = symsUpto ls m ++ idxPart ls ((m + 1 : Nat) : Int) n := ⟨_, rfl⟩
            rw [← hsy] at ho2 hsy3
            have HSY := Sealed.mk hsy
            have hslot := own_slice ho2
            clear hsy1 hsy2 hsy
            by_cases he : x = ((m + 1 : Nat) : Int)
            · have hd : (x == N) = true := by rw [he, HNN.out]; simp
              obtain ⟨A2, c2, rfl⟩ := hslot
              have h18 := hb2.cell 18 (tl18 HCL16.out)
              have HB2 := Sealed.mk hb2
              have HO2 := Sealed.mk ho2
              have HCG := Sealed.mk hcG
              have HSG := Sealed.mk hsG
              have HE := Sealed.mk he
              clear hb2 ho2 hcG hsG he
              go_wp2_with ((with_reducible refine gate_dst (N := 53) rfl ?_); refine wp_app1 G rfl (.tmp 50) (.tmp 52) 22 3 (.int .i64 0) 8 rfl Try.underlying22 info_i64 rfl (by decide) _ sy.length _ _ rfl rfl rfl HO2.out HSG.out (by omega) ?_; intro v3 w3 ho3 hg3; obtain ⟨A3, c3, rfl⟩ := own_slice ho3; have HB3 := Sealed.mk (HB2.out.grown hg3 (HB2.out.own_ne HO2.out (by decide))); have k18 := HB3.out.cell 18 (tl18 HCL16.out); have f18 := HB3.out.free 18; have k19 := HB3.out.cell 19 (tl19 HCL16.out); have f19 := HB3.out.free 19; have HO3 := Sealed.mk ho3; have HG3 := Sealed.mk hg3; clear ho3 hg3)
              go_roundg (ls.length - (n + 1))
              case measure => have := HK2.out; omega
              case rel =>
                have hx : ls.getD n 0 = ((m + 1 : Nat) : Int) := by rw [← HX.out]; exact HE.out
                have hb := (HB3.out.set 18 (.slice A3 (sy.length + 1) c3)).set 19 (.int .i64 N)
                rw [tls18 HCL16.out, tls19 HCL16.out] at hb
                have hne : sy ++ [(n : Int)] = symsUpto ls m ++ idxPart ls ((m + 1 : Nat) : Int) (n + 1) := by rw [idxPart_yes hx, ← List.append_assoc, ← HSY.out]
                have hlp : longPart ls m (n + 1) = N := by
                  rw [HNN.out]; simp only [longPart, idxPart_yes hx]; simp
                refine ⟨n + 1, by go_num, ⟨rfl⟩, ⟨hlt2⟩, ⟨.slice A3 (sy.length + 1) c3, ?_, ?_, ?_, ?_⟩⟩
                · rw [hlp]; exact hb
                · rw [← hne]
                  have ho := owns_chg (T := [70]) HO3.out (((Chg.refl G [70] _).set HB3.out (Nat.le_refl _) (by simp) 18 (.slice A3 (sy.length + 1) c3)).set (HB3.out.set 18 _) (Nat.le_refl _) (by simp) 19 (.int .i64 N)) (by decide)
                  rw [← nums_snoc] at ho
                  simpa using ho
                · exact (((HCG.out.grown HO2.out (Nat.le_refl _) (by simp) HG3.out).set HB3.out (Nat.le_refl _) (by simp) 18 _).set (HB3.out.set 18 _) (Nat.le_refl _) (by simp) 19 _)
                · have := HSG.out; have := HG3.out.size; simp [World.setCell]; omega
            · have hd : (x == N) = false := by rw [HNN.out]; simpa using he
              have HE : Sealed (ls.getD n 0 ≠ ((m + 1 : Nat) : Int)) := ⟨by rw [← HX.out]; exact he⟩
              clear hslot hb2 ho2 hcG hsG he
              go_wp2
              go_roundg (ls.length - (n + 1))
              case measure => have := HK2.out; omega
              case rel =>
                refine ⟨n + 1, by go_num, ⟨rfl⟩, ⟨hlt2⟩, ?_⟩
                have e1 : longPart ls m (n + 1) = longPart ls m n := by simp only [longPart, idxPart_no HE.out]
                rw [idxPart_no HE.out, e1]
                exact HT
          · have hn' : n = ls.length := by have := HN.out; omega
            have HT2 : Sealed (TrIn G v0 v1 cs wc wr (symsUpto ls (m + 1)) (longUpto ls (m + 1))) := ⟨by have h := HT.out; rw [hn'] at h; exact h⟩
            have hn1 : decide (n < ls.length) = false := decide_eq_false hlt2
            clear hn' hlt2
            go_wp2
            go_roundg (15 - (m + 1))
            case measure => have := HK.out; have := HNN.out; omega
            case rel => exact ⟨m + 1, N + 1, by go_num, ⟨by rw [HNN.out]; omega⟩, by omega, by omega, ⟨rfl⟩, by have := HNN.out; omega, HT2⟩
      · have hm15 : m = 15 := by have := HNN.out; omega
        have HT2 := Sealed.mk (hm15 ▸ HT.out)
        clear hm15
        go_wp2
        go_ret2
        obtain ⟨v2, hb2, ho2, hcG, hsG⟩ := HT2.out
        refine ⟨G, rfl, ⟨HG.out, v0, v1, v2, ?_, ?_, ?_, ?_⟩, ?_⟩
        · rw [← HCS.out]; exact hb2
        · exact owns_lt HO0.out hcG HLT.out.1
        · exact owns_lt HO1.out hcG HLT.out.2
        · exact own_less ho2 HG.out
        · exact ((HC.out.mono (T' := [70, 3]) (Nat.le_refl _) (by simp)).trans (hcG.mono HG.out (fun _ h => h))).to_below
end Go.Proofs.Ytmdlhbhdlhjakaa
