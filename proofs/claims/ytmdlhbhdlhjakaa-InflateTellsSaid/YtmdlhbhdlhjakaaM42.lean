/- The contracts of the document's answer: Fixed of layer 10, Piece. The contract of package inflate's Inflate. -/
import Derived.Test.YtmdlhbhdlhjakaaM40
import Derived.Test.YtmdlhbhdlhjakaaM41
import Derived.Test.YtmdlhbhdlhjakaaM30
set_option linter.unusedVariables false
set_option linter.unusedSimpArgs false
namespace Go.Proofs.Ytmdlhbhdlhjakaa
open Go.RowKit

def litUpto (i : Nat) : List Int := (List.range i).map litF
theorem litUpto_succ (i : Nat) : litUpto (i + 1) = litUpto i ++ [litF i] := by simp [litUpto, List.range_succ]
theorem own_typed {w : World} {base n c : Nat} {e : TypeId} {size : Nat} {A : Option Addr} {xs : List Value} (h : w.ownsRow base e size (.slice A n c) n xs) : ∀ ad, A = some ad → Typed w ad.block e := fun ad he => by
  rcases h.2 with ⟨hv, _⟩ | ⟨g, cap, cur, hv, hb, hh, _⟩
  · injection hv with hv _ _; rw [hv] at he; cases he
  · injection hv with hv _ _
    rw [hv] at he
    injection he with he
    subst he
    exact ⟨_, _, hh⟩
theorem Typed.lt {w : World} {k : Nat} {t : TypeId} (h : Typed w k t) : k < w.heap.size := by obtain ⟨cs, fz, hh⟩ := h; exact lt_of_block hh
theorem Typed.low {w w' : World} {k B : Nat} {t : TypeId} {T : List TypeId} (h : Typed w k t) (hc : Chg B T w w') (hk : k < B) : Typed w' k t := by
  obtain ⟨cs, fz, hh⟩ := h; exact ⟨cs, fz, (hc.block k (lt_of_block hh) (.inl hk)).trans hh⟩
def TwoRows (w : World) (e : Ending) (w' : World) : Prop := ∃ A1 c1 A2 c2, e = .returned (.tuple #[.slice A1 288 c1, .slice A2 32 c2]) ∧ Reads w' .i64 A1 litL ∧ Reads w' .i64 A2 distL ∧ Below w.heap.size w w' ∧ (∀ ad, A1 = some ad → Typed w' ad.block 3) ∧ (∀ ad, A2 = some ad → Typed w' ad.block 3)
set_option maxRecDepth 100000 in
set_option maxHeartbeats 1000000 in
theorem rfixed10 (w : World) : Calls Try.prog 52 #[] w (TwoRows w) := by
  go_enter Try.func52, Try.ntmps52
  go_wp2_with ((with_reducible refine gate_dst (N := 7) rfl ?_); refine ev_lit (cs := []) (t := 3) (n := 0) ?hg ?hr ?_; (case hg => rfl); (case hr => first | (go_simp; done) | (go_simp; rfl)); intro g1 w2 hg1 hb1 hB1 hs1; have G1 := Sealed.mk hg1; have HO2 : Sealed (w2.ownsRow w.heap.size 3 1 (.slice (some ⟨g1, 0, none⟩) 0 0) 0 (nums .i64 (litUpto 0))) := ⟨hb1.owns (by rw [G1.out]; exact Nat.le_refl _) (by decide)⟩; have HC2 : Sealed (Chg w.heap.size [3] w w2) := ⟨Chg.of_below hB1⟩; clear hg1 hb1 hB1 hs1)
  go_loopg [2, 3, 4] 288 (fun k s2 s3 s4 w' => ∃ i : Nat, s3 = .int .i64 i ∧ i ≤ 288 ∧ Sealed (k = 288 - i) ∧ Sealed (w'.ownsRow w.heap.size 3 1 s2 i (nums .i64 (litUpto i))) ∧ Sealed (Chg w.heap.size [3] w w'))
  case atStart => exact ⟨0, rfl, by omega, ⟨rfl⟩, HO2, HC2⟩
  case round =>
    clear HO2 HC2
    obtain ⟨i, rfl, hi, HK, HO, HC⟩ := hrel
    by_cases hlt : i < 288
    · have HS : Sealed (w.heap.size ≤ wr.heap.size) := ⟨HC.out.size⟩
      have HEND : Sealed (∀ (v4 : Value) (w4 : World), w4.ownsRow w.heap.size 3 1 v4 (i + 1) (nums .i64 (litUpto i) ++ [.int .i64 (litF i)]) → wr.grownBy w4 (Value.ownBlock u2) → w4.ownsRow w.heap.size 3 1 v4 (i + 1) (nums .i64 (litUpto (i + 1))) ∧ Chg w.heap.size [3] w w4) := ⟨fun v4 w4 ho hg => ⟨by rw [litUpto_succ, nums_snoc]; exact ho, HC.out.grown HO.out (Nat.le_refl _) (by simp) hg⟩⟩
      have hcase : i < 144 ∧ litF i = 8 ∨ (¬ i < 144 ∧ i < 256) ∧ litF i = 9 ∨ (¬ i < 256 ∧ i < 280) ∧ litF i = 7 ∨ ¬ i < 280 ∧ litF i = 8 := by unfold litF; repeat' (first | omega | split)
      rcases hcase with ⟨h1, he⟩ | ⟨⟨h1, h2⟩, he⟩ | ⟨⟨h1, h2⟩, he⟩ | ⟨h1, he⟩
      all_goals
        rw [he] at HEND
        clear he
        go_wp2_with ((with_reducible refine gate_dst (N := 27) rfl ?_); refine wp_app1 w.heap.size rfl (.tmp 24) (.tmp 26) 22 3 (.int .i64 0) 8 rfl Try.underlying22 info_i64 rfl (by decide) _ i _ _ rfl rfl rfl HO.out HS.out (by omega) ?_; intro v4 w4 ho4 hg4; have H4 := Sealed.mk (HEND.out _ _ ho4 hg4); clear ho4 hg4)
        go_roundg (288 - (i + 1))
        case measure => have := HK.out; omega
        case rel => exact ⟨i + 1, by go_num, hlt, ⟨rfl⟩, ⟨H4.out.1⟩, ⟨H4.out.2⟩⟩
    · obtain rfl : i = 288 := by omega
      have HL : Sealed (wr.ownsRow w.heap.size 3 1 u2 288 (nums .i64 litL)) := ⟨HO.out⟩
      obtain ⟨A1, c1, hv1⟩ := own_slice HL.out
      subst hv1
      have HR1 := Sealed.mk (own_reads HL.out)
      have HY1 := Sealed.mk (own_typed HL.out)
      clear HO HK hi
      go_wp2_with ((with_reducible refine gate_dst (N := 28) rfl ?_); refine ev_lit (cs := []) (t := 3) (n := 0) ?hg ?hr ?_; (case hg => rfl); (case hr => first | (go_simp; done) | (go_simp; rfl)); intro g3 w3 hg3 hb3 hB3 hs3; have G3 := Sealed.mk hg3; have HO3 : Sealed (w3.ownsRow wr.heap.size 3 1 (.slice (some ⟨g3, 0, none⟩) 0 0) 0 (nums .i64 (List.replicate 0 5))) := ⟨hb3.owns (by rw [G3.out]; exact Nat.le_refl _) (by decide)⟩; have HC3 : Sealed (Chg wr.heap.size [3] wr w3) := ⟨Chg.of_below hB3⟩; clear hg3 hb3 hB3 hs3)
      obtain ⟨wo, hwo⟩ : ∃ wo : World, wo = wr := ⟨_, rfl⟩
      rw [← hwo] at HR1 HY1 HC HO3 HC3 HL
      clear hwo
      go_loopg [5, 6] 32 (fun k s5 s6 w' => ∃ i : Nat, s6 = .int .i64 i ∧ i ≤ 32 ∧ Sealed (k = 32 - i) ∧ Sealed (w'.ownsRow wo.heap.size 3 1 s5 i (nums .i64 (List.replicate i 5))) ∧ Sealed (Chg wo.heap.size [3] wo w'))
      case atStart => exact ⟨0, rfl, by omega, ⟨rfl⟩, HO3, HC3⟩
      case round =>
        clear HO3 HC3
        obtain ⟨i, rfl, hi, HK, HO, HC3⟩ := hrel
        by_cases hlt2 : i < 32
        · have HS : Sealed (wo.heap.size ≤ wr.heap.size) := ⟨HC3.out.size⟩
          go_wp2_with ((with_reducible refine gate_dst (N := 35) rfl ?_); refine wp_app1 wo.heap.size rfl (.tmp 33) (.tmp 34) 22 3 (.int .i64 0) 8 rfl Try.underlying22 info_i64 rfl (by decide) _ i _ _ rfl rfl rfl HO.out HS.out (by omega) ?_; intro v4 w4 ho4 hg4; have H4 := Sealed.mk ho4; have HG4 := Sealed.mk hg4; clear ho4 hg4)
          go_roundg (32 - (i + 1))
          case measure => have := HK.out; omega
          case rel => exact ⟨i + 1, by go_num, hlt2, ⟨rfl⟩, ⟨by rw [List.replicate_succ', nums_snoc]; exact H4.out⟩, ⟨HC3.out.grown HO.out (Nat.le_refl _) (by simp) HG4.out⟩⟩
        · obtain rfl : i = 32 := by omega
          have HL2 : Sealed (wr.ownsRow wo.heap.size 3 1 u5 32 (nums .i64 distL)) := ⟨HO.out⟩
          obtain ⟨A2, c2, hv2⟩ := own_slice HL2.out
          subst hv2
          clear HO HK
          go_wp2
          go_ret2
          exact ⟨A1, c1, A2, c2, rfl, HR1.out.chg HC3.out (Nat.le_refl _), own_reads HL2.out, (HC.out.trans (HC3.out.mono HC.out.size (fun _ h => h))).to_below, fun ad he => (HY1.out ad he).low HC3.out (HY1.out ad he).lt, own_typed HL2.out⟩

/-! ### Piece -/
def pieceR (s : ByteArray) (q : Nat) : Nat → Nat → Nat → Nat × Nat
  | 0, n, b => (n, b)
  | j + 1, n, b => if q - j ≤ 32768 then (if n < alikeOf s j q then pieceR s q j (alikeOf s j q) (q - j) else pieceR s q j n b) else (n, b)
theorem pieceR_K {s : ByteArray} {q : Nat} : ∀ (j n b n' b' : Nat), (n < 3 ∧ n' = 0 ∧ b' = 0 ∨ 3 ≤ n ∧ n' = n ∧ b' = b) →
    ((pieceR s q j n b).1 < 3 ∧ (pieceK s q j n' b').1 = 0 ∧ (pieceK s q j n' b').2 = 0 ∨ 3 ≤ (pieceR s q j n b).1 ∧ pieceK s q j n' b' = pieceR s q j n b)
  | 0, n, b, n', b', h => by
    rcases h with ⟨h1, rfl, rfl⟩ | ⟨h1, rfl, rfl⟩
    · exact .inl ⟨h1, rfl, rfl⟩
    · exact .inr ⟨h1, rfl⟩
  | j + 1, n, b, n', b', h => by
    rw [pieceR, pieceK]
    split
    · by_cases c : n < alikeOf s j q
      · rw [if_pos c]
        by_cases c3 : 3 ≤ alikeOf s j q
        · rw [if_pos ⟨c3, by omega⟩]
          exact pieceR_K j _ _ _ _ (.inr ⟨c3, rfl, rfl⟩)
        · rw [if_neg (fun h => c3 h.1)]
          exact pieceR_K j _ _ _ _ (.inl (by omega))
      · rw [if_neg c]
        rcases h with ⟨h1, rfl, rfl⟩ | ⟨h1, rfl, rfl⟩
        · rw [if_neg (by omega)]
          exact pieceR_K j _ _ _ _ (.inl ⟨h1, rfl, rfl⟩)
        · rw [if_neg (by omega)]
          exact pieceR_K j _ _ _ _ (.inr ⟨h1, rfl, rfl⟩)
    · rcases h with ⟨h1, rfl, rfl⟩ | ⟨h1, rfl, rfl⟩
      · exact .inl ⟨h1, rfl, rfl⟩
      · exact .inr ⟨h1, rfl⟩
theorem alike_short {s : ByteArray} {j q : Nat} (h : s.size < q + 3) : alikeOf s j q < 3 := by
  rcases Nat.lt_or_ge (alikeOf s j q) 3 with h1 | h1
  · exact h1
  · have := (alikeOf_eq (s := s) (j := j) (q := q) (i := 2) (by omega)).1; omega
theorem pieceR_find (s : ByteArray) (q : Nat) : (pieceR s q q 0 0).1 < 3 ∧ (findOf s q).1 < 3 ∨ 3 ≤ (pieceR s q q 0 0).1 ∧ findOf s q = pieceR s q q 0 0 := by
  have h := pieceR_K (s := s) (q := q) q 0 0 0 0 (.inl ⟨by omega, rfl, rfl⟩)
  unfold findOf
  by_cases c : q + 3 ≤ s.size
  · rw [if_pos c]
    rcases h with ⟨h1, h2, _⟩ | h
    · exact .inl ⟨h1, by omega⟩
    · exact .inr h
  · rw [if_neg c]
    have e : pieceK s q q 0 0 = (0, 0) := pieceK_skip (p := 0) (Nat.zero_le _) (fun i _ _ => alike_short (by omega)) 0 0
    rcases h with ⟨h1, _⟩ | ⟨h1, h2⟩
    · exact .inl ⟨h1, by decide⟩
    · rw [e] at h2; rw [← h2] at h1; simp at h1

set_option maxRecDepth 100000 in
set_option maxHeartbeats 1000000 in
theorem piece_any (s : ByteArray) (q : Nat) (hq : q ≤ s.size) (hs : s.size ≤ 1000000000) (w : World) :
    Calls Try.prog 54 #[.string s, .int .i64 q] w fun e w' => e = .returned (.tuple #[.int .i64 (pieceR s q q 0 0).1, .int .i64 (pieceR s q q 0 0).2]) ∧ ∃ m, w' = w.drewN m := by
  obtain ⟨R, hR⟩ : ∃ R, R = pieceR s q q 0 0 := ⟨_, rfl⟩
  rw [← hR]
  have HR := Sealed.mk hR
  clear hR
  have hqb : q ≤ 1000000000 := by omega
  go_enter Try.func54, Try.ntmps54
  go_wp2
  go_loopg [6, 7, 8, 9] q (fun k s6 s7 s8 s9 w' => ∃ (i n b m : Nat) (J : Int), s6 = .int .i64 n ∧ s7 = .int .i64 b ∧ s8 = .int .i64 J ∧ Sealed (J = (i : Int) - 1) ∧ -1 ≤ J ∧ J < (q : Int) ∧ Sealed (k = i) ∧ Sealed (pieceR s q i n b = R) ∧ w' = w.drewN m)
  case atStart => exact ⟨q, 0, 0, 0, (q : Int) - 1, rfl, rfl, rfl, ⟨rfl⟩, by omega, by omega, ⟨rfl⟩, ⟨HR.out.symm⟩, rfl⟩
  case round =>
    obtain ⟨i, n, b, m, J, rfl, rfl, rfl, HJ, hJ0, hJ1, HK, HE, rfl⟩ := hrel
    by_cases hj : 0 ≤ J
    · obtain ⟨i, rfl⟩ : ∃ i', i = i' + 1 := ⟨i - 1, by have := HJ.out; omega⟩
      obtain rfl : J = (i : Int) := by have := HJ.out; omega
      have hiq : i < q := by omega
      have he := HE.out
      rw [pieceR] at he
      clear HJ hJ0 hj
      by_cases hf : q - i ≤ 32768
      · have hf' : decide ((q : Int) - (i : Int) ≤ 32768) = true := decide_eq_true (by omega)
        rw [if_pos hf] at he
        obtain ⟨a, ha⟩ : ∃ a, a = alikeOf s i q := ⟨_, rfl⟩
        rw [← ha] at he
        have HA := Sealed.mk ha
        have HE2 := Sealed.mk he
        have hale : a ≤ 258 := by rw [ha]; exact alikeOf_le s i q
        clear ha he hf
        obtain ⟨wo, hwo⟩ : ∃ wo : World, wo = w.drewN m := ⟨_, rfl⟩
        have HWO := Sealed.mk hwo
        rw [← hwo]
        clear hwo
        go_wp2
        go_loopg [9] 258 (fun k s9 w' => ∃ x mm : Nat, s9 = .int .i64 x ∧ Sealed (x + k = 258) ∧ x ≤ 258 ∧ Sealed (alikeFrom s i q k x = a) ∧ w' = wo.drewN mm)
        case atStart => exact ⟨0, 0, rfl, ⟨rfl⟩, by omega, ⟨HA.out.symm⟩, rfl⟩
        case round =>
          obtain ⟨x, mm, rfl, HKX, hx, HAX, rfl⟩ := hrel
          have ew : IntKind.i64.wrap ((q : Int) + (x : Int)) = (q : Int) + (x : Int) := by rw [IntKind.wrap_i64]; omega
          have ew2 : IntKind.i64.wrap ((i : Int) + (x : Int)) = (i : Int) + (x : Int) := by rw [IntKind.wrap_i64]; omega
          have HEND : ∀ y : Nat, y = a → Sealed (y = a) := fun y h => ⟨h⟩
          by_cases h1 : x < 258
          · obtain ⟨k, rfl⟩ : ∃ k, gk = k + 1 := ⟨gk - 1, by have := HKX.out; omega⟩
            have hd1 : decide ((x : Int) < 258) = true := decide_eq_true (by omega)
            by_cases h2 : q + x < s.size
            · have hb0 := byteAt_get s (q + x) h2
              have hb1 := byteAt_get s (i + x) (by omega)
              have hi2 : (q : Int) + (x : Int) < (s.size : Int) := by omega
              have hd2 : decide ((q : Int) + (x : Int) < (s.size : Int)) = true := decide_eq_true hi2
              have hi3 : (i : Int) + (x : Int) < (s.size : Int) := by omega
              have hx0 : 0 ≤ (q : Int) + (x : Int) := by omega
              have hx1 : 0 ≤ (i : Int) + (x : Int) := by omega
              have et0 : ((q : Int) + (x : Int)).toNat = q + x := by omega
              have et1 : ((i : Int) + (x : Int)).toNat = i + x := by omega
              obtain ⟨b0, hb0e⟩ : ∃ b, b = byteAt s (q + x) := ⟨_, rfl⟩
              obtain ⟨b1, hb1e⟩ : ∃ b, b = byteAt s (i + x) := ⟨_, rfl⟩
              rw [← hb0e] at hb0
              rw [← hb1e] at hb1
              have H0 := Sealed.mk hb0e
              have H1 := Sealed.mk hb1e
              clear hb0e hb1e HEND
              have hax := HAX.out
              rw [alikeFrom, ← H0.out, ← H1.out] at hax
              by_cases h4 : b0 = b1
              · have hd4 : ((b0 : Int) == (b1 : Int)) = true := by subst h4; simp
                rw [if_pos ⟨h2, h4⟩] at hax
                have HV := Sealed.mk hax
                clear hax h4 HAX
                go_wp2
                go_quiet (fail)
                go_wp2
                go_roundg k
                case measure => omega
                case rel => exact ⟨x + 1, mm + _, by go_num, ⟨by have := HKX.out; omega⟩, by omega, HV, rfl⟩
              · have hd4 : ((b0 : Int) == (b1 : Int)) = false := by simp; omega
                rw [if_neg (fun h => h4 h.2)] at hax
                have HV : Sealed (x = a) := ⟨hax⟩
                clear hax h4 HAX
                obtain rfl := HV.out
                by_cases hc : n < x
                · have hc' : decide (n < x) = true := decide_eq_true hc
                  have he := HE2.out
                  rw [if_pos hc] at he
                  have HE3 := Sealed.mk he
                  clear he hc
                  go_wp2
                  go_quiet (fail)
                  go_wp2
                  go_roundg i
                  case measure => have := HK.out; omega
                  case rel => exact ⟨i, x, q - i, m + (mm + _), (i : Int) - 1, rfl, by go_num, rfl, ⟨rfl⟩, by omega, by omega, ⟨rfl⟩, HE3, by rw [HWO.out]; exact drewN_add _ _ _⟩
                · have hc' : decide (n < x) = false := decide_eq_false hc
                  have he := HE2.out
                  rw [if_neg hc] at he
                  have HE3 := Sealed.mk he
                  clear he hc
                  go_wp2
                  go_quiet (fail)
                  go_wp2
                  go_roundg i
                  case measure => have := HK.out; omega
                  case rel => exact ⟨i, n, b, m + (mm + _), (i : Int) - 1, rfl, rfl, rfl, ⟨rfl⟩, by omega, by omega, ⟨rfl⟩, HE3, by rw [HWO.out]; exact drewN_add _ _ _⟩
            · have hd2 : decide ((q : Int) + (x : Int) < (s.size : Int)) = false := decide_eq_false (by omega)
              have hax := HAX.out
              rw [alikeFrom, if_neg (by omega)] at hax
              have HV : Sealed (x = a) := ⟨hax⟩
              clear hax h2 HAX HEND
              obtain rfl := HV.out
              by_cases hc : n < x
              · have hc' : decide (n < x) = true := decide_eq_true hc
                have he := HE2.out
                rw [if_pos hc] at he
                have HE3 := Sealed.mk he
                clear he hc
                go_wp2
                go_quiet (fail)
                go_wp2
                go_roundg i
                case measure => have := HK.out; omega
                case rel => exact ⟨i, x, q - i, m + (mm + _), (i : Int) - 1, rfl, by go_num, rfl, ⟨rfl⟩, by omega, by omega, ⟨rfl⟩, HE3, by rw [HWO.out]; exact drewN_add _ _ _⟩
              · have hc' : decide (n < x) = false := decide_eq_false hc
                have he := HE2.out
                rw [if_neg hc] at he
                have HE3 := Sealed.mk he
                clear he hc
                go_wp2
                go_quiet (fail)
                go_wp2
                go_roundg i
                case measure => have := HK.out; omega
                case rel => exact ⟨i, n, b, m + (mm + _), (i : Int) - 1, rfl, rfl, rfl, ⟨rfl⟩, by omega, by omega, ⟨rfl⟩, HE3, by rw [HWO.out]; exact drewN_add _ _ _⟩
          · have hd1 : decide ((x : Int) < 258) = false := decide_eq_false (by omega)
            obtain rfl : gk = 0 := by have := HKX.out; omega
            have HV : Sealed (x = a) := ⟨HAX.out⟩
            clear h1 HAX HEND
            obtain rfl := HV.out
            by_cases hc : n < x
            · have hc' : decide (n < x) = true := decide_eq_true hc
              have he := HE2.out
              rw [if_pos hc] at he
              have HE3 := Sealed.mk he
              clear he hc
              go_wp2
              go_quiet (fail)
              go_wp2
              go_roundg i
              case measure => have := HK.out; omega
              case rel => exact ⟨i, x, q - i, m + (mm + _), (i : Int) - 1, rfl, by go_num, rfl, ⟨rfl⟩, by omega, by omega, ⟨rfl⟩, HE3, by rw [HWO.out]; exact drewN_add _ _ _⟩
            · have hc' : decide (n < x) = false := decide_eq_false hc
              have he := HE2.out
              rw [if_neg hc] at he
              have HE3 := Sealed.mk he
              clear he hc
              go_wp2
              go_quiet (fail)
              go_wp2
              go_roundg i
              case measure => have := HK.out; omega
              case rel => exact ⟨i, n, b, m + (mm + _), (i : Int) - 1, rfl, rfl, rfl, ⟨rfl⟩, by omega, by omega, ⟨rfl⟩, HE3, by rw [HWO.out]; exact drewN_add _ _ _⟩
      · have hf' : decide ((q : Int) - (i : Int) ≤ 32768) = false := decide_eq_false (by omega)
        rw [if_neg hf] at he
        have HE2 : Sealed (R = (n, b)) := ⟨he.symm⟩
        clear he hf
        go_wp2
        go_ret2
        rw [HE2.out]
        exact ⟨rfl, _, rfl⟩
    · have hj' : decide (0 ≤ J) = false := decide_eq_false hj
      have HE2 : Sealed (R = (n, b)) := ⟨by
        have he := HE.out
        rw [show i = 0 by have := HJ.out; omega] at he
        exact he.symm⟩
      clear hj
      go_wp2
      go_ret2
      rw [HE2.out]
      exact ⟨rfl, _, rfl⟩
end Go.Proofs.Ytmdlhbhdlhjakaa

namespace Go.Proofs.Ytmdlhbhdlhjakaa
open Go.RowKit

def inflEnd : Except Nat (List Nat × Nat) → Ending
  | .error e => .returned (.tuple #[.string ⟨#[]⟩, .int .i64 0, .int .i64 e])
  | .ok (o, n) => .returned (.tuple #[.string (strOfNums (castL o)), .int .i64 n, .int .i64 0])
theorem ret_infl {a a' : ByteArray} {b b' c c' : Int} (h1 : a = a') (h2 : b = b') (h3 : c = c') : Ending.returned (Value.tuple #[.string a, .int .i64 b, .int .i64 c]) = Ending.returned (Value.tuple #[.string a', .int .i64 b', .int .i64 c']) := by subst h1 h2 h3; rfl
theorem kindS_len {s : ByteArray} {most p last p1 kind p2 q : Nat} {o o' : List Nat} {l : Bool} (ho : o.length ≤ most) (h : stepS s most p o = .ok (l, o', q)) : o'.length ≤ most ∧ p < q := by
  unfold stepS at h
  cases h1 : getS s p 1 with
  | error e1 => rw [h1] at h; cases h
  | ok r =>
    obtain ⟨last, p1⟩ := r
    rw [h1] at h
    simp only at h
    cases h2 : getS s p1 2 with
    | error e1 => rw [h2] at h; cases h
    | ok r =>
      obtain ⟨kind, p2⟩ := r
      rw [h2] at h
      simp only at h
      cases h3 : kindS s most kind p2 o with
      | error e1 => rw [h3] at h; cases h
      | ok r =>
        obtain ⟨o1, q1⟩ := r
        rw [h3] at h
        simp at h
        obtain ⟨_, rfl, rfl⟩ := h
        have a1 := getS_ok h1
        have a2 := getS_ok h2
        have a3 := kindS_pos h3
        exact ⟨a3.2.2.2 ho, by omega⟩
theorem inflate_neg (s : ByteArray) (most : Int) (hm : most < 0) (w : World) :
    Calls Try.prog 33 #[.string s, .int .i64 most] w fun e w' => e = inflEnd (.error 2) ∧ Below w.heap.size w w' := by
  have hd : decide (most < 0) = true := decide_eq_true hm
  go_enter Try.func33, Try.ntmps33
  go_wp2
  go_ret3
  exact ⟨rfl, Below.refl _ _⟩
set_option maxRecDepth 100000 in
set_option maxHeartbeats 2000000 in
theorem inflate_any (s : ByteArray) (most : Nat) (hs : s.size ≤ 1000000000) (hm : most ≤ 100000000) (w : World) :
    Calls Try.prog 33 #[.string s, .int .i64 most] w fun e w' => e = inflEnd (inflateS s most) ∧ Below w.heap.size w w' := by
  obtain ⟨R, hR⟩ : ∃ R, R = inflateS s most := ⟨_, rfl⟩
  rw [← hR]
  have HR := Sealed.mk hR
  have HS : Sealed (s.size ≤ 140737488355328) := ⟨by omega⟩
  clear hR
  have hmi : decide ((most : Int) < 0) = false := decide_eq_false (by omega)
  go_enter Try.func33, Try.ntmps33
  go_wp2_with fail
  refine (newReader_any s w).mono ?_
  rintro e w1 ⟨rfl, hr, hb, hl⟩
  have R1 := Sealed.mk hr
  have B1 := Sealed.mk hb
  have L1 := Sealed.mk hl
  clear hr hb hl
  go_wp2_with ((with_reducible refine gate_dst (N := 16) rfl ?_); refine ev_box (cs := [.pointer (some ⟨w.heap.size, 0, none⟩), .slice none 0 0, .int .i64 most]) (t := 97) ?hg ?hr ?_; (case hg => rfl); (case hr => first | (go_simp; done) | (go_simp; rfl)); intro gx w2 hg2 hb2 hB2 hs2; have G2 := Sealed.mk hg2; have X2 := Sealed.mk hb2; have L2 := Sealed.mk hB2; clear hg2 hb2 hB2 hs2)
  have H2 : Sealed (InfSt w.heap.size w2 gx w.heap.size s most 0 []) := ⟨⟨by rw [G2.out]; exact B1.out.size, Nat.le_refl _, Nat.le_trans B1.out.size L2.out.size, ⟨_, X2.out, own_nil _ _ _ _⟩, R1.out.chg (T := []) (Chg.of_below (B := 0) L2.out) (.inr (by simp)), by simp⟩⟩
  have C2 : Sealed (InfChg w.heap.size w w2) := ⟨(Chg.of_below B1.out).below_step L2.out⟩
  generalize hB : w.heap.size = B at *
  have HB := Sealed.mk hB
  clear hB
  clear G2 X2 L2 R1 B1 L1 hmi
  go_loopg [8, 9] (8 * s.size + 1) (fun k s8 s9 w' => ∃ (p : Nat) (o : List Nat), Sealed (InfSt B w' gx B s most p o) ∧ Sealed (o.length ≤ most) ∧ Sealed (inflS s most k p o = R) ∧ Sealed (8 * s.size < p + k) ∧ Sealed (InfChg B w w'))
  case atStart => exact ⟨0, [], H2, ⟨by simp⟩, ⟨HR.out.symm⟩, ⟨by omega⟩, C2⟩
  case round =>
    clear H2 C2 HR
    obtain ⟨p, o, H, HO, HE, HK, HC⟩ := hrel
    obtain ⟨k, rfl⟩ : ∃ k, gk = k + 1 := ⟨gk - 1, by have := HK.out; have := H.out.rd.le; omega⟩
    go_wp2_with fail
    refine (iblock_ok H.out hs hm HO.out).mono ?_
    rintro e w3 hp
    have HP := Sealed.mk hp
    have he := HE.out
    rw [inflS_succ] at he
    clear hp H HE
    cases hst : stepS s most p o with
    | error er =>
      rw [hst] at HP he
      obtain ⟨hc, ⟨b, rfl⟩, h1⟩ := HP.out
      have HRE := Sealed.mk he
      have C3 : Sealed (InfChg B w w3) := ⟨HC.out.trans hc⟩
      have hne : ((er : Int) != 0) = true := by simp; omega
      clear hst HP he hc HC
      go_wp2
      go_ret3
      rw [← HRE.out]
      exact ⟨rfl, (HB.out ▸ C3.out : InfChg w.heap.size w w3).to_below⟩
    | ok r =>
      obtain ⟨l, o', q⟩ := r
      have hln := kindS_len HO.out hst (last := 0) (p1 := 0) (kind := 0) (p2 := 0)
      rw [hst] at HP he
      obtain ⟨hc, rfl, hi⟩ := HP.out
      have H3 := Sealed.mk hi
      have C3 : Sealed (InfChg B w w3) := ⟨HC.out.trans hc⟩
      have HO3 := Sealed.mk hln.1
      have HPQ := Sealed.mk hln.2
      clear hst HP hc HC hi hln HO
      cases l with
      | false =>
        have HE3 : Sealed (inflS s most k q o' = R) := ⟨by simpa using he⟩
        clear he
        go_wp2
        go_roundg k
        case measure => omega
        case rel => exact ⟨q, o', H3, HO3, HE3, ⟨by have := HPQ.out; have := HK.out; omega⟩, C3⟩
      | true =>
        have HE3 : Sealed (R = .ok (o', (q + 7) / 8)) := ⟨by simpa using he.symm⟩
        clear he
        obtain ⟨A, c, hb, ho⟩ := H3.out.parts
        have c0 := hb.cell 0 rfl
        have c1 := hb.cell 1 rfl
        have hcv := fun n => run_own_string (P := Try.prog) (src := 41) (dst := 9) Try.underlying41 Try.underlying5 Try.underlying9 (owns_chg ho ((Chg.refl 0 [] w3).drewN n) (by simp))
        have HAT : Sealed (∀ n, Calls Try.prog 21 #[.pointer (some ⟨B, 0, none⟩)] (w3.drewN n) fun e w' => e = .returned (.int .i64 q) ∧ ∃ m, w' = (w3.drewN n).drewN m) := ⟨fun n => at_any (H3.out.drewN n).rd HS.out⟩
        have hq : q ≤ 8000000000 := by have := H3.out.rd.le; omega
        have ew : IntKind.i64.wrap ((q : Int) + 7) = (q : Int) + 7 := by rw [IntKind.wrap_i64]; omega
        have eq8 : Int.tdiv ((q : Int) + 7) 8 = (((q + 7) / 8 : Nat) : Int) := by rw [Int.tdiv_eq_ediv_of_nonneg (by omega)]; omega
        have ew2 : IntKind.i64.wrap ((((q + 7) / 8 : Nat) : Int)) = (((q + 7) / 8 : Nat) : Int) := by rw [IntKind.wrap_i64]; omega
        clear hb ho
        go_wp2
        go_quiet ((go_at_call 21; exact Calls.quiet_of (HAT.out _)))
        go_wp2
        go_ret3
        rw [HE3.out]
        exact ⟨ret_infl rfl (by omega) rfl, (HB.out ▸ (C3.out.drewN _) : InfChg w.heap.size w _).to_below⟩
end Go.Proofs.Ytmdlhbhdlhjakaa
