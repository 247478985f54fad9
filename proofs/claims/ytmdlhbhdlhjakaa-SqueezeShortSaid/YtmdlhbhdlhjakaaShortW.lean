/- The walk of the statement SqueezeShort. -/
import Derived.Test.YtmdlhbhdlhjakaaShortP
import Derived.Test.YtmdlhbhdlhjakaaStoreR
set_option linter.unusedVariables false
set_option linter.unusedSimpArgs false
namespace Go.Proofs.Ytmdlhbhdlhjakaa
open Go.RowKit

theorem byte_of {a : Int} (h : (Lit.int .u8 a).wf = true) : ∃ c : Nat, a = (c : Int) ∧ c < 256 := by
  simp [Lit.wf, IntKind.min, IntKind.max, IntKind.signed, IntKind.bits] at h
  exact ⟨a.toNat, by omega, by omega⟩
theorem repl_snoc (m c : Nat) : castL (List.replicate (m + 1) c) = castL (List.replicate m c) ++ [(c : Int)] := by
  rw [List.replicate_succ', castL_append]; rfl
set_option maxRecDepth 100000 in
set_option maxHeartbeats 1000000 in
theorem short_walk (s : ByteArray) (c n : Nat) (hc : c < 256) (hn : n < 256) (w : World) : Calls Try.prog 7 #[.string s, .int .u8 c, .int .u8 n] w fun e w' => e = .returned (.bool true) ∧ Below w.heap.size w w' := by
  by_cases h : 70000 < s.size
  · have h' : decide (70000 < s.size) = true := decide_eq_true h
    go_enter Try.func7, Try.ntmps7
    go_wp2_with fail
    refine (squeezed_any _).mono ?_
    rintro e w1 ⟨rfl, hb⟩
    have B1 := Sealed.mk hb
    clear hb
    go_wp2
    go_ret
    exact ⟨rfl, B1.out⟩
  · have h' : decide (70000 < s.size) = false := decide_eq_false h
    have h0 : ¬ (70000 : Int) < (s.size : Int) := by omega
    have hsz : s.size ≤ 70000 := by omega
    have H1 : Sealed (∀ w, Calls Try.prog 30 #[.string s] w fun e w' => e = .returned (.string (bestB s)) ∧ Below w.heap.size w w') := ⟨fun w => best_any s w (by omega)⟩
    have hle := bestB_le s
    unfold blocksOf at hle
    generalize bestB s = a at *
    go_enter Try.func7, Try.ntmps7
    go_wp2_with ((with_reducible refine gate_dst (N := 14) rfl ?_); refine ev_lit (cs := []) (t := 5) (n := 0) ?hg ?hr ?_; (case hg => rfl); (case hr => first | (go_simp; done) | (go_simp; rfl)); intro g1 w2 hg1 hb1 hB1 hs1; have G1 := Sealed.mk hg1; have B1 := Sealed.mk hb1; have L2 := Sealed.mk hB1; clear hg1 hb1 hB1 hs1)
    have HO2 : Sealed (w2.ownsRow w.heap.size 5 1 (.slice (some ⟨g1, 0, none⟩) 0 0) 0 (nums .u8 (castL (List.replicate 0 c)))) := ⟨B1.out.owns (by rw [G1.out]; exact Nat.le_refl _) (by decide)⟩
    have HC2 : Sealed (Chg w.heap.size [5] w w2) := ⟨Chg.of_below L2.out⟩
    clear L2 B1 G1
    have HLE := Sealed.mk hle
    clear hle
    go_loopg [7, 8] (300 + n) (fun k s7 s8 w' => ∃ i : Nat, s8 = .int .i64 i ∧ i ≤ 300 + n ∧ Sealed (k = 300 + n - i) ∧ Sealed (w'.ownsRow w.heap.size 5 1 s7 i (nums .u8 (castL (List.replicate i c)))) ∧ Sealed (Chg w.heap.size [5] w w'))
    case atStart => exact ⟨0, rfl, by omega, ⟨rfl⟩, HO2, HC2⟩
    case round =>
      clear HO2 HC2
      obtain ⟨i, rfl, hi, HK, HO, HC⟩ := hrel
      by_cases hlt : i < 300 + n
      · have hlt' : decide ((i : Int) < 300 + (n : Int)) = true := decide_eq_true (by omega)
        have HS : Sealed (w.heap.size ≤ wr.heap.size) := ⟨HC.out.size⟩
        go_wp2_with ((with_reducible refine gate_dst (N := 25) rfl ?_); refine wp_app1 w.heap.size rfl (.tmp 22) (.tmp 24) 41 5 (.int .u8 0) 1 rfl Try.underlying41 info_u8 rfl (by decide) _ i _ (.int .u8 (c : Int)) rfl rfl rfl HO.out HS.out (by omega) ?_; intro v4 w4 ho4 hg4; have HO4 := Sealed.mk ho4; have HG4 := Sealed.mk hg4; clear ho4 hg4)
        go_roundg (300 + n - (i + 1))
        case measure => have := HK.out; omega
        case rel =>
          have ho := HO4.out
          rw [← nums_snoc, ← repl_snoc] at ho
          exact ⟨i + 1, by go_num, by omega, ⟨rfl⟩, ⟨ho⟩, ⟨HC.out.grown HO.out (Nat.le_refl _) (by simp) HG4.out⟩⟩
      · obtain rfl : i = 300 + n := by omega
        obtain ⟨A5, c5, hv5⟩ := own_slice HO.out
        subst hv5
        have hsm := repl_same c (300 + n) hc
        have hbs : (strOfNums (castL (List.replicate (300 + n) c))).size = 300 + n := by rw [str_size, List.length_replicate]
        have hsh := same_short hsm (by rw [hbs]; omega) (by rw [hbs]; omega)
        rw [hbs] at hsh
        obtain ⟨b, hbe⟩ : ∃ b, strOfNums (castL (List.replicate (300 + n) c)) = b := ⟨_, rfl⟩
        rw [hbe] at hsm hbs hsh
        have HBE := Sealed.mk hbe
        clear hbe
        have H2 : Sealed (∀ w, Calls Try.prog 30 #[.string b] w fun e w' => e = .returned (.string (bestB b)) ∧ Below w.heap.size w w') := ⟨fun w => best_any b w (by omega)⟩
        generalize bestB b = x at *
        have HSH := Sealed.mk hsh
        have hx2 : x.size ≤ 1000 := by omega
        have HBS := Sealed.mk hbs
        clear hsh hbs hsm HK hlt hi
        go_wp2_with fail
        all_goals
          first
            | (have hd : decide ((a.size : Int) ≤ (s.size : Int) + 5) = true := decide_eq_true (by have := HLE.out; omega))
            | (have hd : decide ((a.size : Int) ≤ (s.size : Int) + 5 * (((s.size : Int) + 65534) / 65535)) = true := decide_eq_true (by have := HLE.out; omega))
          refine (H1.out _).mono ?_
          rintro e w4 ⟨rfl, hb⟩
          have B4 := Sealed.mk (HC.out.below_step hb)
          have hcv := run_own_string (P := Try.prog) (src := 41) (dst := 9) Try.underlying41 Try.underlying5 Try.underlying9 (owns_below HO.out hb)
          rw [HBE.out] at hcv
          clear hb
          go_wp2_with fail
          refine (H2.out _).mono ?_
          rintro e w5 ⟨rfl, hb⟩
          have B5 := Sealed.mk (B4.out.below_step hb)
          have hd2 : decide (10 * (x.size : Int) < 300 + (n : Int)) = true := decide_eq_true (by have := HSH.out; omega)
          clear hb hcv B4
          go_wp2_with fail
          refine (squeezed_any _).mono ?_
          rintro e w6 ⟨rfl, hb⟩
          have B6 := Sealed.mk (B5.out.below_step hb)
          clear hb B5
          go_wp2
          go_ret
          exact ⟨rfl, B6.out.to_below⟩
end Go.Proofs.Ytmdlhbhdlhjakaa
