/- The contracts of package inflate's filler, and of the function that it makes. -/
import Derived.Test.YtmdlhbhdlhjakaaM25
set_option linter.unusedVariables false
set_option linter.unusedSimpArgs false
namespace Go.Proofs.Ytmdlhbhdlhjakaa
open Go.RowKit

/-- The filler's two variables, and the row. -/
def FilSt (C : Nat) (w : World) (gm gv many : Nat) (row : List Nat) : Prop :=
  gm < gv ∧ gv < C ∧ C ≤ w.heap.size ∧ IsBlk w gm [.int .i64 many] 3 ∧ ∃ v, IsBlk w gv [v] 22 ∧ w.ownsRow C 3 1 v row.length (nums .i64 (castL row))
theorem FilSt.parts {C : Nat} {w : World} {gm gv many : Nat} {row : List Nat} (h : FilSt C w gm gv many row) : IsBlk w gm [.int .i64 many] 3 ∧ ∃ A c, IsBlk w gv [.slice A row.length c] 22 ∧ w.ownsRow C 3 1 (.slice A row.length c) row.length (nums .i64 (castL row)) := by
  obtain ⟨_, _, _, hm, v, hb, ho⟩ := h
  obtain ⟨A, c, rfl⟩ := own_slice ho
  exact ⟨hm, A, c, hb, ho⟩
theorem FilSt.chg {C C' : Nat} {T : List TypeId} {w w' : World} {gm gv many : Nat} {row : List Nat} (h : FilSt C w gm gv many row) (hc : Chg C' T w w') (h1 : 3 ∉ T) (h2 : 22 ∉ T) : FilSt C w' gm gv many row := by
  obtain ⟨a1, a2, a3, hm, v, hb, ho⟩ := h
  exact ⟨a1, a2, Nat.le_trans a3 hc.size, hm.chg hc (.inr h1), v, hb.chg hc (.inr h2), owns_chg ho hc h1⟩
theorem Chg.new_step {B C : Nat} {T T' : List TypeId} {w w' w2 : World} (h : Chg B T w w') (hc : Chg C T' w' w2) (hC : w.heap.size ≤ C) : Chg B T w w2 :=
  ⟨hc.os.trans h.os, hc.tape.trans h.tape, hc.output.trans h.output, Nat.le_trans h.size hc.size, fun i hi hc' => (hc.block i (Nat.lt_of_lt_of_le hi h.size) (.inl (by omega))).trans (h.block i hi hc')⟩
theorem filler_any (w : World) (many : Nat) : Calls Try.prog 127 #[.int .i64 many] w fun e w' => ∃ gm gv, e = .returned (.tuple #[.pointer (some ⟨gv, 0, none⟩), .func (.func 133) #[] #[.pointer (some ⟨gm, 0, none⟩), .pointer (some ⟨gv, 0, none⟩)]]) ∧ w.heap.size ≤ gm ∧ FilSt w'.heap.size w' gm gv many [] ∧ Below w.heap.size w w' := by
  go_enter Try.func127, Try.ntmps127
  go_wp2_with (first
    | ((with_reducible refine gate_dst (N := 1) rfl ?_); refine ev_box (cs := [.int .i64 many]) (t := 3) ?hg ?hr ?_; (case hg => rfl); (case hr => first | (go_simp; done) | (go_simp; rfl)); intro g1 w1 hg1 hb1 hB1 hs1; have G1 := Sealed.mk hg1; have B1 := Sealed.mk hb1; have L1 := Sealed.mk hB1; have S1 := Sealed.mk hs1; clear hg1 hb1 hB1 hs1)
    | ((with_reducible refine gate_dst (N := 4) rfl ?_); refine ev_box (cs := [.slice none 0 0]) (t := 22) ?hg2 ?hr2 ?_; (case hg2 => rfl); (case hr2 => first | (go_simp; done) | (go_simp; rfl)); intro g2 w2 hg2 hb2 hB2 hs2; have G2 := Sealed.mk hg2; have B2 := Sealed.mk hb2; have L2 := Sealed.mk hB2; have S2 := Sealed.mk hs2; clear hg2 hb2 hB2 hs2))
  go_ret2
  refine ⟨g1, g2, rfl, by rw [G1.out]; exact Nat.le_refl _, ⟨?_, ?_, Nat.le_refl _, B1.out.below' L2.out, _, B2.out, own_nil _ _ _ _⟩, L1.out.trans (L2.out.mono L1.out.size)⟩
  · have := G1.out; have := G2.out; have := S1.out; omega
  · have := G2.out; have := S2.out; omega
theorem castL_repl_snoc (row : List Nat) (i n : Nat) : castL (row ++ List.replicate (i + 1) n) = castL (row ++ List.replicate i n) ++ [(n : Int)] := by
  rw [List.replicate_succ', ← List.append_assoc]; simp [castL]

set_option maxRecDepth 100000 in
set_option maxHeartbeats 1000000 in
theorem fput_ok {C : Nat} {w : World} {gm gv many : Nat} {row : List Nat} (h : FilSt C w gm gv many row) (n times : Nat) (ht : times ≤ 1000000) (hm : many ≤ 1000000) (hl : row.length ≤ 1000000) {N : Int} (hN : N = (n : Int)) :
    Calls Try.prog 133 #[.int .i64 N, .int .i64 times, .pointer (some ⟨gm, 0, none⟩), .pointer (some ⟨gv, 0, none⟩)] w fun e w' => Chg gv [3, 22] w w' ∧
      (many < row.length + times → e = .returned (.int .i64 4)) ∧ (¬ many < row.length + times → e = .returned (.int .i64 0) ∧ FilSt C w' gm gv many (row ++ List.replicate times n)) := by
  subst hN
  obtain ⟨hgm, A, c, hgv, hown⟩ := h.parts
  have cm := hgm.cell 0 rfl
  have cv := hgv.cell 0 rfl
  have H := Sealed.mk h
  by_cases hc : many < row.length + times
  · have hd : decide ((many : Int) - (row.length : Int) < (times : Int)) = true := decide_eq_true (by omega)
    clear hgm hgv hown h
    go_enter Try.func133, Try.ntmps133
    go_wp2
    go_ret
    exact ⟨Chg.refl _ _ _, fun _ => rfl, fun h => absurd hc h⟩
  · have hd : decide ((many : Int) - (row.length : Int) < (times : Int)) = false := decide_eq_false (by omega)
    clear hgm hgv hown h
    go_enter Try.func133, Try.ntmps133
    go_wp2
    go_loopg [14] times (fun k s14 w' => ∃ i : Nat, s14 = .int .i64 i ∧ i ≤ times ∧ Sealed (k = times - i) ∧ Sealed (FilSt C w' gm gv many (row ++ List.replicate i n)) ∧ Sealed (Chg gv [3, 22] w w'))
    case atStart => exact ⟨0, rfl, by omega, ⟨rfl⟩, ⟨by simpa using H.out⟩, ⟨Chg.refl _ _ _⟩⟩
    case round =>
      clear H cm cv
      obtain ⟨i, rfl, hi, HK, H, HC⟩ := hrel
      by_cases hlt : i < times
      · have hlt' : decide (i < times) = true := decide_eq_true hlt
        obtain ⟨hgm, A, c, hgv, hown⟩ := H.out.parts
        have hlen : (row ++ List.replicate i n).length = row.length + i := by simp
        rw [hlen] at hgv hown
        have cv := hgv.cell 0 rfl
        have HO := Sealed.mk hown
        have HGV := Sealed.mk hgv
        have HS : Sealed (C ≤ wr.heap.size) := ⟨H.out.2.2.1⟩
        have HGR : Sealed (∀ v1 w', w'.ownsRow C 3 1 v1 (row.length + i + 1) (nums .i64 (castL (row ++ List.replicate i n)) ++ [.int .i64 (n : Int)]) → wr.grownBy w' (Value.slice A (row.length + i) c).ownBlock →
            IsBlk w' gv [.slice A (row.length + i) c] 22 ∧ FilSt C (w'.setCell ⟨gv, 0, none⟩ v1) gm gv many (row ++ List.replicate (i + 1) n) ∧ Chg gv [3, 22] wr (w'.setCell ⟨gv, 0, none⟩ v1)) := ⟨fun v1 w' h1 h2 => by
          obtain ⟨a1, a2, a3, _⟩ := H.out
          have hgr : Chg C [3] wr w' := (Chg.refl C [3] wr).grown HO.out (Nat.le_refl _) (by simp) h2
          have hb1 := HGV.out.chg hgr (.inl a2)
          have hm1 := hgm.chg hgr (.inl (by omega))
          have hst := (Chg.refl gv [22] w').set hb1 (Nat.le_refl _) (by simp) 0 v1
          refine ⟨hb1, ⟨a1, a2, Nat.le_trans a3 (Nat.le_trans h2.size hst.size), hm1.chg hst (.inl a1), v1, hb1.set 0 v1, ?_⟩, (hgr.mono (by omega) (by simp)).trans (hst.mono (Nat.le_refl _) (by simp))⟩
          have ho := owns_chg h1 hst (by decide)
          rw [← nums_snoc, ← castL_repl_snoc] at ho
          rw [show (row ++ List.replicate (i + 1) n).length = row.length + i + 1 by simp; omega]
          exact ho⟩
        clear hgm hgv hown hlen
        go_wp2_with ((with_reducible refine gate_dst (N := 19) rfl ?_); refine wp_app1 C rfl (.tmp 16) (.tmp 18) 22 3 (.int .i64 0) 8 rfl Try.underlying22 info_i64 rfl (by decide) _ (row.length + i) _ (.int .i64 (n : Int)) rfl rfl rfl HO.out HS.out (by omega) ?_; intro v3 w7 ho3 hg3; have HG3 := Sealed.mk (HGR.out _ _ ho3 hg3); obtain ⟨A3, c3, rfl⟩ := own_slice ho3; have q3 := HG3.out.1.free 0; have r3 := HG3.out.1.cell 0 rfl; clear ho3 hg3)
        go_roundg (times - (i + 1))
        case measure => have := HK.out; omega
        case rel => exact ⟨i + 1, by go_num, hlt, ⟨rfl⟩, ⟨HG3.out.2.1⟩, ⟨HC.out.trans HG3.out.2.2⟩⟩
      · obtain rfl : i = times := by omega
        have hlt' : decide (i < i) = false := decide_eq_false hlt
        go_wp2
        go_ret
        exact ⟨HC.out, fun h => absurd h hc, fun _ => ⟨rfl, H.out⟩⟩
end Go.Proofs.Ytmdlhbhdlhjakaa
