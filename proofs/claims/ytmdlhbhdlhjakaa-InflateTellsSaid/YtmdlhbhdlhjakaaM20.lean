/- The contracts of package inflate's lengths, distances, order. -/
import Derived.Test.YtmdlhbhdlhjakaaM16
set_option linter.unusedVariables false
set_option linter.unusedSimpArgs false
namespace Go.Proofs.Ytmdlhbhdlhjakaa
open Go.RowKit

theorem info_ilen : (Try.prog.info? 168).map (·.size) = some 58 := by kernel_rfl
set_option maxRecDepth 100000 in
set_option maxHeartbeats 1000000 in
theorem ilen_any (w : World) :
    Calls Try.prog 131 #[] w fun e w' => e = .returned (.agg (nums .i64 lenCells).toArray) ∧ Below w.heap.size w w' := by
  go_enter Try.func131, Try.ntmps131
  go_wp2_with (first
    | ((with_reducible refine gate_dst (N := 0) rfl ?_); refine ev_box (cs := nums .i64 (List.replicate 58 0)) (t := 168) ?hg ?hr ?_; (case hg => rfl); (case hr => first | (go_simp; done) | (go_simp; rfl)); intro g1 w1 hg1 hb1 hB1 hs1; have G1 := Sealed.mk hg1; have B1 := Sealed.mk hb1; have L1 := Sealed.mk hB1; clear hg1 hb1 hB1 hs1)
    | ((with_reducible refine gate_store (p := 0) rfl ?_); refine wp_store_arr rfl _ _ _ rfl (cells := nums .i64 lenCells) rfl rfl B1.out info_ilen rfl (nums_all _ _) ?_; intro w3 hb3 hc3 hk3 hs3; have B3 := Sealed.mk hb3; have C3 := Sealed.mk hc3; clear hb3 hc3 hk3 hs3))
  refine bodyPost_ret (results_cell rfl _ rfl B3.out Try.underlying168 rfl info_ilen) rfl ⟨rfl, ?_⟩
  exact ((Chg.of_below (B := w.heap.size) (T := []) L1.out).one_new C3.out (by rw [G1.out]; exact Nat.le_refl _)).to_below
theorem info_idist : (Try.prog.info? 170).map (·.size) = some 60 := by kernel_rfl
set_option maxRecDepth 100000 in
set_option maxHeartbeats 1000000 in
theorem idist_any (w : World) :
    Calls Try.prog 132 #[] w fun e w' => e = .returned (.agg (nums .i64 distCells).toArray) ∧ Below w.heap.size w w' := by
  go_enter Try.func132, Try.ntmps132
  go_wp2_with (first
    | ((with_reducible refine gate_dst (N := 0) rfl ?_); refine ev_box (cs := nums .i64 (List.replicate 60 0)) (t := 170) ?hg ?hr ?_; (case hg => rfl); (case hr => first | (go_simp; done) | (go_simp; rfl)); intro g1 w1 hg1 hb1 hB1 hs1; have G1 := Sealed.mk hg1; have B1 := Sealed.mk hb1; have L1 := Sealed.mk hB1; clear hg1 hb1 hB1 hs1)
    | ((with_reducible refine gate_store (p := 0) rfl ?_); refine wp_store_arr rfl _ _ _ rfl (cells := nums .i64 distCells) rfl rfl B1.out info_idist rfl (nums_all _ _) ?_; intro w3 hb3 hc3 hk3 hs3; have B3 := Sealed.mk hb3; have C3 := Sealed.mk hc3; clear hb3 hc3 hk3 hs3))
  refine bodyPost_ret (results_cell rfl _ rfl B3.out Try.underlying170 rfl info_idist) rfl ⟨rfl, ?_⟩
  exact ((Chg.of_below (B := w.heap.size) (T := []) L1.out).one_new C3.out (by rw [G1.out]; exact Nat.le_refl _)).to_below
def orderI : List Int := [16, 17, 18, 0, 8, 7, 9, 6, 10, 5, 11, 4, 12, 3, 13, 2, 14, 1, 15]
theorem info_iorder : (Try.prog.info? 158).map (·.size) = some 19 := by kernel_rfl
set_option maxRecDepth 100000 in
set_option maxHeartbeats 1000000 in
theorem iorder_any (w : World) :
    Calls Try.prog 126 #[] w fun e w' => e = .returned (.agg (nums .i64 orderI).toArray) ∧ Below w.heap.size w w' := by
  go_enter Try.func126, Try.ntmps126
  go_wp2_with (first
    | ((with_reducible refine gate_dst (N := 0) rfl ?_); refine ev_box (cs := nums .i64 (List.replicate 19 0)) (t := 158) ?hg ?hr ?_; (case hg => rfl); (case hr => first | (go_simp; done) | (go_simp; rfl)); intro g1 w1 hg1 hb1 hB1 hs1; have G1 := Sealed.mk hg1; have B1 := Sealed.mk hb1; have L1 := Sealed.mk hB1; clear hg1 hb1 hB1 hs1)
    | ((with_reducible refine gate_store (p := 0) rfl ?_); refine wp_store_arr rfl _ _ _ rfl (cells := nums .i64 orderI) rfl rfl B1.out info_iorder rfl (nums_all _ _) ?_; intro w3 hb3 hc3 hk3 hs3; have B3 := Sealed.mk hb3; have C3 := Sealed.mk hc3; clear hb3 hc3 hk3 hs3))
  refine bodyPost_ret (results_cell rfl _ rfl B3.out Try.underlying158 rfl info_iorder) rfl ⟨rfl, ?_⟩
  exact ((Chg.of_below (B := w.heap.size) (T := []) L1.out).one_new C3.out (by rw [G1.out]; exact Nat.le_refl _)).to_below
theorem idx_ilen (k : Nat) (hk : k < 29) (w : World) : (Instr.index 168 (.agg (nums .i64 (cellsOf lenT)).toArray) (.int .i64 (k : Int))).run Try.prog w = .ok (.agg #[.int .i64 (leastOf lenT k), .int .i64 (extraOf lenT k)]) w :=
  match k, hk with
  | 0, _ => by kernel_rfl
  | 1, _ => by kernel_rfl
  | 2, _ => by kernel_rfl
  | 3, _ => by kernel_rfl
  | 4, _ => by kernel_rfl
  | 5, _ => by kernel_rfl
  | 6, _ => by kernel_rfl
  | 7, _ => by kernel_rfl
  | 8, _ => by kernel_rfl
  | 9, _ => by kernel_rfl
  | 10, _ => by kernel_rfl
  | 11, _ => by kernel_rfl
  | 12, _ => by kernel_rfl
  | 13, _ => by kernel_rfl
  | 14, _ => by kernel_rfl
  | 15, _ => by kernel_rfl
  | 16, _ => by kernel_rfl
  | 17, _ => by kernel_rfl
  | 18, _ => by kernel_rfl
  | 19, _ => by kernel_rfl
  | 20, _ => by kernel_rfl
  | 21, _ => by kernel_rfl
  | 22, _ => by kernel_rfl
  | 23, _ => by kernel_rfl
  | 24, _ => by kernel_rfl
  | 25, _ => by kernel_rfl
  | 26, _ => by kernel_rfl
  | 27, _ => by kernel_rfl
  | 28, _ => by kernel_rfl
  | k + 29, h => by omega
theorem idx_idist (k : Nat) (hk : k < 30) (w : World) : (Instr.index 170 (.agg (nums .i64 (cellsOf distT)).toArray) (.int .i64 (k : Int))).run Try.prog w = .ok (.agg #[.int .i64 (leastOf distT k), .int .i64 (extraOf distT k)]) w :=
  match k, hk with
  | 0, _ => by kernel_rfl
  | 1, _ => by kernel_rfl
  | 2, _ => by kernel_rfl
  | 3, _ => by kernel_rfl
  | 4, _ => by kernel_rfl
  | 5, _ => by kernel_rfl
  | 6, _ => by kernel_rfl
  | 7, _ => by kernel_rfl
  | 8, _ => by kernel_rfl
  | 9, _ => by kernel_rfl
  | 10, _ => by kernel_rfl
  | 11, _ => by kernel_rfl
  | 12, _ => by kernel_rfl
  | 13, _ => by kernel_rfl
  | 14, _ => by kernel_rfl
  | 15, _ => by kernel_rfl
  | 16, _ => by kernel_rfl
  | 17, _ => by kernel_rfl
  | 18, _ => by kernel_rfl
  | 19, _ => by kernel_rfl
  | 20, _ => by kernel_rfl
  | 21, _ => by kernel_rfl
  | 22, _ => by kernel_rfl
  | 23, _ => by kernel_rfl
  | 24, _ => by kernel_rfl
  | 25, _ => by kernel_rfl
  | 26, _ => by kernel_rfl
  | 27, _ => by kernel_rfl
  | 28, _ => by kernel_rfl
  | 29, _ => by kernel_rfl
  | k + 30, h => by omega
end Go.Proofs.Ytmdlhbhdlhjakaa
