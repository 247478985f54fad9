/- The contracts of package squeeze's lengths, distances. -/
import Derived.Test.YtmdlhbhdlhjakaaM10
set_option linter.unusedVariables false
set_option linter.unusedSimpArgs false
namespace Go.Proofs.Ytmdlhbhdlhjakaa
open Go.RowKit

def lenCells : List Int := [3, 0, 4, 0, 5, 0, 6, 0, 7, 0, 8, 0, 9, 0, 10, 0, 11, 1, 13, 1, 15, 1, 17, 1, 19, 2, 23, 2, 27, 2,
  31, 2, 35, 3, 43, 3, 51, 3, 59, 3, 67, 4, 83, 4, 99, 4, 115, 4, 131, 5, 163, 5, 195, 5, 227, 5, 258, 0]
def distCells : List Int := [1, 0, 2, 0, 3, 0, 4, 0, 5, 1, 7, 1, 9, 2, 13, 2, 17, 3, 25, 3, 33, 4, 49, 4, 65, 5, 97, 5, 129, 6,
  193, 6, 257, 7, 385, 7, 513, 8, 769, 8, 1025, 9, 1537, 9, 2049, 10, 3073, 10, 4097, 11, 6145, 11, 8193, 12, 12289, 12, 16385, 13, 24577, 13]

set_option maxRecDepth 100000 in
set_option maxHeartbeats 1000000 in
theorem lengths_any (w : World) :
    Calls Try.prog 83 #[] w fun e w' => ∃ g, e = .returned (.slice (some ⟨g, 0, none⟩) 29 29) ∧ g = w.heap.size ∧ IsBlk w' g (nums .i64 lenCells) 120 ∧ Below w.heap.size w w' := by
  go_enter Try.func83, Try.ntmps83
  go_wp2_with ((with_reducible refine gate_dst (N := 30) rfl ?_); refine ev_lit (cs := nums .i64 lenCells) (t := 120) (n := 29) ?hg ?hr ?_; (case hg => rfl); (case hr => first | (go_simp; done) | (go_simp; rfl)); intro g1 w1 hg1 hb1 hB1 hs1; have G1 := Sealed.mk hg1; have B1 := Sealed.mk hb1; have L1 := Sealed.mk hB1; clear hg1 hb1 hB1 hs1)
  go_ret
  exact ⟨g1, rfl, G1.out, B1.out, L1.out⟩
set_option maxRecDepth 100000 in
set_option maxHeartbeats 1000000 in
theorem distances_any (w : World) :
    Calls Try.prog 84 #[] w fun e w' => ∃ g, e = .returned (.slice (some ⟨g, 0, none⟩) 30 30) ∧ g = w.heap.size ∧ IsBlk w' g (nums .i64 distCells) 120 ∧ Below w.heap.size w w' := by
  go_enter Try.func84, Try.ntmps84
  go_wp2_with ((with_reducible refine gate_dst (N := 31) rfl ?_); refine ev_lit (cs := nums .i64 distCells) (t := 120) (n := 30) ?hg ?hr ?_; (case hg => rfl); (case hr => first | (go_simp; done) | (go_simp; rfl)); intro g1 w1 hg1 hb1 hB1 hs1; have G1 := Sealed.mk hg1; have B1 := Sealed.mk hb1; have L1 := Sealed.mk hB1; clear hg1 hb1 hB1 hs1)
  go_ret
  exact ⟨g1, rfl, G1.out, B1.out, L1.out⟩
end Go.Proofs.Ytmdlhbhdlhjakaa
