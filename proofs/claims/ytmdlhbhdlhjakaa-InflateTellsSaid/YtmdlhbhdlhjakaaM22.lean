/- The contracts of the document's answer's steps of inflating: bits, fail, symbol. -/
import Derived.Test.YtmdlhbhdlhjakaaM17
import Derived.Test.YtmdlhbhdlhjakaaM19
import Derived.Test.YtmdlhbhdlhjakaaM21
set_option linter.unusedVariables false
set_option linter.unusedSimpArgs false
namespace Go.Proofs.Ytmdlhbhdlhjakaa
open Go.RowKit

/-- What stands fast in a State: bytes, their bits, what came out, how much may. -/
structure RS where
  s : ByteArray
  AB : Option Addr
  nB : Nat
  cB : Nat
  AO : Option Addr
  nO : Nat
  cO : Nat
  most : Int
abbrev RS.c (x : RS) (p code : Int) : List Value := [.string x.s, .slice x.AB x.nB x.cB, .int .i64 p, .slice x.AO x.nO x.cO, .int .i64 x.most, .int .i64 code]
abbrev RS.v (x : RS) (p code : Int) : Value := .agg #[.string x.s, .slice x.AB x.nB x.cB, .int .i64 p, .slice x.AO x.nO x.cO, .int .i64 x.most, .int .i64 code]
theorem info_state : (Try.prog.info? 101).map (·.size) = some 6 := by kernel_rfl
abbrev zeroSt : List Value := [.string ⟨#[]⟩, .slice none 0 0, .int .i64 0, .slice none 0 0, .int .i64 0, .int .i64 0]

set_option maxRecDepth 100000 in
set_option maxHeartbeats 1000000 in
theorem rbits10_any (x : RS) (p d : Nat) (hs : x.s.size ≤ 1000000000) (hp : p ≤ 8 * x.s.size) (hd : d ≤ 16) (w : World) :
    Calls Try.prog 63 #[x.v p 0, .int .i64 d] w fun e w' => e = .returned (.tuple #[x.v (posOf p (getS x.s p d)) (errOf (getS x.s p d)), .int .i64 (valOf 0 (getS x.s p d))]) ∧ Below w.heap.size w w' := by
  have HG := Sealed.mk (rget_any x.s p d hs hp hd)
  obtain ⟨s, AB, nB, cB, AO, nO, cO, most⟩ := x
  simp only at HG hs hp ⊢
  generalize posOf p (getS s p d) = P at *
  generalize errOf (getS s p d) = E at *
  generalize valOf 0 (getS s p d) = V at *
  go_enter Try.func63, Try.ntmps63
  go_wp2_with (first
    | ((with_reducible refine gate_dst (N := 2) rfl ?_); refine ev_box (cs := [.string s, .slice AB nB cB, .int .i64 p, .slice AO nO cO, .int .i64 most, .int .i64 0]) (t := 101) ?hg ?hr ?_; (case hg => rfl); (case hr => first | (go_simp; done) | (go_simp; rfl)); intro g1 w1 hg1 hb1 hB1 hs1; have GE1 : w.heap.size ≤ g1 := (by rw [hg1]; exact Nat.le_refl _); have B1 := Sealed.mk hb1; have L1 := Sealed.mk hB1; clear hg1 hb1 hB1 hs1)
    | ((with_reducible refine gate_dst (N := 4) rfl ?_); refine ev_box (cs := zeroSt) (t := 101) ?hg ?hr ?_; (case hg => rfl); (case hr => first | (go_simp; done) | (go_simp; rfl)); intro g2 w2 hg2 hb2 hB2 hs2; have HNE : g1 ≠ g2 := (by have := B1.out.lt; omega); have GE2 : w.heap.size ≤ g2 := (by rw [hg2]; exact L1.out.size); have B2 := Sealed.mk hb2; have D1 := Sealed.mk (B1.out.below' hB2); have C2 : Sealed (Chg w.heap.size [] w w2) := ⟨(Chg.of_below L1.out).below_step hB2⟩; have x5 := D1.out.cell 5 rfl; have x0 := D1.out.cell 0 rfl; have x2 := D1.out.cell 2 rfl; clear hg2 hb2 hB2 hs2 B1 L1))
  refine (HG.out _).mono ?_
  rintro e w3 ⟨rfl, m, rfl⟩
  have D3 := Sealed.mk (D1.out.drewN m)
  have E3 := Sealed.mk (B2.out.drewN m)
  have C3 := Sealed.mk (C2.out.drewN m)
  clear x5 x0 x2 D1 B2 C2
  generalize w2.drewN m = w3 at *
  have x2 := D3.out.cell 2 rfl
  have x5 := D3.out.cell 5 rfl
  have f2 := D3.out.free 2
  have f5 := D3.out.free 5
  have D4 : Sealed (IsBlk ((w3.setCell ⟨g1, 2, none⟩ (.int .i64 P)).setCell ⟨g1, 5, none⟩ (.int .i64 E)) g1 [.string s, .slice AB nB cB, .int .i64 P, .slice AO nO cO, .int .i64 most, .int .i64 E] 101) := ⟨(D3.out.set 2 _).set 5 _⟩
  have E4 : Sealed (IsBlk ((w3.setCell ⟨g1, 2, none⟩ (.int .i64 P)).setCell ⟨g1, 5, none⟩ (.int .i64 E)) g2 zeroSt 101) := ⟨(E3.out.far (fun h => HNE h.symm) _).far (fun h => HNE h.symm) _⟩
  have C4 : Sealed (Chg w.heap.size [] w ((w3.setCell ⟨g1, 2, none⟩ (.int .i64 P)).setCell ⟨g1, 5, none⟩ (.int .i64 E))) := ⟨(C3.out.set_new GE1 _).set_new GE1 _⟩
  go_wp2_with (first
    | ((with_reducible refine gate_dst (N := 27) rfl ?_); refine wp_load_arr rfl _ _ rfl rfl D4.out Try.underlying101 rfl info_state ?_)
    | ((with_reducible refine gate_store (p := 4) rfl ?_); refine wp_store_arr rfl _ _ _ rfl (cells := [.string s, .slice AB nB cB, .int .i64 P, .slice AO nO cO, .int .i64 most, .int .i64 E]) rfl rfl E4.out info_state rfl rfl ?_; intro w5 hb5 hc5 hk5 hs5; have B5 := Sealed.mk hb5; have C5 := Sealed.mk hc5; clear hb5 hc5 hk5 hs5))
  refine bodyPost_ret (results_cell_tmp rfl _ rfl B5.out Try.underlying101 rfl info_state) rfl ⟨rfl, ?_⟩
  exact (C4.out.one_new C5.out GE2).to_below
set_option maxRecDepth 100000 in
theorem rbits10_bad (x : RS) (p code d : Int) (hc : (code != 0) = true) (w : World) :
    Calls Try.prog 63 #[x.v p code, .int .i64 d] w fun e w' => e = .returned (.tuple #[x.v p code, .int .i64 0]) ∧ Below w.heap.size w w' := by
  obtain ⟨s, AB, nB, cB, AO, nO, cO, most⟩ := x
  go_enter Try.func63, Try.ntmps63
  go_wp2_with (first
    | ((with_reducible refine gate_dst (N := 2) rfl ?_); refine ev_box (cs := [.string s, .slice AB nB cB, .int .i64 p, .slice AO nO cO, .int .i64 most, .int .i64 code]) (t := 101) ?hg ?hr ?_; (case hg => rfl); (case hr => first | (go_simp; done) | (go_simp; rfl)); intro g1 w1 hg1 hb1 hB1 hs1; have GE1 : w.heap.size ≤ g1 := (by rw [hg1]; exact Nat.le_refl _); have B1 := Sealed.mk hb1; have L1 := Sealed.mk hB1; clear hg1 hb1 hB1 hs1)
    | ((with_reducible refine gate_dst (N := 4) rfl ?_); refine ev_box (cs := zeroSt) (t := 101) ?hg ?hr ?_; (case hg => rfl); (case hr => first | (go_simp; done) | (go_simp; rfl)); intro g2 w2 hg2 hb2 hB2 hs2; have HNE : g1 ≠ g2 := (by have := B1.out.lt; omega); have GE2 : w.heap.size ≤ g2 := (by rw [hg2]; exact L1.out.size); have B2 := Sealed.mk hb2; have D1 := Sealed.mk (B1.out.below' hB2); have C2 : Sealed (Chg w.heap.size [] w w2) := ⟨(Chg.of_below L1.out).below_step hB2⟩; have x5 := D1.out.cell 5 rfl; have x0 := D1.out.cell 0 rfl; have x1 := D1.out.cell 1 rfl; have x2 := D1.out.cell 2 rfl; have f5 := D1.out.free 5; clear hg2 hb2 hB2 hs2 B1 L1)
    | ((with_reducible refine gate_dst (N := 12) rfl ?_); refine wp_load_arr rfl _ _ rfl rfl D1.out Try.underlying101 rfl info_state ?_)
    | ((with_reducible refine gate_store (p := 4) rfl ?_); refine wp_store_arr rfl _ _ _ rfl (cells := [.string s, .slice AB nB cB, .int .i64 p, .slice AO nO cO, .int .i64 most, .int .i64 code]) rfl rfl B2.out info_state rfl rfl ?_; intro w5 hb5 hc5 hk5 hs5; have B5 := Sealed.mk hb5; have C5 := Sealed.mk hc5; clear hb5 hc5 hk5 hs5))
  refine bodyPost_ret (results_cell_tmp rfl _ rfl B5.out Try.underlying101 rfl info_state) rfl ⟨rfl, ?_⟩
  exact (C2.out.one_new C5.out GE2).to_below
def failE (is : Bool) (code e : Int) : Int := if is = true ∧ code = 0 then e else code
set_option maxRecDepth 100000 in
theorem rfail_any (x : RS) (p code e : Int) (is : Bool) (w : World) :
    Calls Try.prog 64 #[x.v p code, .bool is, .int .i64 e] w fun r w' => r = .returned (x.v p (failE is code e)) ∧ Below w.heap.size w w' := by
  obtain ⟨s, AB, nB, cB, AO, nO, cO, most⟩ := x
  cases is with
  | false =>
    have he : failE false code e = code := rfl
    rw [he]
    clear he
    go_enter Try.func64, Try.ntmps64
    go_wp2_with (first
    | ((with_reducible refine gate_dst (N := 3) rfl ?_); refine ev_box (cs := [.string s, .slice AB nB cB, .int .i64 p, .slice AO nO cO, .int .i64 most, .int .i64 code]) (t := 101) ?hg ?hr ?_; (case hg => rfl); (case hr => first | (go_simp; done) | (go_simp; rfl)); intro g1 w1 hg1 hb1 hB1 hs1; have GE1 : w.heap.size ≤ g1 := (by rw [hg1]; exact Nat.le_refl _); have B1 := Sealed.mk hb1; have L1 := Sealed.mk hB1; clear hg1 hb1 hB1 hs1)
    | ((with_reducible refine gate_dst (N := 6) rfl ?_); refine ev_box (cs := zeroSt) (t := 101) ?hg ?hr ?_; (case hg => rfl); (case hr => first | (go_simp; done) | (go_simp; rfl)); intro g2 w2 hg2 hb2 hB2 hs2; have HNE : g1 ≠ g2 := (by have := B1.out.lt; omega); have GE2 : w.heap.size ≤ g2 := (by rw [hg2]; exact L1.out.size); have B2 := Sealed.mk hb2; have D1 := Sealed.mk (B1.out.below' hB2); have C2 : Sealed (Chg w.heap.size [] w w2) := ⟨(Chg.of_below L1.out).below_step hB2⟩; have x5 := D1.out.cell 5 rfl; have x0 := D1.out.cell 0 rfl; have x1 := D1.out.cell 1 rfl; have x2 := D1.out.cell 2 rfl; have f5 := D1.out.free 5; clear hg2 hb2 hB2 hs2 B1 L1)
    | ((with_reducible refine gate_dst (N := 15) rfl ?_); refine wp_load_arr rfl _ _ rfl rfl D1.out Try.underlying101 rfl info_state ?_)
    | ((with_reducible refine gate_store (p := 6) rfl ?_); refine wp_store_arr rfl _ _ _ rfl (cells := [.string s, .slice AB nB cB, .int .i64 p, .slice AO nO cO, .int .i64 most, .int .i64 code]) rfl rfl B2.out info_state rfl rfl ?_; intro w5 hb5 hc5 hk5 hs5; have B5 := Sealed.mk hb5; have C5 := Sealed.mk hc5; clear hb5 hc5 hk5 hs5))
    refine bodyPost_ret (results_cell rfl _ rfl B5.out Try.underlying101 rfl info_state) rfl ⟨rfl, ?_⟩
    exact (C2.out.one_new C5.out GE2).to_below
  | true =>
    by_cases h0 : code = 0
    · subst h0
      have he : failE true 0 e = e := rfl
      rw [he]
      clear he
      go_enter Try.func64, Try.ntmps64
      go_wp2_with (first
    | ((with_reducible refine gate_dst (N := 3) rfl ?_); refine ev_box (cs := [.string s, .slice AB nB cB, .int .i64 p, .slice AO nO cO, .int .i64 most, .int .i64 0]) (t := 101) ?hg ?hr ?_; (case hg => rfl); (case hr => first | (go_simp; done) | (go_simp; rfl)); intro g1 w1 hg1 hb1 hB1 hs1; have GE1 : w.heap.size ≤ g1 := (by rw [hg1]; exact Nat.le_refl _); have B1 := Sealed.mk hb1; have L1 := Sealed.mk hB1; clear hg1 hb1 hB1 hs1)
    | ((with_reducible refine gate_dst (N := 6) rfl ?_); refine ev_box (cs := zeroSt) (t := 101) ?hg ?hr ?_; (case hg => rfl); (case hr => first | (go_simp; done) | (go_simp; rfl)); intro g2 w2 hg2 hb2 hB2 hs2; have HNE : g1 ≠ g2 := (by have := B1.out.lt; omega); have GE2 : w.heap.size ≤ g2 := (by rw [hg2]; exact L1.out.size); have B2 := Sealed.mk hb2; have D1 := Sealed.mk (B1.out.below' hB2); have C2 : Sealed (Chg w.heap.size [] w w2) := ⟨(Chg.of_below L1.out).below_step hB2⟩; have x5 := D1.out.cell 5 rfl; have x0 := D1.out.cell 0 rfl; have x1 := D1.out.cell 1 rfl; have x2 := D1.out.cell 2 rfl; have f5 := D1.out.free 5; have D4 : Sealed (IsBlk (w2.setCell ⟨g1, 5, none⟩ (.int .i64 e)) g1 [.string s, .slice AB nB cB, .int .i64 p, .slice AO nO cO, .int .i64 most, .int .i64 e] 101) := ⟨D1.out.set 5 _⟩; have E4 : Sealed (IsBlk (w2.setCell ⟨g1, 5, none⟩ (.int .i64 e)) g2 zeroSt 101) := ⟨B2.out.far (fun h => HNE h.symm) _⟩; clear hg2 hb2 hB2 hs2 B1 L1)
    | ((with_reducible refine gate_dst (N := 15) rfl ?_); refine wp_load_arr rfl _ _ rfl rfl D4.out Try.underlying101 rfl info_state ?_)
    | ((with_reducible refine gate_store (p := 6) rfl ?_); refine wp_store_arr rfl _ _ _ rfl (cells := [.string s, .slice AB nB cB, .int .i64 p, .slice AO nO cO, .int .i64 most, .int .i64 e]) rfl rfl E4.out info_state rfl rfl ?_; intro w5 hb5 hc5 hk5 hs5; have B5 := Sealed.mk hb5; have C5 := Sealed.mk hc5; clear hb5 hc5 hk5 hs5))
      refine bodyPost_ret (results_cell rfl _ rfl B5.out Try.underlying101 rfl info_state) rfl ⟨rfl, ?_⟩
      exact ((C2.out.set_new GE1 _).one_new C5.out GE2).to_below
    · have he : failE true code e = code := by unfold failE; rw [if_neg (fun h => h0 h.2)]
      rw [he]
      have hc : (code == 0) = false := beq_eq_false_iff_ne.2 h0
      clear he h0
      go_enter Try.func64, Try.ntmps64
      go_wp2_with (first
    | ((with_reducible refine gate_dst (N := 3) rfl ?_); refine ev_box (cs := [.string s, .slice AB nB cB, .int .i64 p, .slice AO nO cO, .int .i64 most, .int .i64 code]) (t := 101) ?hg ?hr ?_; (case hg => rfl); (case hr => first | (go_simp; done) | (go_simp; rfl)); intro g1 w1 hg1 hb1 hB1 hs1; have GE1 : w.heap.size ≤ g1 := (by rw [hg1]; exact Nat.le_refl _); have B1 := Sealed.mk hb1; have L1 := Sealed.mk hB1; clear hg1 hb1 hB1 hs1)
    | ((with_reducible refine gate_dst (N := 6) rfl ?_); refine ev_box (cs := zeroSt) (t := 101) ?hg ?hr ?_; (case hg => rfl); (case hr => first | (go_simp; done) | (go_simp; rfl)); intro g2 w2 hg2 hb2 hB2 hs2; have HNE : g1 ≠ g2 := (by have := B1.out.lt; omega); have GE2 : w.heap.size ≤ g2 := (by rw [hg2]; exact L1.out.size); have B2 := Sealed.mk hb2; have D1 := Sealed.mk (B1.out.below' hB2); have C2 : Sealed (Chg w.heap.size [] w w2) := ⟨(Chg.of_below L1.out).below_step hB2⟩; have x5 := D1.out.cell 5 rfl; have x0 := D1.out.cell 0 rfl; have x1 := D1.out.cell 1 rfl; have x2 := D1.out.cell 2 rfl; have f5 := D1.out.free 5; clear hg2 hb2 hB2 hs2 B1 L1)
    | ((with_reducible refine gate_dst (N := 15) rfl ?_); refine wp_load_arr rfl _ _ rfl rfl D1.out Try.underlying101 rfl info_state ?_)
    | ((with_reducible refine gate_store (p := 6) rfl ?_); refine wp_store_arr rfl _ _ _ rfl (cells := [.string s, .slice AB nB cB, .int .i64 p, .slice AO nO cO, .int .i64 most, .int .i64 code]) rfl rfl B2.out info_state rfl rfl ?_; intro w5 hb5 hc5 hk5 hs5; have B5 := Sealed.mk hb5; have C5 := Sealed.mk hc5; clear hb5 hc5 hk5 hs5))
      refine bodyPost_ret (results_cell rfl _ rfl B5.out Try.underlying101 rfl info_state) rfl ⟨rfl, ?_⟩
      exact (C2.out.one_new C5.out GE2).to_below
theorem sym_ok_read {s : ByteArray} {ls : List Int} {p n q : Nat} (h : symS s ls p = .ok (n, q)) (h0 : 0 < ls.length) : readOf ls (bit s) (8 * s.size) p = ((n : Int), 0, q) := by
  have hx := readFrom_sym (f := bit s) (lim := 8 * s.size) h0 (longOf ls).toNat 1 p 0 0 0
  change 0 ≤ (readOf ls (bit s) (8 * s.size) p).1 ∧ _ at hx
  unfold symS at h
  split at h
  · rename_i h2
    injection h with h
    injection h with h3 h4
    have h5 : (readOf ls (bit s) (8 * s.size) p).1 = (n : Int) := by omega
    rw [← h5, ← h2, ← h4]
  · cases h
theorem sym_err_read {s : ByteArray} {ls : List Int} {p er : Nat} (h : symS s ls p = .error er) : readOf ls (bit s) (8 * s.size) p = (0, (er : Int), (readOf ls (bit s) (8 * s.size) p).2.2) := by
  unfold symS at h
  split at h
  · cases h
  · rename_i h2
    injection h with h
    have h3 := readFrom_zero (ls := ls) (f := bit s) (lim := 8 * s.size) (longOf ls).toNat 1 p 0 0 0 h2
    have h4 := (readFrom_err (ls := ls) (f := bit s) (lim := 8 * s.size) (longOf ls).toNat 1 p 0 0 0).1
    change (readOf ls (bit s) (8 * s.size) p).1 = 0 at h3
    change 0 ≤ (readOf ls (bit s) (8 * s.size) p).2.1 at h4
    have h5 : (readOf ls (bit s) (8 * s.size) p).2.1 = (er : Int) := by omega
    rw [← h3, ← h5]
set_option maxRecDepth 100000 in
theorem rsym_bad (x : RS) (p code : Int) (v1 v2 : Value) (hc : (code != 0) = true) (w : World) :
    Calls Try.prog 94 #[x.v p code, v1, v2] w fun e w' => e = .returned (.tuple #[x.v p code, .int .i64 0]) ∧ Below w.heap.size w w' := by
  obtain ⟨s, AB, nB, cB, AO, nO, cO, most⟩ := x
  go_enter Try.func94, Try.ntmps94
  go_wp2_with (first
    | ((with_reducible refine gate_dst (N := 3) rfl ?_); refine ev_box (cs := [.string s, .slice AB nB cB, .int .i64 p, .slice AO nO cO, .int .i64 most, .int .i64 code]) (t := 101) ?hg ?hr ?_; (case hg => rfl); (case hr => first | (go_simp; done) | (go_simp; rfl)); intro g1 w1 hg1 hb1 hB1 hs1; have GE1 : w.heap.size ≤ g1 := (by rw [hg1]; exact Nat.le_refl _); have B1 := Sealed.mk hb1; have L1 := Sealed.mk hB1; clear hg1 hb1 hB1 hs1)
    | ((with_reducible refine gate_dst (N := 6) rfl ?_); refine ev_box (cs := zeroSt) (t := 101) ?hg ?hr ?_; (case hg => rfl); (case hr => first | (go_simp; done) | (go_simp; rfl)); intro g2 w2 hg2 hb2 hB2 hs2; have HNE : g1 ≠ g2 := (by have := B1.out.lt; omega); have GE2 : w.heap.size ≤ g2 := (by rw [hg2]; exact L1.out.size); have B2 := Sealed.mk hb2; have D1 := Sealed.mk (B1.out.below' hB2); have C2 : Sealed (Chg w.heap.size [] w w2) := ⟨(Chg.of_below L1.out).below_step hB2⟩; have x5 := D1.out.cell 5 rfl; have x0 := D1.out.cell 0 rfl; have x1 := D1.out.cell 1 rfl; have x2 := D1.out.cell 2 rfl; have f5 := D1.out.free 5; clear hg2 hb2 hB2 hs2 B1 L1)
    | ((with_reducible refine gate_dst (N := 14) rfl ?_); refine wp_load_arr rfl _ _ rfl rfl D1.out Try.underlying101 rfl info_state ?_)
    | ((with_reducible refine gate_store (p := 6) rfl ?_); refine wp_store_arr rfl _ _ _ rfl (cells := [.string s, .slice AB nB cB, .int .i64 p, .slice AO nO cO, .int .i64 most, .int .i64 code]) rfl rfl B2.out info_state rfl rfl ?_; intro w5 hb5 hc5 hk5 hs5; have B5 := Sealed.mk hb5; have C5 := Sealed.mk hc5; clear hb5 hc5 hk5 hs5))
  refine bodyPost_ret (results_cell_tmp rfl _ rfl B5.out Try.underlying101 rfl info_state) rfl ⟨rfl, ?_⟩
  exact (C2.out.one_new C5.out GE2).to_below
set_option maxRecDepth 100000 in
set_option maxHeartbeats 1000000 in
theorem rsym_any (x : RS) (p : Nat) {A0 A1 : Option Addr} {c0 c1 : Nat} {ls : List Int} {w : World} (hs : x.s.size ≤ 100000000) (hp : p ≤ 8 * x.s.size) (hnB : x.nB = 8 * x.s.size) (hB : Reads w .i64 x.AB (sbits x.s (8 * x.s.size))) (h0 : Reads w .i64 A0 ls) (h1 : Reads w .i64 A1 (codesOf ls)) (hn : ls.length ≤ 320) (ha : ls.all lenOk = true) {N : Nat} (hN : N = ls.length) :
    Calls Try.prog 94 #[x.v p 0, .slice A0 N c0, .slice A1 N c1] w fun e w' => e = .returned (.tuple #[x.v (readOf ls (bit x.s) (8 * x.s.size) p).2.2 (readOf ls (bit x.s) (8 * x.s.size) p).2.1, .int .i64 (readOf ls (bit x.s) (8 * x.s.size) p).1]) ∧ Below w.heap.size w w' := by
  subst hN
  have HG : Sealed (∀ w', Below w.heap.size w w' → Calls Try.prog 20 #[.slice A0 ls.length c0, .slice A1 ls.length c1, .slice x.AB x.nB x.cB, .int .i64 p] w' fun e w'' => e = .returned (.tuple #[.int .i64 (readOf ls (bit x.s) (8 * x.s.size) p).1, .int .i64 (readOf ls (bit x.s) (8 * x.s.size) p).2.2, .int .i64 (readOf ls (bit x.s) (8 * x.s.size) p).2.1]) ∧ Below w'.heap.size w' w'') := ⟨fun w' h => by
    have h2 := rread_any (c0 := c0) (c1 := c1) (c2 := x.cB) (f := bit x.s) p (h0.below h) (h1.below h) (hB.below h) (bit_le x.s) (fun i hi => sbits_get _ (by rw [sbits_len] at hi; exact hi)) (by rw [sbits_len]; omega) (by rw [sbits_len]; exact hp) hn ha
    rw [sbits_len] at h2
    rw [hnB]
    exact h2⟩
  generalize (readOf ls (bit x.s) (8 * x.s.size) p) = r at *
  obtain ⟨V, E, P⟩ := r
  obtain ⟨s, AB, nB, cB, AO, nO, cO, most⟩ := x
  simp only at HG ⊢
  clear hB h0 h1 ha hnB
  go_enter Try.func94, Try.ntmps94
  go_wp2_with (first
    | ((with_reducible refine gate_dst (N := 3) rfl ?_); refine ev_box (cs := [.string s, .slice AB nB cB, .int .i64 p, .slice AO nO cO, .int .i64 most, .int .i64 0]) (t := 101) ?hg ?hr ?_; (case hg => rfl); (case hr => first | (go_simp; done) | (go_simp; rfl)); intro g1 w1 hg1 hb1 hB1 hs1; have GE1 : w.heap.size ≤ g1 := (by rw [hg1]; exact Nat.le_refl _); have B1 := Sealed.mk hb1; have L1 := Sealed.mk hB1; clear hg1 hb1 hB1 hs1)
    | ((with_reducible refine gate_dst (N := 6) rfl ?_); refine ev_box (cs := zeroSt) (t := 101) ?hg ?hr ?_; (case hg => rfl); (case hr => first | (go_simp; done) | (go_simp; rfl)); intro g2 w2 hg2 hb2 hB2 hs2; have HNE : g1 ≠ g2 := (by have := B1.out.lt; omega); have GE2 : w.heap.size ≤ g2 := (by rw [hg2]; exact L1.out.size); have B2 := Sealed.mk hb2; have D1 := Sealed.mk (B1.out.below' hB2); have C2 : Sealed (Chg w.heap.size [] w w2) := ⟨(Chg.of_below L1.out).below_step hB2⟩; have x5 := D1.out.cell 5 rfl; have x0 := D1.out.cell 0 rfl; have x1 := D1.out.cell 1 rfl; have x2 := D1.out.cell 2 rfl; have f5 := D1.out.free 5; clear hg2 hb2 hB2 hs2 B1 L1))
  refine (HG.out _ C2.out.to_below).mono ?_
  rintro e w3 ⟨rfl, hb⟩
  have D3 := Sealed.mk (D1.out.below' hb)
  have E3 := Sealed.mk (B2.out.below' hb)
  have C3 := Sealed.mk (C2.out.below_step hb)
  clear x5 x0 x1 x2 f5 D1 B2 C2 hb
  have x2 := D3.out.cell 2 rfl
  have x5 := D3.out.cell 5 rfl
  have f2 := D3.out.free 2
  have f5 := D3.out.free 5
  have D4 : Sealed (IsBlk ((w3.setCell ⟨g1, 2, none⟩ (.int .i64 P)).setCell ⟨g1, 5, none⟩ (.int .i64 E)) g1 [.string s, .slice AB nB cB, .int .i64 P, .slice AO nO cO, .int .i64 most, .int .i64 E] 101) := ⟨(D3.out.set 2 _).set 5 _⟩
  have E4 : Sealed (IsBlk ((w3.setCell ⟨g1, 2, none⟩ (.int .i64 P)).setCell ⟨g1, 5, none⟩ (.int .i64 E)) g2 zeroSt 101) := ⟨(E3.out.far (fun h => HNE h.symm) _).far (fun h => HNE h.symm) _⟩
  have C4 : Sealed (Chg w.heap.size [] w ((w3.setCell ⟨g1, 2, none⟩ (.int .i64 P)).setCell ⟨g1, 5, none⟩ (.int .i64 E))) := ⟨(C3.out.set_new GE1 _).set_new GE1 _⟩
  go_wp2_with (first
    | ((with_reducible refine gate_dst (N := 30) rfl ?_); refine wp_load_arr rfl _ _ rfl rfl D4.out Try.underlying101 rfl info_state ?_)
    | ((with_reducible refine gate_store (p := 6) rfl ?_); refine wp_store_arr rfl _ _ _ rfl (cells := [.string s, .slice AB nB cB, .int .i64 P, .slice AO nO cO, .int .i64 most, .int .i64 E]) rfl rfl E4.out info_state rfl rfl ?_; intro w5 hb5 hc5 hk5 hs5; have B5 := Sealed.mk hb5; have C5 := Sealed.mk hc5; clear hb5 hc5 hk5 hs5))
  refine bodyPost_ret (results_cell_tmp rfl _ rfl B5.out Try.underlying101 rfl info_state) rfl ⟨rfl, ?_⟩
  exact (C4.out.one_new C5.out GE2).to_below
end Go.Proofs.Ytmdlhbhdlhjakaa
