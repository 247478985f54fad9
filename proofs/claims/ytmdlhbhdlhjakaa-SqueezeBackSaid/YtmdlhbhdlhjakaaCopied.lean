/- The contract of package squeeze's coder: copied. -/
import Derived.Test.YtmdlhbhdlhjakaaCode
set_option linter.unusedVariables false
set_option linter.unusedSimpArgs false
namespace Go.Proofs.Ytmdlhbhdlhjakaa
open Go.RowKit

theorem sym_write {B B2 : Nat} {w : World} {gt g : Nat} {ls : List Int} {t : TypeId} {rest : List Value} {l : List Nat} (ht : TrSt B2 w gt ls) (hw : WrSt B w g t rest l) (hn : ls.length ≤ 320) (ha : ls.all lenOk = true) (ht1 : t ≠ 70) (ht2 : t ≠ 3)
    (k : Nat) (hv : validB ls (k : Int) = true) (hlen : l.length ≤ 999999999000) {N : Int} (hN : N = (k : Int)) :
    Calls Try.prog 22 #[.pointer (some ⟨gt, 0, none⟩), .pointer (some ⟨g, 0, none⟩), .int .i64 N] w fun e w' => e = .returned (.int .i64 0) ∧ Chg B [t, 5] w w' ∧ WrSt B w' g t rest (l ++ symBits ls (k : Int)) := by
  subst hN
  unfold validB at hv
  simp at hv
  obtain ⟨hk, hL⟩ := hv
  have hok : lenOk (ls.getD k 0) = true := (List.all_eq_true.1 ha) _ (by rw [List.getD_eq_getElem?_getD, List.getElem?_eq_getElem hk]; simp)
  have hL' : ls.getD k 0 ≠ 0 := by rw [List.getD_eq_getElem?_getD]; exact hL
  obtain ⟨L, hLe⟩ : ∃ L : Nat, ls.getD k 0 = (L : Int) := ⟨(ls.getD k 0).toNat, by simp [lenOk] at hok; rw [List.getD_eq_getElem?_getD]; omega⟩
  have h := write_ok ht hw hn ha ht1 ht2 k hk L hLe (by omega) hlen
  unfold symBits
  rw [Int.toNat_natCast, hLe, Int.toNat_natCast]
  exact h
/-- To the coder at block g, with its two trees, the bits l were written. -/
def CSt (B : Nat) (w : World) (g n a : Nat) (l : List Nat) : Prop :=
  WrSt B w g 80 [.pointer (some ⟨n, 0, none⟩), .pointer (some ⟨a, 0, none⟩)] l ∧ TrSt B w n litL ∧ TrSt B w a distL
theorem CSt.chg {B C : Nat} {T : List TypeId} {w w' : World} {g n a : Nat} {l : List Nat} (h : CSt B w g n a l) (hc : Chg C T w w') (h1 : 80 ∉ T) (h2 : 5 ∉ T) (h3 : 70 ∉ T) (h4 : 3 ∉ T) : CSt B w' g n a l :=
  ⟨h.1.chg hc h1 h2, h.2.1.chg hc h3 h4, h.2.2.chg hc h3 h4⟩
theorem CSt.below {B : Nat} {w w' : World} {g n a : Nat} {l : List Nat} (h : CSt B w g n a l) (hb : Below w.heap.size w w') : CSt B w' g n a l := h.chg (Chg.of_below (B := 0) (T := []) hb) (by simp) (by simp) (by simp) (by simp)
theorem CSt.drew {B : Nat} {w : World} {g n a : Nat} {l : List Nat} (h : CSt B w g n a l) : CSt B w.drew g n a l := h.chg ((Chg.refl 0 [] w).drew) (by simp) (by simp) (by simp) (by simp)
theorem CSt.cells {B : Nat} {w : World} {g n a : Nat} {l : List Nat} (h : CSt B w g n a l) : w.cell? ⟨g, 3, none⟩ = some (.pointer (some ⟨n, 0, none⟩)) ∧ w.cell? ⟨g, 4, none⟩ = some (.pointer (some ⟨a, 0, none⟩)) := by
  obtain ⟨_, _, _, v, hb, _⟩ := h.1.parts
  exact ⟨hb.cell 3 rfl, hb.cell 4 rfl⟩
theorem CSt.wrote {B : Nat} {w w' : World} {g n a : Nat} {l l' : List Nat} (h : CSt B w g n a l) (hc : Chg B [80, 5] w w') (hw : WrSt B w' g 80 [.pointer (some ⟨n, 0, none⟩), .pointer (some ⟨a, 0, none⟩)] l') : CSt B w' g n a l' :=
  ⟨hw, h.2.1.chg hc (by decide) (by decide), h.2.2.chg hc (by decide) (by decide)⟩
theorem CSt.lit {B : Nat} {w : World} {g n a : Nat} {l : List Nat} (h : CSt B w g n a l) (k : Nat) (hk : k < 288) (hl : l.length ≤ 100000000000) {N : Int} (hN : N = (k : Int)) :
    Calls Try.prog 22 #[.pointer (some ⟨n, 0, none⟩), .pointer (some ⟨g, 0, none⟩), .int .i64 N] w fun e w' => e = .returned (.int .i64 0) ∧ CSt B w' g n a (l ++ symBits litL (k : Int)) ∧ Chg B [80, 5] w w' :=
  (sym_write h.2.1 h.1 (by rw [litL_ok.2.2]; decide) litL_ok.1 (by decide) (by decide) k (lit_valid hk) (by omega) hN).mono fun e w' ⟨he, hc, hw⟩ => ⟨he, h.wrote hc hw, hc⟩
theorem CSt.dist {B : Nat} {w : World} {g n a : Nat} {l : List Nat} (h : CSt B w g n a l) (k : Nat) (hk : k < 32) (hl : l.length ≤ 100000000000) {N : Int} (hN : N = (k : Int)) :
    Calls Try.prog 22 #[.pointer (some ⟨a, 0, none⟩), .pointer (some ⟨g, 0, none⟩), .int .i64 N] w fun e w' => e = .returned (.int .i64 0) ∧ CSt B w' g n a (l ++ symBits distL (k : Int)) ∧ Chg B [80, 5] w w' :=
  (sym_write h.2.2 h.1 (by rw [distL_ok.2.2]; decide) distL_ok.1 (by decide) (by decide) k (dist_valid hk) (by omega) hN).mono fun e w' ⟨he, hc, hw⟩ => ⟨he, h.wrote hc hw, hc⟩
theorem CSt.put {B : Nat} {w : World} {g n a : Nat} {l : List Nat} (h : CSt B w g n a l) {N D : Int} (x d : Nat) (hN : N = (x : Int)) (hD : D = (d : Int)) (hd : d ≤ 16) (hx : x < 2 ^ d) (hl : l.length ≤ 1000000000000) :
    Calls Try.prog 47 #[.pointer (some ⟨g, 0, none⟩), .int .i64 N, .int .i64 D] w fun e w' => e = .returned (.int .i64 0) ∧ CSt B w' g n a (l ++ numBits x d) ∧ Chg B [80, 5] w w' :=
  (put_at h.1 x d hN hD hd hx hl).mono fun e w' ⟨he, hc, hw⟩ => ⟨he, h.wrote hc hw, hc⟩

set_option maxRecDepth 100000 in
set_option maxHeartbeats 1000000 in
theorem copied_any {B : Nat} {w : World} {g n a : Nat} {l : List Nat} (h : CSt B w g n a l) (len back : Nat) (h3 : 3 ≤ len) (h258 : len ≤ 258) (h1 : 1 ≤ back) (hb : back ≤ 32768) (hl : l.length ≤ 10000000000) :
    Calls Try.prog 51 #[.pointer (some ⟨g, 0, none⟩), .int .i64 len, .int .i64 back] w fun e w' => e = .returned (.tuple #[]) ∧ CSt B w' g n a (l ++ copyBits len back) ∧ Chg B [80, 5] w w' := by
  obtain ⟨k1, k2, k3, k4⟩ := codeOf_len h3 h258
  obtain ⟨d1, d2, d3, d4⟩ := codeOf_dist h1 hb
  have hkl := lit_len (i := 257 + codeOf lenT len) (by omega)
  have hdl := dist_len (i := codeOf distT back) (by omega)
  have HCO1 : Sealed (∀ (w : World) (g : Nat), IsBlk w g (nums .i64 lenCells) 120 → Calls Try.prog 85 #[.slice (some ⟨g, 0, none⟩) 29 29, .int .i64 len] w fun e w' => e = .returned (.int .i64 (codeOf lenT len)) ∧ w = w') :=
    ⟨fun w g hb => code_any (T := lenT) len (by rw [← lenCells_eq]; exact hb) (by decide) (by decide)⟩
  have HCO2 : Sealed (∀ (w : World) (g : Nat), IsBlk w g (nums .i64 distCells) 120 → Calls Try.prog 85 #[.slice (some ⟨g, 0, none⟩) 30 30, .int .i64 back] w fun e w' => e = .returned (.int .i64 (codeOf distT back)) ∧ w = w') :=
    ⟨fun w g hb => code_any (T := distT) back (by rw [← distCells_eq]; exact hb) (by decide) (by decide)⟩
  have HX1 : Sealed (∀ (w : World) (g : Nat), IsBlk w g (nums .i64 lenCells) 120 → w.cell? ⟨g, codeOf lenT len * 2, none⟩ = some (.int .i64 (leastOf lenT (codeOf lenT len))) ∧ w.cell? ⟨g, codeOf lenT len * 2 + 1, none⟩ = some (.int .i64 (extraOf lenT (codeOf lenT len)))) := ⟨fun w g hb => by
    rw [lenCells_eq] at hb
    have h := cellsOf_get lenT (codeOf lenT len) k1
    have e1 := hb.cell (codeOf lenT len * 2) (nums_get (by rw [cellsOf_len]; have : lenT.length = 29 := rfl; omega))
    have e2 := hb.cell (codeOf lenT len * 2 + 1) (nums_get (by rw [cellsOf_len]; have : lenT.length = 29 := rfl; omega))
    rw [Nat.mul_comm, h.1] at e1
    rw [Nat.mul_comm, h.2] at e2
    rw [Nat.mul_comm]
    exact ⟨e1, e2⟩⟩
  have HX2 : Sealed (∀ (w : World) (g : Nat), IsBlk w g (nums .i64 distCells) 120 → w.cell? ⟨g, codeOf distT back * 2, none⟩ = some (.int .i64 (leastOf distT (codeOf distT back))) ∧ w.cell? ⟨g, codeOf distT back * 2 + 1, none⟩ = some (.int .i64 (extraOf distT (codeOf distT back)))) := ⟨fun w g hb => by
    rw [distCells_eq] at hb
    have h := cellsOf_get distT (codeOf distT back) d1
    have e1 := hb.cell (codeOf distT back * 2) (nums_get (by rw [cellsOf_len]; have : distT.length = 30 := rfl; omega))
    have e2 := hb.cell (codeOf distT back * 2 + 1) (nums_get (by rw [cellsOf_len]; have : distT.length = 30 := rfl; omega))
    rw [Nat.mul_comm, h.1] at e1
    rw [Nat.mul_comm, h.2] at e2
    rw [Nat.mul_comm]
    exact ⟨e1, e2⟩⟩
  have HE : Sealed (l ++ copyBits len back = ((l ++ symBits litL ((257 + codeOf lenT len : Nat) : Int)) ++ numBits (len - leastOf lenT (codeOf lenT len)) (extraOf lenT (codeOf lenT len))) ++ symBits distL ((codeOf distT back : Nat) : Int) ++ numBits (back - leastOf distT (codeOf distT back)) (extraOf distT (codeOf distT back))) := ⟨by
    unfold copyBits; simp only [List.append_assoc]⟩
  rw [HE.out]
  clear HE
  generalize codeOf lenT len = K at *
  generalize codeOf distT back = D at *
  generalize leastOf lenT K = kl at *
  generalize extraOf lenT K = ke at *
  generalize leastOf distT D = dl at *
  generalize extraOf distT D = de at *
  have H := Sealed.mk h
  have hm1 : (K : Int) < 29 := by omega
  have hm2 : (D : Int) < 30 := by omega
  have K3 := Sealed.mk k3
  have D3 := Sealed.mk d3
  have KL := Sealed.mk hkl
  have DL := Sealed.mk hdl
  have hll : l.length ≤ 10000000000 := hl
  have HLL := Sealed.mk hll
  clear h k3 d3 hkl hdl hl hll
  go_enter Try.func51, Try.ntmps51
  go_wp2_with fail
  refine (lengths_any w).mono ?_
  rintro e w1 ⟨g1, rfl, -, hb1, hB1⟩
  have H1 := Sealed.mk (H.out.below hB1)
  have HB1 := Sealed.mk hb1
  have HC1 : Sealed (Chg B [80, 5] w w1) := ⟨Chg.of_below hB1⟩
  clear hb1 hB1 H
  go_wp2_with fail
  refine (distances_any w1).mono ?_
  rintro e w2 ⟨g2, rfl, -, hb2, hB2⟩
  have H2 := Sealed.mk (H1.out.below hB2)
  have HB2 := Sealed.mk (HB1.out.below' hB2)
  have HBD2 := Sealed.mk hb2
  have HC2 := Sealed.mk (HC1.out.below_step hB2)
  clear hb2 hB2 H1 HB1 HC1
  go_wp2_with fail
  refine (HCO1.out _ _ HB2.out).mono ?_
  rintro e w3 ⟨rfl, rfl⟩
  have c3 := H2.out.cells.1
  go_wp2
  go_still_tail 9, (by kernel_rfl)
  go_wp2_with fail
  refine (H2.out.drew.lit (257 + K) (by omega) (by have := HLL.out; omega) (by omega)).mono ?_
  rintro e w3 ⟨rfl, hs, hc⟩
  have H3 := Sealed.mk hs
  have HB3 := Sealed.mk (HB2.out.drew.chg hc (.inr (by decide)))
  have HBD3 := Sealed.mk (HBD2.out.drew.chg hc (.inr (by decide)))
  have HC3 := Sealed.mk (HC2.out.drew.trans hc)
  clear hs hc c3 H2 HB2 HBD2 HC2
  obtain ⟨x1, x2⟩ := HX1.out _ _ HB3.out
  go_wp2
  go_still_tail 15, (by kernel_rfl)
  go_wp2_with fail
  refine (H3.out.drew.put (len - kl) ke (by omega) rfl (by omega) K3.out (by have := HLL.out; have := KL.out; rw [List.length_append]; omega)).mono ?_
  rintro e w4 ⟨rfl, hs, hc⟩
  have H4 := Sealed.mk hs
  have HBD4 := Sealed.mk (HBD3.out.drew.chg hc (.inr (by decide)))
  have HC4 := Sealed.mk (HC3.out.drew.trans hc)
  clear hs hc H3 HB3 HBD3 HC3 x1 x2
  go_wp2_with fail
  refine (HCO2.out _ _ HBD4.out).mono ?_
  rintro e w5 ⟨rfl, rfl⟩
  have c4 := H4.out.cells.2
  go_wp2
  go_still_tail 8, (by kernel_rfl)
  go_wp2_with fail
  refine (H4.out.drew.dist D (by omega) (by have := HLL.out; have := KL.out; simp only [List.length_append, numBits_length]; omega) rfl).mono ?_
  rintro e w5 ⟨rfl, hs, hc⟩
  have H5 := Sealed.mk hs
  have HBD5 := Sealed.mk (HBD4.out.drew.chg hc (.inr (by decide)))
  have HC5 := Sealed.mk (HC4.out.drew.trans hc)
  clear hs hc c4 H4 HBD4 HC4
  obtain ⟨x1, x2⟩ := HX2.out _ _ HBD5.out
  go_wp2
  go_still_tail 15, (by kernel_rfl)
  go_wp2_with fail
  refine (H5.out.drew.put (back - dl) de (by omega) rfl (by omega) D3.out (by have := HLL.out; have := KL.out; have := DL.out; simp only [List.length_append, numBits_length]; omega)).mono ?_
  rintro e w6 ⟨rfl, hs, hc⟩
  have H6 := Sealed.mk hs
  have HC6 := Sealed.mk (HC5.out.drew.trans hc)
  clear hs hc H5 HBD5 HC5 x1 x2
  go_wp2
  go_end0
  exact ⟨rfl, H6.out, HC6.out⟩
end Go.Proofs.Ytmdlhbhdlhjakaa
