/- The contract of the document's answer's stored. -/
import Derived.Test.YtmdlhbhdlhjakaaM22
import Derived.Test.YtmdlhbhdlhjakaaM30
import Derived.Test.YtmdlhbhdlhjakaaM16
set_option linter.unusedVariables false
set_option linter.unusedSimpArgs false
namespace Go.Proofs.Ytmdlhbhdlhjakaa
open Go.RowKit

/-- What 'bits' gives: the place, the error, the number. -/
def bitsR (s : ByteArray) (p code d : Nat) : Nat × Nat × Nat := if code = 0 then (posOf p (getS s p d), errOf (getS s p d), valOf 0 (getS s p d)) else (p, code, 0)
def failN (is : Bool) (code e : Nat) : Nat := if is = true ∧ code = 0 then e else code
theorem rbits_tot (x : RS) (p code d : Nat) (hs : x.s.size ≤ 1000000000) (hp : p ≤ 8 * x.s.size) (hd : d ≤ 16) (w : World) {Z D : Int} (hZ : Z = (code : Int)) (hD : D = (d : Int)) :
    Calls Try.prog 63 #[x.v p Z, .int .i64 D] w fun e w' => e = .returned (.tuple #[x.v (bitsR x.s p code d).1 (bitsR x.s p code d).2.1, .int .i64 (bitsR x.s p code d).2.2]) ∧ Below w.heap.size w w' := by
  subst hZ hD
  unfold bitsR
  by_cases h : code = 0
  · subst h
    simp only [if_true]
    exact rbits10_any x p d hs hp hd w
  · rw [if_neg h]
    exact rbits10_bad x p code d (by simp; omega) w
theorem rfail_tot (x : RS) (p : Int) (code e : Nat) (is : Bool) (w : World) {E : Int} (hE : E = (e : Int)) :
    Calls Try.prog 64 #[x.v p code, .bool is, .int .i64 E] w fun r w' => r = .returned (x.v p (failN is code e)) ∧ Below w.heap.size w w' := by
  subst hE
  have h := rfail_any x p code e is w
  have he : failE is (code : Int) (e : Int) = ((failN is code e : Nat) : Int) := by
    unfold failE failN
    by_cases h : is = true ∧ code = 0
    · rw [if_pos h, if_pos ⟨h.1, by omega⟩]
    · rw [if_neg h, if_neg (fun h' => h ⟨h'.1, by omega⟩)]
  rw [he] at h
  exact h
theorem bitsR_le {s : ByteArray} {p code d : Nat} (hp : p ≤ 8 * s.size) : (bitsR s p code d).1 ≤ 8 * s.size := by
  unfold bitsR
  split
  · cases h : getS s p d with
    | error e => exact hp
    | ok r => obtain ⟨n, q⟩ := r; exact (getS_ok h).2.1
  · exact hp
theorem bitsR_val {s : ByteArray} {p code d : Nat} (hd : d ≤ 16) : (bitsR s p code d).2.2 ≤ 65535 := by
  unfold bitsR
  split
  · cases h : getS s p d with
    | error e => simp [valOf]
    | ok r =>
      obtain ⟨n, q⟩ := r
      have h1 := (getS_ok h).2.2
      have h2 := val_lt (bit_le s) p d
      have h3 : 2 ^ d ≤ 2 ^ 16 := Nat.pow_le_pow_right (by decide) hd
      simp only [valOf]; omega
  · simp
theorem bitsR_err {s : ByteArray} {p code d : Nat} (h : code ≠ 0) : bitsR s p code d = (p, code, 0) := by unfold bitsR; rw [if_neg h]
theorem bitsR_ok {s : ByteArray} {p d n q : Nat} (h : getS s p d = .ok (n, q)) : bitsR s p 0 d = (q, 0, n) := by unfold bitsR; rw [if_pos rfl, h]; rfl
theorem bitsR_bad {s : ByteArray} {p d e : Nat} (h : getS s p d = .error e) : bitsR s p 0 d = (p, e, 0) := by unfold bitsR; rw [if_pos rfl, h]; rfl
/-- What a step of the document's answer must leave. -/
def RtPost (B : Nat) (x : RS) (R : Except Nat (List Nat × Nat)) (w : World) (e : Ending) (w' : World) : Prop :=
  Chg B [5] w w' ∧ match R with
  | .error er => ∃ (x' : RS) (p' : Int), e = .returned (x'.v p' er)
  | .ok (o', q) => ∃ (A : Option Addr) (c : Nat), e = .returned (({ x with AO := A, nO := o'.length, cO := c } : RS).v q 0) ∧ w'.ownsRow B 5 1 (.slice A o'.length c) o'.length (nums .u8 (castL o'))
/-! ### stored -/
theorem stored_tot {s : ByteArray} {most p P1 C1 n P2 C2 m : Nat} {o : List Nat} (hp : 8 * ((p + 7) / 8) ≤ 8 * s.size) (h1 : bitsR s (8 * ((p + 7) / 8)) 0 16 = (P1, C1, n)) (h2 : bitsR s P1 C1 16 = (P2, C2, m)) :
    (failN (decide (n + m ≠ 65535)) C2 4 ≠ 0 → storedS s most p o = .error (failN (decide (n + m ≠ 65535)) C2 4)) ∧
    (failN (decide (n + m ≠ 65535)) C2 4 = 0 → getS s (8 * ((p + 7) / 8)) 16 = .ok (n, P1) ∧ getS s P1 16 = .ok (m, P2) ∧ n + m = 65535) := by
  cases g1 : getS s (8 * ((p + 7) / 8)) 16 with
  | error e =>
    rw [bitsR_bad g1] at h1
    have := getS_err g1
    subst this
    obtain ⟨rfl, rfl, rfl⟩ : 8 * ((p + 7) / 8) = P1 ∧ 5 = C1 ∧ 0 = n := by simpa using h1
    rw [bitsR_err (by omega)] at h2
    obtain ⟨rfl, rfl, rfl⟩ : 8 * ((p + 7) / 8) = P2 ∧ 5 = C2 ∧ 0 = m := by simpa using h2
    have hf : failN (decide (0 + 0 ≠ 65535)) 5 4 = 5 := rfl
    rw [hf]
    exact ⟨fun _ => storedS_e1 g1, fun h => absurd h (by decide)⟩
  | ok r =>
    obtain ⟨n', q1⟩ := r
    rw [bitsR_ok g1] at h1
    obtain ⟨rfl, rfl, rfl⟩ : q1 = P1 ∧ 0 = C1 ∧ n' = n := by simpa using h1
    cases g2 : getS s q1 16 with
    | error e =>
      rw [bitsR_bad g2] at h2
      have := getS_err g2
      subst this
      obtain ⟨rfl, rfl, rfl⟩ : q1 = P2 ∧ 5 = C2 ∧ 0 = m := by simpa using h2
      have hf : failN (decide (n' + 0 ≠ 65535)) 5 4 = 5 := by unfold failN; rw [if_neg (fun h => absurd h.2 (by decide))]
      rw [hf]
      exact ⟨fun _ => storedS_e2 g1 g2, fun h => absurd h (by decide)⟩
    | ok r =>
      obtain ⟨m', q2⟩ := r
      rw [bitsR_ok g2] at h2
      obtain ⟨rfl, rfl, rfl⟩ : q2 = P2 ∧ 0 = C2 ∧ m' = m := by simpa using h2
      by_cases hnm : n' + m' = 65535
      · have hf : failN (decide (n' + m' ≠ 65535)) 0 4 = 0 := by unfold failN; simp [hnm]
        rw [hf]
        exact ⟨fun h => absurd rfl h, fun _ => ⟨rfl, rfl, hnm⟩⟩
      · have hf : failN (decide (n' + m' ≠ 65535)) 0 4 = 4 := by unfold failN; simp [hnm]
        rw [hf]
        exact ⟨fun _ => storedS_e3 g1 g2 hnm, fun h => absurd h (by decide)⟩

theorem stored_fin {s : ByteArray} {most p q n : Nat} {o : List Nat} (h1 : getS s (8 * ((p + 7) / 8)) 16 = .ok (n, 8 * q - 16)) (h2 : getS s (8 * q - 16) 16 = .ok (65535 - n, 8 * q)) (hn : n ≤ 65535) (h : ¬ s.size < q + n) :
    storedS s most p o = if most < o.length + n then .error 7 else .ok (o ++ bytesAt s q n, 8 * (q + n)) := by
  unfold storedS
  rw [h1]; simp only
  rw [h2]; simp only
  rw [if_neg (by omega), show 8 * q / 8 = q by omega, if_neg (by omega)]
  split
  · rfl
  · congr 2; omega
set_option maxRecDepth 100000 in
set_option maxHeartbeats 2000000 in
theorem rstored10 {B : Nat} (x : RS) (p most : Nat) (o : List Nat) {w : World} (hs : x.s.size ≤ 1000000) (hp : p ≤ 8 * x.s.size) (hB : B ≤ w.heap.size) (hmo : x.most = (most : Int)) (hn : x.nO = o.length) (hol : o.length ≤ 1000000) (ho : w.ownsRow B 5 1 (.slice x.AO x.nO x.cO) x.nO (nums .u8 (castL o))) :
    Calls Try.prog 65 #[x.v p 0] w (RtPost B x (storedS x.s most p o) w) := by
  obtain ⟨s, AB, nB, cB, AO, nO, cO, mo⟩ := x
  simp only at hs hp hmo hn ho ⊢
  subst hmo hn
  obtain ⟨R, hR⟩ : ∃ R, R = storedS s most p o := ⟨_, rfl⟩
  rw [← hR]
  have HR := Sealed.mk hR
  have HO := Sealed.mk ho
  have hq0 : 8 * ((p + 7) / 8) ≤ 8 * s.size := by omega
  obtain ⟨P1, Z1, n, h1⟩ : ∃ P1 Z1 n, (P1, Z1, n) = bitsR s (8 * ((p + 7) / 8)) 0 16 := ⟨_, _, _, rfl⟩
  obtain ⟨P2, Z2, m, h2⟩ : ∃ P2 Z2 m, (P2, Z2, m) = bitsR s P1 Z1 16 := ⟨_, _, _, rfl⟩
  have HT := Sealed.mk (stored_tot (most := most) (o := o) hq0 h1.symm h2.symm)
  have hP1 : P1 ≤ 8 * s.size := by have := bitsR_le (code := 0) (d := 16) hq0; rw [← h1] at this; exact this
  have hn16 : n ≤ 65535 := by have := bitsR_val (s := s) (p := 8 * ((p + 7) / 8)) (code := 0) (d := 16) (by omega); rw [← h1] at this; exact this
  have hm16 : m ≤ 65535 := by have := bitsR_val (s := s) (p := P1) (code := Z1) (d := 16) (by omega); rw [← h2] at this; exact this
  have HW := Sealed.mk (fun w => whole_any p (by omega) w)
  have HB1 := Sealed.mk (fun (w : World) => rbits_tot ⟨s, AB, nB, cB, AO, o.length, cO, most⟩ (8 * ((p + 7) / 8)) 0 16 (Nat.le_trans hs (by decide)) hq0 (by omega) w (Z := 0) (D := 16) rfl rfl)
  have HB2 := Sealed.mk (fun (w : World) => rbits_tot ⟨s, AB, nB, cB, AO, o.length, cO, most⟩ P1 Z1 16 (Nat.le_trans hs (by decide)) hP1 (by omega) w (Z := (Z1 : Int)) (D := 16) rfl rfl)
  simp only [← h1] at HB1
  simp only [← h2] at HB2
  obtain ⟨q0, hq⟩ : ∃ q0, q0 = 8 * ((p + 7) / 8) := ⟨_, rfl⟩
  have HQ := Sealed.mk hq
  rw [← hq] at HB1 HW HT
  have hdn : (((n : Int) + (m : Int)) != 65535) = decide (n + m ≠ 65535) := by
    by_cases h : n + m = 65535
    · rw [decide_eq_false (by omega)]; simp; omega
    · rw [decide_eq_true h]; simp; omega
  obtain ⟨bn, hbn⟩ : ∃ bn, bn = decide (n + m ≠ 65535) := ⟨_, rfl⟩
  rw [← hbn] at hdn HT
  obtain ⟨Z3, hZ3⟩ : ∃ Z3, Z3 = failN bn Z2 4 := ⟨_, rfl⟩
  rw [← hZ3] at HT
  have HF := Sealed.mk (fun (w : World) => rfail_tot ⟨s, AB, nB, cB, AO, o.length, cO, most⟩ P2 Z2 4 bn w (E := 4) rfl)
  rw [← hZ3] at HF
  clear h1 h2 hR ho hq0 hq hbn hZ3
  go_enter Try.func65, Try.ntmps65
  go_wp2_with (first
    | ((with_reducible refine gate_dst (N := 1) rfl ?_); refine ev_box (cs := [.string s, .slice AB nB cB, .int .i64 p, .slice AO o.length cO, .int .i64 (most : Int), .int .i64 0]) (t := 101) ?hg ?hr ?_; (case hg => rfl); (case hr => first | (go_simp; done) | (go_simp; rfl)); intro g1 w1 hg1 hb1 hB1 hs1; have GE1 : w.heap.size ≤ g1 := (by rw [hg1]; exact Nat.le_refl _); have B1 := Sealed.mk hb1; have L1 := Sealed.mk hB1; clear hg1 hb1 hB1 hs1)
    | ((with_reducible refine gate_dst (N := 2) rfl ?_); refine ev_box (cs := zeroSt) (t := 101) ?hg ?hr ?_; (case hg => rfl); (case hr => first | (go_simp; done) | (go_simp; rfl)); intro g2 w2 hg2 hb2 hB2 hs2; have HNE : g1 ≠ g2 := (by have := B1.out.lt; omega); have GE2 : w.heap.size ≤ g2 := (by rw [hg2]; exact L1.out.size); have B2 := Sealed.mk hb2; have D1 := Sealed.mk (B1.out.below' hB2); have C2 : Sealed (Chg w.heap.size [] w w2) := ⟨(Chg.of_below L1.out).below_step hB2⟩; have x5 := D1.out.cell 5 rfl; have x0 := D1.out.cell 0 rfl; have x1 := D1.out.cell 1 rfl; have x2 := D1.out.cell 2 rfl; have f5 := D1.out.free 5; have f2 := D1.out.free 2; clear hg2 hb2 hB2 hs2 B1 L1))
  refine (HW.out _).mono ?_
  rintro e w3 ⟨rfl, rfl⟩
  have D3 : Sealed (IsBlk (w2.setCell ⟨g1, 2, none⟩ (.int .i64 q0)) g1 [.string s, .slice AB nB cB, .int .i64 q0, .slice AO o.length cO, .int .i64 (most : Int), .int .i64 0] 101) := ⟨D1.out.set 2 _⟩
  have E3 : Sealed (IsBlk (w2.setCell ⟨g1, 2, none⟩ (.int .i64 q0)) g2 zeroSt 101) := ⟨B2.out.far (fun h => HNE h.symm) _⟩
  have X3 : Sealed (Chg w.heap.size [] w (w2.setCell ⟨g1, 2, none⟩ (.int .i64 q0))) := ⟨C2.out.set_new GE1 _⟩
  clear x5 x0 x1 f5 D1 B2 C2
  go_wp2_with (first
    | ((with_reducible refine gate_dst (N := 13) rfl ?_); refine wp_load_arr rfl _ _ rfl rfl D3.out Try.underlying101 rfl info_state ?_))
  refine (HB1.out _).mono ?_
  rintro e w4 ⟨rfl, hb⟩
  have D4 := Sealed.mk (D3.out.below' hb)
  have E4 := Sealed.mk (E3.out.below' hb)
  have X4 := Sealed.mk (X3.out.below_step hb)
  clear hb D3 E3 X3 x2 f2
  go_wp2_with (first
    | ((with_reducible refine gate_store (p := 1) rfl ?_); refine wp_store_arr rfl _ _ _ rfl (cells := [.string s, .slice AB nB cB, .int .i64 P1, .slice AO o.length cO, .int .i64 (most : Int), .int .i64 Z1]) rfl rfl D4.out info_state rfl rfl ?_; intro w5 hb5 hc5 hk5 hs5; have B5 := Sealed.mk hb5; have C5 := Sealed.mk hc5; have K5 := Sealed.mk hk5; clear hb5 hc5 hk5 hs5)
    | ((with_reducible refine gate_dst (N := 18) rfl ?_); refine wp_load_arr rfl _ _ rfl rfl B5.out Try.underlying101 rfl info_state ?_))
  have E5 := Sealed.mk (E4.out.kept K5.out (fun h => HNE h.symm))
  have X5 := Sealed.mk (X4.out.one_new C5.out GE1)
  refine (HB2.out _).mono ?_
  rintro e w6 ⟨rfl, hb⟩
  have D6 := Sealed.mk (B5.out.below' hb)
  have E6 := Sealed.mk (E5.out.below' hb)
  have X6 := Sealed.mk (X5.out.below_step hb)
  clear hb D4 E4 X4 B5 C5 K5 E5 X5
  go_wp2_with (first
    | ((with_reducible refine gate_store (p := 1) rfl ?_); refine wp_store_arr rfl _ _ _ rfl (cells := [.string s, .slice AB nB cB, .int .i64 P2, .slice AO o.length cO, .int .i64 (most : Int), .int .i64 Z2]) rfl rfl D6.out info_state rfl rfl ?_; intro w7 hb7 hc7 hk7 hs7; have B7 := Sealed.mk hb7; have C7 := Sealed.mk hc7; have K7 := Sealed.mk hk7; clear hb7 hc7 hk7 hs7)
    | ((with_reducible refine gate_dst (N := 22) rfl ?_); refine wp_load_arr rfl _ _ rfl rfl B7.out Try.underlying101 rfl info_state ?_))
  have E7 := Sealed.mk (E6.out.kept K7.out (fun h => HNE h.symm))
  have X7 := Sealed.mk (X6.out.one_new C7.out GE1)
  refine (HF.out _).mono ?_
  rintro e w8 ⟨rfl, hb⟩
  have D8 := Sealed.mk (B7.out.below' hb)
  have E8 := Sealed.mk (E7.out.below' hb)
  have X8 := Sealed.mk (X7.out.below_step hb)
  clear hb D6 E6 X6 B7 C7 K7 E7 X7
  by_cases hz : Z3 = 0
  case neg =>
    have hne : ((Z3 : Int) != 0) = true := by simp; omega
    have HRE : Sealed (R = .error Z3) := ⟨HR.out.trans (HT.out.1 hz)⟩
    clear hz
    go_wp2_with (first
    | ((with_reducible refine gate_store (p := 1) rfl ?_); refine wp_store_arr rfl _ _ _ rfl (cells := [.string s, .slice AB nB cB, .int .i64 P2, .slice AO o.length cO, .int .i64 (most : Int), .int .i64 Z3]) rfl rfl D8.out info_state rfl rfl ?_; intro w9 hb9 hc9 hk9 hs9; have B9 := Sealed.mk hb9; have C9 := Sealed.mk hc9; have K9 := Sealed.mk hk9; have y5 := hb9.cell 5 rfl; clear hb9 hc9 hk9 hs9)
    | ((with_reducible refine gate_dst (N := 31) rfl ?_); refine wp_load_arr rfl _ _ rfl rfl B9.out Try.underlying101 rfl info_state ?_)
    | ((with_reducible refine gate_store (p := 2) rfl ?_); refine wp_store_arr rfl _ _ _ rfl (cells := [.string s, .slice AB nB cB, .int .i64 P2, .slice AO o.length cO, .int .i64 (most : Int), .int .i64 Z3]) rfl rfl (E8.out.kept K9.out (fun h => HNE h.symm)) info_state rfl rfl ?_; intro w10 hb10 hc10 hk10 hs10; have B10 := Sealed.mk hb10; have C10 := Sealed.mk hc10; have K10 := Sealed.mk hk10; clear hb10 hc10 hk10 hs10))
    refine bodyPost_ret (results_cell rfl _ rfl B10.out Try.underlying101 rfl info_state) rfl ?_
    rw [HRE.out]
    exact ⟨((X8.out.one_new C9.out GE1).one_new C10.out GE2).mono hB (by simp), ⟨s, AB, nB, cB, AO, o.length, cO, most⟩, P2, rfl⟩
  case pos =>
    subst hz
    obtain ⟨e1, e2, e3⟩ := HT.out.2 rfl
    have hg1 := getS_ok e1
    have hg2 := getS_ok e2
    obtain ⟨q, hqe⟩ : ∃ q, P2 = 8 * q := ⟨(p + 7) / 8 + 4, by have := HQ.out; omega⟩
    have hqs : q ≤ s.size := by omega
    obtain rfl : P1 = 8 * q - 16 := by omega
    obtain rfl : m = 65535 - n := by omega
    subst hqe
    rw [HQ.out] at e1
    have HG1 := Sealed.mk e1
    have HG2 := Sealed.mk e2
    obtain ⟨t, ht⟩ : ∃ t, t = if s.size < q + n then (⟨#[]⟩ : ByteArray) else s.extract q (q + n) := ⟨_, rfl⟩
    obtain ⟨P3, hP3⟩ : ∃ P3 : Int, P3 = if s.size < q + n then ((8 * q : Nat) : Int) else ((8 * (q + n) : Nat) : Int) := ⟨_, rfl⟩
    obtain ⟨Z4, hZ4⟩ : ∃ Z4 : Nat, Z4 = if s.size < q + n then 5 else 0 := ⟨_, rfl⟩
    have HBY : Sealed (∀ w, Calls Try.prog 93 #[.string s, .int .i64 ((8 * q : Nat) : Int), .int .i64 n] w fun e w' => e = .returned (.tuple #[.string t, .int .i64 P3, .int .i64 Z4]) ∧ w = w') := ⟨fun w => by
      have h := rbytes10_any s q n (Nat.le_trans hs (by decide)) hqs hn16 w
      rw [ht, hP3, hZ4]
      by_cases hc : s.size < q + n
      · simp only [if_pos hc] at h ⊢; exact h
      · simp only [if_neg hc] at h ⊢; exact h⟩
    have htb : t.size ≤ 65535 := by
      rw [ht]; split
      · show (#[] : Array UInt8).size ≤ _; simp
      · simp [ByteArray.size_extract]; omega
    have HTT := Sealed.mk ht
    have HP3 := Sealed.mk hP3
    have HZ4 := Sealed.mk hZ4
    have htb2 := Sealed.mk htb
    generalize ((8 * q : Nat) : Int) = Q8 at *
    clear HT HQ hg1 hg2 e1 e2 e3 ht hP3 hZ4 hP1 hm16 hdn HB1 HB2 HW HF htb
    go_wp2_with (first
    | ((with_reducible refine gate_store (p := 1) rfl ?_); refine wp_store_arr rfl _ _ _ rfl (cells := [.string s, .slice AB nB cB, .int .i64 Q8, .slice AO o.length cO, .int .i64 (most : Int), .int .i64 0]) rfl rfl D8.out info_state rfl rfl ?_; intro w9 hb9 hc9 hk9 hs9; have B9 := Sealed.mk hb9; have C9 := Sealed.mk hc9; have K9 := Sealed.mk hk9; have y5 := hb9.cell 5 rfl; have y2 := hb9.cell 2 rfl; have y0 := hb9.cell 0 rfl; have f2 := hb9.free 2; have f5 := hb9.free 5; clear hb9 hc9 hk9 hs9))
    have E9 := Sealed.mk (E8.out.kept K9.out (fun h => HNE h.symm))
    have X9 := Sealed.mk (X8.out.one_new C9.out GE1)
    refine (HBY.out _).mono ?_
    rintro e w9' ⟨rfl, rfl⟩
    have DA : Sealed (IsBlk ((w9.setCell ⟨g1, 2, none⟩ (.int .i64 P3)).setCell ⟨g1, 5, none⟩ (.int .i64 Z4)) g1 [.string s, .slice AB nB cB, .int .i64 P3, .slice AO o.length cO, .int .i64 (most : Int), .int .i64 Z4] 101) := ⟨(B9.out.set 2 _).set 5 _⟩
    have EA : Sealed (IsBlk ((w9.setCell ⟨g1, 2, none⟩ (.int .i64 P3)).setCell ⟨g1, 5, none⟩ (.int .i64 Z4)) g2 zeroSt 101) := ⟨(E9.out.far (fun h => HNE h.symm) _).far (fun h => HNE h.symm) _⟩
    have XA : Sealed (Chg w.heap.size [] w ((w9.setCell ⟨g1, 2, none⟩ (.int .i64 P3)).setCell ⟨g1, 5, none⟩ (.int .i64 Z4))) := ⟨(X9.out.set_new GE1 _).set_new GE1 _⟩
    have HOA := Sealed.mk (owns_chg HO.out XA.out (by simp))
    have HSA : Sealed (B ≤ (((w9.setCell ⟨g1, 2, none⟩ (.int .i64 P3)).setCell ⟨g1, 5, none⟩ (.int .i64 Z4))).heap.size) := ⟨Nat.le_trans hB XA.out.size⟩
    have z3 := DA.out.cell 3 rfl
    clear D8 E8 X8 E9 X9 C9 K9
    obtain ⟨o2, ho2⟩ : ∃ o2, o2 = o ++ bytesOf t t.size := ⟨_, rfl⟩
    have HO2 := Sealed.mk ho2
    have hol2 : o2.length ≤ 1065535 := by rw [ho2, List.length_append, bytesOf_len]; have := htb2.out; omega
    clear ho2
    go_wp2_with (first
    | ((with_reducible refine gate_dst (N := 49) rfl ?_); refine wp_app_str B rfl (.tmp 47) (.tmp 48) 41 9 5 rfl Try.underlying41 Try.underlying9 info_u8 _ _ _ t rfl rfl HOA.out HSA.out (by have := htb2.out; omega) ?_; intro v5 wB ho5 hg5; have ho6 := row_str ho5 (by rw [bytesOf_len]); rw [← HO2.out] at ho6; obtain ⟨A5, c5, hv5⟩ := own_slice ho6; subst hv5; have HOB := Sealed.mk ho6; have DB := Sealed.mk (DA.out.grown hg5 (DA.out.own_ne HOA.out (by decide))); have EB := Sealed.mk (EA.out.grown hg5 (EA.out.own_ne HOA.out (by decide))); have XB : Sealed (Chg B [5] w wB) := ⟨(XA.out.mono hB (by simp)).grown HOA.out (Nat.le_refl _) (by simp) hg5⟩; have y3 := DB.out.cell 3 rfl; have f3 := DB.out.free 3; have DC : Sealed (IsBlk (wB.setCell ⟨g1, 3, none⟩ (.slice A5 o2.length c5)) g1 [.string s, .slice AB nB cB, .int .i64 P3, .slice A5 o2.length c5, .int .i64 (most : Int), .int .i64 Z4] 101) := ⟨DB.out.set 3 _⟩; have EC : Sealed (IsBlk (wB.setCell ⟨g1, 3, none⟩ (.slice A5 o2.length c5)) g2 zeroSt 101) := ⟨EB.out.far (fun h => HNE h.symm) _⟩; have XC : Sealed (Chg B [5] w (wB.setCell ⟨g1, 3, none⟩ (.slice A5 o2.length c5))) := ⟨XB.out.set_new GE1 _⟩; have HOC : Sealed ((wB.setCell ⟨g1, 3, none⟩ (.slice A5 o2.length c5)).ownsRow B 5 1 (.slice A5 o2.length c5) o2.length (nums .u8 (castL o2))) := ⟨owns_chg HOB.out ((Chg.refl B [101] wB).set DB.out (Nat.le_trans hB GE1) (by simp) 3 _) (by decide)⟩; have u3 := DC.out.cell 3 rfl; have u4 := DC.out.cell 4 rfl; clear ho5 hg5 ho6)
    | ((with_reducible refine gate_dst (N := 51) rfl ?_); refine wp_load_arr rfl _ _ rfl rfl DC.out Try.underlying101 rfl info_state ?_))
    have HFF := Sealed.mk (fun (w : World) => rfail_tot ⟨s, AB, nB, cB, A5, o2.length, c5, most⟩ P3 Z4 7 (decide (most < o2.length)) w (E := 7) rfl)
    obtain ⟨Z5, hZ5⟩ : ∃ Z5, Z5 = failN (decide (most < o2.length)) Z4 7 := ⟨_, rfl⟩
    rw [← hZ5] at HFF
    have HZ5 := Sealed.mk hZ5
    clear hZ5 u3 u4 y3 f3 z3 DA EA XA HOA HSA DB EB XB HOB
    refine (HFF.out _).mono ?_
    rintro e wD ⟨rfl, hb⟩
    have ED := Sealed.mk (EC.out.below' hb)
    have XD := Sealed.mk (XC.out.below_step hb)
    have HOD := Sealed.mk (owns_below HOC.out hb)
    clear hb EC XC HOC DC HFF
    go_wp2_with (first
    | ((with_reducible refine gate_store (p := 2) rfl ?_); refine wp_store_arr rfl _ _ _ rfl (cells := [.string s, .slice AB nB cB, .int .i64 P3, .slice A5 o2.length c5, .int .i64 (most : Int), .int .i64 Z5]) rfl rfl ED.out info_state rfl rfl ?_; intro w20 hb20 hc20 hk20 hs20; have B20 := Sealed.mk hb20; have C20 := Sealed.mk hc20; have K20 := Sealed.mk hk20; clear hb20 hc20 hk20 hs20))
    refine bodyPost_ret (results_cell rfl _ rfl B20.out Try.underlying101 rfl info_state) rfl ?_
    have XE : Chg B [5] w w20 := XD.out.one_new C20.out GE2
    by_cases hc : s.size < q + n
    · have hR : R = .error 5 := HR.out.trans (storedS_e4 HG1.out HG2.out (by omega) (by omega))
      have h4 := HZ4.out
      rw [if_pos hc] at h4
      have h5 : Z5 = 5 := by rw [HZ5.out, h4]; unfold failN; rw [if_neg (fun h => absurd h.2 (by decide))]
      rw [hR]
      refine ⟨XE, ⟨s, AB, nB, cB, A5, o2.length, c5, most⟩, P3, ?_⟩
      rw [h5]
    · have hR := HR.out.trans (stored_fin HG1.out HG2.out hn16 hc)
      have h4 := HZ4.out
      rw [if_neg hc] at h4
      have h3 := HP3.out
      rw [if_neg hc] at h3
      have ht2 := HTT.out
      rw [if_neg hc] at ht2
      have ho2 : o2 = o ++ bytesAt s q n := by rw [HO2.out, ht2, bytesOf_extract s (by omega)]
      have hl2 : o2.length = o.length + n := by rw [HO2.out, List.length_append, bytesOf_len, ht2]; simp [ByteArray.size_extract]; omega
      rw [← ho2] at hR
      by_cases hm : most < o.length + n
      · rw [if_pos hm] at hR
        have h5 : Z5 = 7 := by rw [HZ5.out, h4, hl2, decide_eq_true hm]; rfl
        rw [hR]
        refine ⟨XE, ⟨s, AB, nB, cB, A5, o2.length, c5, most⟩, P3, ?_⟩
        rw [h5]
      · rw [if_neg hm] at hR
        have h5 : Z5 = 0 := by rw [HZ5.out, h4, hl2, decide_eq_false hm]; rfl
        rw [hR]
        refine ⟨XE, A5, c5, ?_, owns_chg HOD.out C20.out (by decide)⟩
        rw [h5, h3]; rfl
end Go.Proofs.Ytmdlhbhdlhjakaa
