/- The contracts of package codes: counts, Check, Codes. '==' of two arrays of int is the equality of what they hold. Bits: the bits of bytes, the number that some bits are; the walk's operators on 64 bits as such numbers. -/
import Derived.Test.YtmdlhbhdlhjakaaM01
import Derived.Laws.StructEq
import Derived.Laws.BitsLemmas
import Derived.WalkKit
set_option linter.unusedVariables false
set_option linter.unusedSimpArgs false
namespace Go.Proofs.Ytmdlhbhdlhjakaa
open Go.RowKit

theorem info_counts : (Try.prog.info? 66).map (·.size) = some 16 := by kernel_rfl

/-! ### Lengths, as a plain function tells them -/
def cntStep (c : List Int) (n : Int) : List Int := c.set n.toNat (c.getD n.toNat 0 + 1)
def zeros16 : List Int := List.replicate 16 0
def cntsOf (ls : List Int) : List Int := ls.foldl cntStep zeros16
def lenOk (n : Int) : Bool := decide (0 ≤ n) && decide (n ≤ 15)
theorem cntsOf_len (ls : List Int) : (cntsOf ls).length = 16 := by
  have : ∀ (ls : List Int) (c : List Int), (ls.foldl cntStep c).length = c.length := by
    intro ls
    induction ls with
    | nil => intro c; rfl
    | cons x xs ih => intro c; rw [List.foldl_cons, ih]; simp [cntStep]
  rw [cntsOf, this]; rfl


theorem results_cell_tmp {fn : Func} {p q : Tmp} {ty : TypeId} (h : fn.results = #[.cell p ty, .tmp q]) (tmps : Array Value) {w : World} {g : Nat} {cs : List Value} {t : TypeId} (hp : tmps.getD p undef = .pointer (some ⟨g, 0, none⟩)) (hb : IsBlk w g cs t)
    {P : Program} {d : TypeDesc} (hu : P.underlying ty = some d) (hd : isRowDesc d = true) (hi : (P.info? ty).map (·.size) = some cs.length) : (results fn tmps).run P w = .ok (.tuple #[.agg cs.toArray, tmps.getD q undef]) w := by
  have hp' : tmps[p]?.getD undef = .pointer (some ⟨g, 0, none⟩) := by simpa using hp
  simp [results, h, hp', asAddr, hb.loadVar ty hu hd hi]

set_option maxRecDepth 100000 in
theorem counted_long (A : Option Addr) (n c : Nat) (w : World) (hn : 320 < n) :
    Calls Try.prog 42 #[.slice A n c] w fun e w' => e = .returned (.tuple #[.agg (nums .i64 zeros16).toArray, .int .i64 2]) ∧ Below w.heap.size w w' := by
  have hd : decide (320 < n) = true := decide_eq_true hn
  go_enter Try.func42, Try.ntmps42
  go_wp2_with (first | ((with_reducible refine gate_dst (N := 2) rfl ?_); refine ev_box (cs := nums .i64 zeros16) (t := 66) ?hg ?hr ?_; (case hg => rfl); (case hr => first | (go_simp; done) | (go_simp; rfl)); intro g1 w1 hg1 hb1 hB1 hs1; have G1 := Sealed.mk hg1; have B1 := Sealed.mk hb1; have L1 := Sealed.mk hB1; clear hg1 hb1 hB1) | ((with_reducible refine gate_dst (N := 4) rfl ?_); refine ev_box (cs := nums .i64 zeros16) (t := 66) ?hg ?hr ?_; (case hg => rfl); (case hr => first | (go_simp; done) | (go_simp; rfl)); intro g2 w2 hg2 hb2 hB2 hs2; have G2 := Sealed.mk hg2; have B2 := Sealed.mk hb2; have L2 := Sealed.mk hB2; clear hg2 hb2 hB2) | ((with_reducible refine gate_dst (N := 10) rfl ?_); refine wp_load_arr rfl _ _ rfl rfl B2.out Try.underlying66 rfl info_counts ?_) | ((with_reducible refine gate_store (p := 2) rfl ?_); refine wp_store_arr rfl _ _ _ rfl (cells := nums .i64 zeros16) rfl rfl (B1.out.below' L2.out) info_counts rfl (nums_all _ _) ?_; intro w3 hb3 hc3 hk3 hs3; have B3 := Sealed.mk hb3; have C3 := Sealed.mk hc3; clear hb3 hc3 hk3 hs3))
  refine bodyPost_ret (results_cell_tmp rfl _ rfl B3.out Try.underlying66 rfl info_counts) rfl ⟨rfl, ?_⟩
  exact (((Chg.refl w.heap.size [] w).below_step L1.out).below_step L2.out |>.one_new C3.out (by rw [G1.out]; exact Nat.le_refl _)).to_below

def cntVal (ls : List Int) : Value := .tuple #[.agg (nums .i64 (if ls.all lenOk then (cntsOf ls).set 0 0 else zeros16)).toArray, .int .i64 (if ls.all lenOk then 0 else 3)]
theorem cntVal_ok {ls : List Int} (h : ls.all lenOk = true) : cntVal ls = .tuple #[.agg (nums .i64 ((cntsOf ls).set 0 0)).toArray, .int .i64 0] := by simp only [cntVal, h, if_true]
theorem cntVal_bad {ls : List Int} (h : ls.all lenOk = false) : cntVal ls = .tuple #[.agg (nums .i64 zeros16).toArray, .int .i64 3] := by simp only [cntVal, h]; rfl
theorem take_snoc {ls : List Int} {i : Nat} (h : i < ls.length) : ls.take (i + 1) = ls.take i ++ [ls.getD i 0] := by
  rw [List.take_add_one, List.getElem?_eq_getElem h, List.getD_eq_getElem?_getD, List.getElem?_eq_getElem h]; rfl
theorem cntsOf_snoc (ls : List Int) (x : Int) : cntsOf (ls ++ [x]) = cntStep (cntsOf ls) x := by simp [cntsOf, List.foldl_append]
theorem all_snoc (ls : List Int) (x : Int) : (ls ++ [x]).all lenOk = (ls.all lenOk && lenOk x) := by simp
theorem all_take_bad {ls : List Int} {i : Nat} (h : i < ls.length) (hb : lenOk (ls.getD i 0) = false) : ls.all lenOk = false := by
  rw [List.all_eq_false]
  exact ⟨ls.getD i 0, by rw [List.getD_eq_getElem?_getD, List.getElem?_eq_getElem h]; simp, by rw [hb]; simp⟩

theorem cnts_bd (ls : List Int) : ∀ i, 0 ≤ (cntsOf ls).getD i 0 ∧ (cntsOf ls).getD i 0 ≤ ls.length := by
  have : ∀ (ls : List Int) (c : List Int) (b : Int), (∀ i, 0 ≤ c.getD i 0 ∧ c.getD i 0 ≤ b) → ∀ i, 0 ≤ (ls.foldl cntStep c).getD i 0 ∧ (ls.foldl cntStep c).getD i 0 ≤ b + ls.length := by
    intro ls
    induction ls with
    | nil => intro c b h i; simpa using h i
    | cons x xs ih =>
      intro c b h i
      have := ih (cntStep c x) (b + 1) (fun j => by
        have h1 := h j
        have h2 := h x.toNat
        simp only [cntStep, List.getD_eq_getElem?_getD, List.getElem?_set] at *
        split
        · split
          · simp; omega
          · simp; omega
        · omega) i
      rw [List.foldl_cons, List.length_cons]
      omega
  intro i
  have h := this ls zeros16 0 (fun j => by
    simp only [zeros16, List.getD_eq_getElem?_getD, List.getElem?_replicate]
    split <;> simp) i
  simpa [cntsOf] using h

set_option maxRecDepth 100000 in
set_option maxHeartbeats 1000000 in
theorem counted_ok (A : Option Addr) (c : Nat) (ls : List Int) (w : World) (hr : Reads w .i64 A ls) (hn : ls.length ≤ 320) :
    Calls Try.prog 42 #[.slice A ls.length c] w fun e w' =>
      e = .returned (cntVal ls) ∧ Below w.heap.size w w' := by
  have hd : decide (320 < ls.length) = false := decide_eq_false (by omega)
  have HR := Sealed.mk hr
  clear hr
  go_enter Try.func42, Try.ntmps42
  go_wp2_with (first | ((with_reducible refine gate_dst (N := 2) rfl ?_); refine ev_box (cs := nums .i64 zeros16) (t := 66) ?hg ?hr ?_; (case hg => rfl); (case hr => first | (go_simp; done) | (go_simp; rfl)); intro g1 w1 hg1 hb1 hB1 hs1; have G1 := Sealed.mk hg1; have B1 := Sealed.mk hb1; have L1 := Sealed.mk hB1; have S1 := Sealed.mk hs1; clear hg1 hb1 hB1 hs1) | ((with_reducible refine gate_dst (N := 4) rfl ?_); refine ev_box (cs := nums .i64 zeros16) (t := 66) ?hg ?hr ?_; (case hg => rfl); (case hr => first | (go_simp; done) | (go_simp; rfl)); intro g2 w2 hg2 hb2 hB2 hs2; have G2 := Sealed.mk hg2; have B2 := Sealed.mk hb2; have L2 := Sealed.mk hB2; clear hg2 hb2 hB2 hs2))
  have hne : g1 ≠ g2 := by have := G1.out; have := G2.out; have := S1.out; omega
  have GE1 : w.heap.size ≤ g1 := by rw [G1.out]; exact Nat.le_refl _
  have GE2 : w.heap.size ≤ g2 := by rw [G2.out]; exact L1.out.size
  have C2 : Sealed (Chg w.heap.size [] w w2) := ⟨((Chg.refl w.heap.size [] w).below_step L1.out).below_step L2.out⟩
  have B12 := Sealed.mk (B1.out.below' L2.out)
  clear G1 G2 S1 B1 L1 L2
  go_loopg [13] ls.length (fun k i w' => ∃ n : Nat, i = .int .i64 n ∧ Sealed (n ≤ ls.length) ∧ Sealed (k = ls.length - n) ∧ Sealed ((ls.take n).all lenOk = true) ∧ Sealed (IsBlk w' g2 (nums .i64 (cntsOf (ls.take n))) 66) ∧ Sealed (IsBlk w' g1 (nums .i64 zeros16) 66) ∧ Sealed (Chg w.heap.size [] w w'))
  case atStart => exact ⟨0, rfl, ⟨Nat.zero_le _⟩, ⟨by simp⟩, ⟨rfl⟩, ⟨B2.out⟩, B12, C2⟩
  case round =>
    clear C2 B12 B2
    obtain ⟨n, rfl, HN, HK, HA, HB, HB1, HC⟩ := hrel
    by_cases hlt : n < ls.length
    · obtain ⟨ad, rfl, hc0⟩ := HR.out.cell n hlt
      obtain ⟨x, hx⟩ : ∃ x, x = ls.getD n 0 := ⟨_, rfl⟩
      rw [← hx] at hc0
      have hc := cell_chg hc0 HC.out (World.block_lt_of_cell? w _ hc0)
      have HX := Sealed.mk hx
      clear hx hc0
      by_cases h0 : 0 ≤ x
      · by_cases h15 : x ≤ 15
        · have hcl : (cntsOf (ls.take n)).length = 16 := cntsOf_len _
          have hg := HB.out.cell x.toNat (nums_get (k := .i64) (show x.toNat < (cntsOf (ls.take n)).length by omega))
          have hf := HB.out.free x.toNat
          obtain ⟨y, hy⟩ : ∃ y, y = (cntsOf (ls.take n)).getD x.toNat 0 := ⟨_, rfl⟩
          rw [← hy] at hg
          have hy0 : 0 ≤ y := by rw [hy]; exact (cnts_bd _ _).1
          have hy1 : y ≤ 320 := by have h1 := (cnts_bd (ls.take n) x.toNat).2; have h2 := List.length_take_le n ls; have h3 := HN.out; omega
          have HY := Sealed.mk hy
          clear hy hcl
          go_wp2
          go_roundg (ls.length - (n + 1))
          case measure => have := HK.out; omega
          case rel =>
            have ht := take_snoc hlt
            rw [← HX.out] at ht
            have hb2 := HB.out.set x.toNat (.int .i64 (y + 1))
            rw [HY.out, nums_set] at hb2
            refine ⟨n + 1, by go_num, ⟨hlt⟩, ⟨rfl⟩, ⟨?_⟩, ⟨?_⟩, ⟨HB1.out.far hne _⟩, ⟨HC.out.set_new GE2 _⟩⟩
            · rw [ht, all_snoc, HA.out]; simp [lenOk, h0, h15]
            · rw [ht, cntsOf_snoc]; rw [HY.out]; exact hb2
        · have h15' : 15 < x := by omega
          have hall : ls.all lenOk = false := all_take_bad hlt (by rw [← HX.out]; simp [lenOk]; omega)
          have HALL := Sealed.mk hall
          have d0 : decide (x < 0) = false := decide_eq_false (by omega)
          have d1 : decide (15 < x) = true := decide_eq_true h15'
          clear hall h0 h15 h15'
          go_wp2_with ((with_reducible refine gate_store (p := 2) rfl ?_); refine wp_store_arr rfl _ _ _ rfl (cells := nums .i64 zeros16) rfl rfl HB1.out info_counts rfl (nums_all _ _) ?_; intro w3 hb3 hc3 hk3 hs3; have B3 := Sealed.mk hb3; have C3 := Sealed.mk hc3; clear hb3 hc3 hk3 hs3)
          refine bodyPost_ret (results_cell_tmp rfl _ rfl B3.out Try.underlying66 rfl info_counts) rfl ⟨by rw [cntVal_bad HALL.out]; rfl, ?_⟩
          exact (HC.out.one_new C3.out GE1).to_below
      · have h15' : x < 0 := by omega
        have hall : ls.all lenOk = false := all_take_bad hlt (by rw [← HX.out]; simp [lenOk]; omega)
        have HALL := Sealed.mk hall
        have d0 : decide (x < 0) = true := decide_eq_true h15'
        clear hall h0 h15'
        go_wp2_with ((with_reducible refine gate_store (p := 2) rfl ?_); refine wp_store_arr rfl _ _ _ rfl (cells := nums .i64 zeros16) rfl rfl HB1.out info_counts rfl (nums_all _ _) ?_; intro w3 hb3 hc3 hk3 hs3; have B3 := Sealed.mk hb3; have C3 := Sealed.mk hc3; clear hb3 hc3 hk3 hs3)
        refine bodyPost_ret (results_cell_tmp rfl _ rfl B3.out Try.underlying66 rfl info_counts) rfl ⟨by rw [cntVal_bad HALL.out]; rfl, ?_⟩
        exact (HC.out.one_new C3.out GE1).to_below
    · have hn' : n = ls.length := by have := HN.out; omega
      have hall : ls.all lenOk = true := by have h := HA.out; rwa [hn', List.take_length] at h
      have HB' : Sealed (IsBlk wr g2 (nums .i64 (cntsOf ls)) 66) := ⟨by have h := HB.out; rwa [hn', List.take_length] at h⟩
      have HALL := Sealed.mk hall
      have hg := HB'.out.cell 0 (nums_get (k := .i64) (show 0 < (cntsOf ls).length by rw [cntsOf_len]; omega))
      have hf := HB'.out.free 0
      have hlen : ((cntsOf ls).set 0 0).length = 16 := by simp [cntsOf_len]
      have HL := Sealed.mk hlen
      have HS : Sealed (IsBlk (wr.setCell ⟨g2, 0, none⟩ (.int .i64 0)) g2 (nums .i64 ((cntsOf ls).set 0 0)) 66) := ⟨by rw [← nums_set]; exact HB'.out.set 0 _⟩
      clear hn' hall hlen
      go_wp2_with (first | ((with_reducible refine gate_dst (N := 31) rfl ?_); refine wp_load_arr rfl _ _ rfl rfl HS.out Try.underlying66 rfl (by rw [nums_length, HL.out]; exact info_counts) ?_) | ((with_reducible refine gate_store (p := 2) rfl ?_); refine wp_store_arr rfl _ _ _ rfl (cells := nums .i64 ((cntsOf ls).set 0 0)) rfl rfl (HB1.out.far hne _) (by rw [nums_length, HL.out]; exact info_counts) (by rw [nums_length, nums_length, HL.out]; rfl) (nums_all _ _) ?_; intro w3 hb3 hc3 hk3 hs3; have B3 := Sealed.mk hb3; have C3 := Sealed.mk hc3; clear hb3 hc3 hk3 hs3))
      refine bodyPost_ret (results_cell_tmp rfl _ rfl B3.out Try.underlying66 rfl (by rw [nums_length, HL.out]; exact info_counts)) rfl ⟨by rw [cntVal_ok HALL.out]; rfl, ?_⟩
      exact ((HC.out.set_new GE2 _).one_new C3.out GE1).to_below
end Go.Proofs.Ytmdlhbhdlhjakaa

namespace Go.Proofs.Ytmdlhbhdlhjakaa
open Go.RowKit

section
variable {P : Program} {w : World}
theorem run_part_int {e : TypeId} (he : P.underlying e = some (.int .i64)) (xs : List Int) (i : Nat) (hi : i < xs.length) : (part e (nums .i64 xs).toArray i).run P w = .ok (.int .i64 (xs.getD i 0)) w := by
  have hg : (nums .i64 xs).toArray[i]? = some (.int .i64 (xs.getD i 0)) := by simpa using nums_get (k := .i64) hi
  unfold part
  simp only [isAgg, Sem.run_bind, run_underlying he, Result.andThen_ok, Sem.run_pure, Bool.false_eq_true, if_false, hg]
theorem run_for_eq (xs ys : List Int) (body : Nat → Option Bool × Unit → Sem (ForInStep (Option Bool × Unit))) (n : Nat) (hx : xs.length = n) (hy : ys.length = n)
    (hb : ∀ i, i < n → (body i (none, ())).run P w = .ok (if xs.getD i 0 = ys.getD i 0 then .yield (none, ()) else .done (some false, ())) w) :
    ∀ m s, s + m = n → (forIn (List.range' s m) ((none : Option Bool), ()) body).run P w = .ok (if xs.drop s = ys.drop s then (none, ()) else (some false, ())) w
  | 0, s, h => by
    rw [List.drop_of_length_le (by omega), List.drop_of_length_le (by omega)]
    simp
  | m + 1, s, h => by
    have hsx : s < xs.length := by omega
    have hsy : s < ys.length := by omega
    rw [List.range'_succ, List.forIn_cons, Sem.run_bind, hb s (by omega), Result.andThen_ok]
    have ex : xs.drop s = xs.getD s 0 :: xs.drop (s + 1) := by rw [List.drop_eq_getElem_cons hsx, List.getD_eq_getElem?_getD, List.getElem?_eq_getElem hsx]; rfl
    have ey : ys.drop s = ys.getD s 0 :: ys.drop (s + 1) := by rw [List.drop_eq_getElem_cons hsy, List.getD_eq_getElem?_getD, List.getElem?_eq_getElem hsy]; rfl
    by_cases he : xs.getD s 0 = ys.getD s 0
    · rw [if_pos he]
      show (forIn (List.range' (s + 1) m) ((none : Option Bool), ()) body).run P w = _
      rw [run_for_eq xs ys body n hx hy hb m (s + 1) (by omega), ex, ey, he]
      simp
    · rw [if_neg he, if_neg (by rw [ex, ey]; intro h; injection h with h1 _; exact he h1)]
      rfl
theorem run_equalIn_ints (d : Nat) {t e : TypeId} {n : Nat} (ht : P.underlying t = some (.array n e)) (he : P.underlying e = some (.int .i64)) (hs : (P.info? e).map (·.size) = some 1) (xs ys : List Int) (hx : xs.length = n) (hy : ys.length = n) :
    (Op.equalIn (d + 2) t (.agg (nums .i64 xs).toArray) (.agg (nums .i64 ys).toArray)).run P w = .ok (decide (xs = ys)) w := by
  have hsz : (sizeOf e).run P w = .ok 1 w := by
    obtain ⟨i, hi, h1⟩ := Option.map_eq_some_iff.1 hs
    simp [sizeOf, typeInfo, hi, h1]
  simp only [Op.equalIn, Sem.run_bind, run_underlying ht, Result.andThen_ok, hsz]
  rw [Std.Legacy.Range.forIn_eq_forIn_range']
  have e1 : List.range' (Std.Legacy.Range.mk 0 n 1 (by decide)).start (Std.Legacy.Range.mk 0 n 1 (by decide)).size (Std.Legacy.Range.mk 0 n 1 (by decide)).step = List.range' 0 n := by simp [Std.Legacy.Range.size]
  rw [e1, run_for_eq xs ys _ n hx hy ?hb n 0 (by omega)]
  case hb =>
    intro i hi
    simp only [Nat.mul_one, Sem.run_bind, run_part_int he xs i (by omega), run_part_int he ys i (by omega), run_underlying he, Result.andThen_ok]
    generalize xs.getD i 0 = x
    generalize ys.getD i 0 = y
    by_cases h : x = y
    · simp [h]
    · simp [h]
  simp only [List.drop_zero, Result.andThen_ok]
  by_cases h : xs = ys
  · simp [h]
  · simp [h]
theorem run_eql_ints {t e : TypeId} {n : Nat} (ht : P.underlying t = some (.array n e)) (he : P.underlying e = some (.int .i64)) (hs : (P.info? e).map (·.size) = some 1) (xs ys : List Int) (hx : xs.length = n) (hy : ys.length = n) :
    (binOp .eql t (.agg (nums .i64 xs).toArray) (.agg (nums .i64 ys).toArray)).run P w = .ok (.bool (decide (xs = ys))) w := by
  rw [run_eql_struct, run_equalIn_ints 9998 ht he hs xs ys hx hy]
  rfl
end
end Go.Proofs.Ytmdlhbhdlhjakaa

namespace Go.Proofs.Ytmdlhbhdlhjakaa
open Go.RowKit

def byteAt (s : ByteArray) (i : Nat) : Nat := if h : i < s.size then (s[i]'h).toNat else 0
theorem byteAt_lt (s : ByteArray) (i : Nat) : byteAt s i < 256 := by
  unfold byteAt
  split
  · exact UInt8.toNat_lt _
  · omega
theorem byteAt_get (s : ByteArray) (i : Nat) (h : i < s.size) : (s[i]'h).toNat = byteAt s i := by simp [byteAt, h]

/-- The bit of a place in bytes, the lowest of a byte ahead. -/
def bit (s : ByteArray) (p : Nat) : Nat := byteAt s (p / 8) / 2 ^ (p % 8) % 2
/-- The number of n bits from p on, the lowest ahead. -/
def val (f : Nat → Nat) (p : Nat) : Nat → Nat
  | 0 => 0
  | n + 1 => val f p n + 2 ^ n * f (p + n)
def IsBits (f : Nat → Nat) : Prop := ∀ i, f i ≤ 1
theorem bit_le (s : ByteArray) : IsBits (bit s) := fun p => by unfold bit; omega
theorem val_lt {f : Nat → Nat} (hf : IsBits f) (p : Nat) : ∀ n, val f p n < 2 ^ n
  | 0 => by simp [val]
  | n + 1 => by
    have h1 := val_lt hf p n
    have h2 := hf (p + n)
    rw [val, Nat.pow_succ]
    have : 2 ^ n * f (p + n) ≤ 2 ^ n * 1 := Nat.mul_le_mul_left _ h2
    omega
theorem val_add (f : Nat → Nat) (p a : Nat) : ∀ b, val f p (a + b) = val f p a + 2 ^ a * val f (p + a) b
  | 0 => by simp [val]
  | b + 1 => by
    rw [← Nat.add_assoc, val, val_add f p a b, val, Nat.mul_add, Nat.pow_add, Nat.add_assoc, Nat.mul_assoc, Nat.add_assoc p a b]
theorem val_mod {f : Nat → Nat} (hf : IsBits f) (p : Nat) {a n : Nat} (h : a ≤ n) : val f p n % 2 ^ a = val f p a := by
  obtain ⟨b, rfl⟩ := Nat.exists_eq_add_of_le h
  rw [val_add, Nat.add_mul_mod_self_left]
  exact Nat.mod_eq_of_lt (val_lt hf p a)
theorem val_div {f : Nat → Nat} (hf : IsBits f) (p : Nat) {a n : Nat} (h : a ≤ n) : val f p n / 2 ^ a = val f (p + a) (n - a) := by
  obtain ⟨b, rfl⟩ := Nat.exists_eq_add_of_le h
  rw [val_add, Nat.add_mul_div_left _ _ (Nat.two_pow_pos a), Nat.div_eq_of_lt (val_lt hf p a), Nat.add_sub_cancel_left, Nat.zero_add]
theorem val_congr {f g : Nat → Nat} {p q : Nat} : ∀ n, (∀ i, i < n → f (p + i) = g (q + i)) → val f p n = val g q n
  | 0, _ => rfl
  | n + 1, h => by rw [val, val, val_congr n (fun i hi => h i (by omega)), h n (by omega)]
theorem val_one (f : Nat → Nat) (p : Nat) : val f p 1 = f p := by simp [val]
/-- The number of digits to the base 2, back. -/
theorem val_digits (n : Nat) : ∀ k, val (fun j => n / 2 ^ j % 2) 0 k = n % 2 ^ k
  | 0 => by simp [val, Nat.mod_one]
  | k + 1 => by
    rw [val, val_digits n k, Nat.pow_succ, Nat.mod_mul, Nat.zero_add]
theorem val_byte (s : ByteArray) (i : Nat) : val (bit s) (8 * i) 8 = byteAt s i := by
  have h : val (bit s) (8 * i) 8 = val (fun j => byteAt s i / 2 ^ j % 2) 0 8 := by
    refine val_congr 8 fun j hj => ?_
    have h1 : (8 * i + j) / 8 = i := by omega
    have h2 : (8 * i + j) % 8 = j := by omega
    simp only [bit, h1, h2, Nat.zero_add]
  rw [h, val_digits]
  exact Nat.mod_eq_of_lt (byteAt_lt s i)

theorem val_push (s : ByteArray) {p m a : Nat} (ha : 8 * a = p + m) (h : a < s.size) : val (bit s) p m + (s[a]'h).toNat * 2 ^ m = val (bit s) p (m + 8) := by
  rw [val_add, byteAt_get s a h, ← val_byte s a, ha, Nat.mul_comm]

/-! ### The walk's operators on 64 bits -/
theorem wraps_i62 (n : Int) (h0 : 0 ≤ n) (h1 : n < 2 ^ 62) : IntKind.i64.wrap n = n := by rw [IntKind.wrap_i64]; omega
theorem wrap64_small {n : Int} (h0 : -9223372036854775808 ≤ n) (h1 : n ≤ 9223372036854775807) : wrap64 n = n := by unfold wrap64; omega
theorem bits_or_add (x y i : Nat) (hx : x < 2 ^ i) (hxy : x + y * 2 ^ i < 2 ^ 62) (hi : i ≤ 62) : bits .or .i64 (x : Int) (((y * 2 ^ i : Nat) : Int)) = ((x + y * 2 ^ i : Nat) : Int) := by
  have h1 : bits .or .i64 (x : Int) (((y * 2 ^ i : Nat) : Int)) = ((x ||| (y * 2 ^ i) : Nat) : Int) :=
    (bits_nat .i64 62 (by decide) (fun n a b => wraps_i62 n a b) x (y * 2 ^ i) (by omega) (by omega)).2
  rw [h1]
  congr 1
  rw [Nat.or_comm, Nat.mul_comm, ← Nat.two_pow_add_eq_or_of_lt hx y, Nat.add_comm]
theorem bits_and_mask (x i : Nat) (hx : x < 2 ^ 62) (hi : i ≤ 61) : bits .and .i64 (x : Int) (((2 ^ i - 1 : Nat) : Int)) = ((x % 2 ^ i : Nat) : Int) := by
  have hp : 2 ^ i ≤ 2 ^ 61 := Nat.pow_le_pow_right (by decide) hi
  have h1 : bits .and .i64 (x : Int) (((2 ^ i - 1 : Nat) : Int)) = ((x &&& (2 ^ i - 1) : Nat) : Int) :=
    (bits_nat .i64 62 (by decide) (fun n a b => wraps_i62 n a b) x (2 ^ i - 1) hx (by have := Nat.two_pow_pos i; omega)).1
  rw [h1, Nat.and_two_pow_sub_one_eq_mod]
end Go.Proofs.Ytmdlhbhdlhjakaa
