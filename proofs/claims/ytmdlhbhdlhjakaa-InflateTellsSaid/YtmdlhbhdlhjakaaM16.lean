/- The contract of the document's answer for bytes that are deflated as they are: Stored. The inflater's memory; the contracts of room, told, lengths, distances, order. -/
import Derived.Lib.AppendStr
import Derived.Test.YtmdlhbhdlhjakaaM10
import Derived.Deep.RegionHeld3
import Derived.Test.YtmdlhbhdlhjakaaM15
set_option linter.unusedVariables false
set_option linter.unusedSimpArgs false
namespace Go.Proofs.Ytmdlhbhdlhjakaa
open Go.RowKit

theorem strCells_bytes (s : ByteArray) : Go.Lib.strCells s = nums .u8 (castL (bytesOf s s.size)) := by
  apply List.ext_getElem
  · simp [Go.Lib.strCells_length, nums, castL, bytesOf]
  · intro i h1 h2
    have hi : i < s.size := by rwa [Go.Lib.strCells_length] at h1
    simp only [Go.Lib.strCells, nums, castL, bytesOf, List.getElem_map, List.getElem_range, byteAt, hi, dite_true]
    rfl
theorem bytesOf_take (s : ByteArray) {n : Nat} (h : n ≤ s.size) : bytesOf (s.extract 0 n) (s.extract 0 n).size = bytesOf s n := by
  have hs : (s.extract 0 n).size = n := by simp [ByteArray.size_extract]; omega
  rw [hs]
  refine List.map_congr_left fun i hi => ?_
  have hi := List.mem_range.1 hi
  simp only [byteAt, hs, hi, dite_true, show i < s.size by omega]
  congr 1
  rw [ByteArray.getElem_extract]
  simp
section
variable {P : Program} {ops : Array Oper} {rest : List Oper} {o : Oper} {a : Act} {Q : Exit → Act → World → Prop}
theorem wp_app_str {W : World} (base : Nat) (hgd : o.guard = none) (s x : Operand) (t u e : TypeId)
    (ho : o.op = .call { callee := .builtin .append, args := #[s, x], argTypes := #[t, u] })
    (ht : P.underlying t = some (.slice e)) (hu : P.underlying u = some .string) (hinfo : (P.info? e).map (fun i => (i.zero, i.size, i.bytes)) = some (some (.int .u8 0), 1, 1))
    (v : Value) (n : Nat) (xs : List Int) (y : ByteArray) (hs : a.eval s = v) (hx : a.eval x = .string y)
    (HO : W.ownsRow base e 1 v n (nums .u8 xs)) (hbase : base ≤ W.heap.size) (hl : n + y.size ≤ 140737488355328)
    (h : ∀ v1 w1, w1.ownsRow base e 1 v1 (n + y.size) (nums .u8 (xs ++ castL (bytesOf y y.size))) → W.grownBy w1 v.ownBlock → wpList P ops Q rest (a.put o.dst v1) w1) : wpList P ops Q (o :: rest) a W := by
  obtain ⟨i0, hi, hzz⟩ := Option.map_eq_some_iff.1 hinfo
  simp only [Prod.mk.injEq] at hzz
  obtain ⟨hz0, hz1, hz2⟩ := hzz
  obtain ⟨v1, w1, hr, hown, hg, _⟩ := Go.Lib.run_append_own_string (P := P) W base t u o.type e i0 ht hu hi hz0 hz1 hz2 v n (nums .u8 xs) HO y (by simp only [maxLen]; omega) hl hbase
  have e1 : nums .u8 xs ++ Go.Lib.strCells y = nums .u8 (xs ++ castL (bytesOf y y.size)) := by rw [strCells_bytes]; simp [nums]
  rw [e1] at hown
  refine wpList_plain hgd fun K hK => ?_
  unfold Oper.wp execOp
  simp only [ho, resolve, invoke, builtin, Sem.run_bind, Sem.run_pure, Result.andThen_ok, List.map_toArray, List.map_cons, List.map_nil, hs, hx, hr]
  exact hK _ _ (h v1 w1 hown hg)
end

theorem castL_append (a b : List Nat) : castL (a ++ b) = castL a ++ castL b := by simp [castL]
theorem blk_cast (last : Nat) {n : Nat} (h : n ≤ 65535) : castL (blkOf last n) = [(last : Int), (n : Int) % 256, (n : Int) / 256, (65535 - (n : Int)) % 256, (65535 - (n : Int)) / 256] := by
  have e : ((65535 - n : Nat) : Int) = 65535 - (n : Int) := by omega
  simp [castL, blkOf, e]
theorem row_blk {w : World} {base m : Nat} {e : TypeId} {v : Value} {bs : List Nat} {ys : List Int} {last n : Nat} (h : w.ownsRow base e 1 v m (nums .u8 (castL bs ++ ys))) (hy : castL (blkOf last n) = ys) (hm : m = bs.length + ys.length) :
    w.ownsRow base e 1 v (bs ++ blkOf last n).length (nums .u8 (castL (bs ++ blkOf last n))) := by
  rw [castL_append, hy]
  have : (bs ++ blkOf last n).length = m := by rw [hm, ← hy]; simp [castL]
  rw [this]; exact h
theorem row_str {w : World} {base m : Nat} {e : TypeId} {v : Value} {bs cs : List Nat} (h : w.ownsRow base e 1 v m (nums .u8 (castL bs ++ castL cs))) (hm : m = bs.length + cs.length) :
    w.ownsRow base e 1 v (bs ++ cs).length (nums .u8 (castL (bs ++ cs))) := by
  rw [castL_append]
  have : (bs ++ cs).length = m := by rw [hm]; simp
  rw [this]; exact h

set_option maxRecDepth 100000 in
set_option maxHeartbeats 1000000 in
theorem rstored_ok (s : ByteArray) (K : Nat) (w : World) (hs : s.size ≤ 65535 * K) (hK : 1 ≤ K) (hK2 : K ≤ 1000) :
    Calls Try.prog 26 #[.string s] w fun e w' => e = .returned (.string (strOfNums (castL (storedL K s)))) ∧ Below w.heap.size w w' := by
  obtain ⟨R, hR⟩ : ∃ R, R = storedL K s := ⟨_, rfl⟩
  rw [← hR]
  have HR := Sealed.mk hR
  clear hR
  go_enter Try.func26, Try.ntmps26
  go_wp2_with ((with_reducible refine gate_dst (N := 7) rfl ?_); refine ev_lit (cs := []) (t := 5) (n := 0) ?hg ?hr ?_; (case hg => rfl); (case hr => first | (go_simp; done) | (go_simp; rfl)); intro g1 w2 hg1 hb1 hB1 hs1; have G1 := Sealed.mk hg1; have B1 := Sealed.mk hb1; have L2 := Sealed.mk hB1; clear hg1 hb1 hB1 hs1)
  have HO2 : Sealed (w2.ownsRow w.heap.size 5 1 (.slice (some ⟨g1, 0, none⟩) 0 0) 0 (nums .u8 (castL []))) := ⟨B1.out.owns (by rw [G1.out]; exact Nat.le_refl _) (by decide)⟩
  have HC2 : Sealed (Chg w.heap.size [5] w w2) := ⟨Chg.of_below L2.out⟩
  clear L2 B1 G1
  go_simp
  go_loopg [0, 3] K (fun k s0 s3 w' => ∃ (t : ByteArray) (bs : List Nat), s0 = .string t ∧ Sealed (bs ++ storedL k t = R) ∧ Sealed (1 ≤ k) ∧ Sealed (t.size ≤ 65535 * k) ∧ Sealed (bs.length + t.size + 5 * k ≤ 100000000) ∧ Sealed (w'.ownsRow w.heap.size 5 1 s3 bs.length (nums .u8 (castL bs))) ∧ Sealed (Chg w.heap.size [5] w w'))
  case atStart => exact ⟨s, [], rfl, ⟨by rw [HR.out]; rfl⟩, ⟨hK⟩, ⟨hs⟩, ⟨by simp; omega⟩, HO2, HC2⟩
  case round =>
    clear HO2 HC2 hs
    obtain ⟨t, bs, rfl, HE, HK1, HS, HL, HO, HC⟩ := hrel
    obtain ⟨k, rfl⟩ : ∃ k, gk = k + 1 := ⟨gk - 1, by have := HK1.out; omega⟩
    by_cases hle : t.size ≤ 65535
    · have HBC := Sealed.mk (blk_cast 1 hle)
      have HYS : Sealed (t.size = t.size) := ⟨rfl⟩
      have HRE : Sealed (bs ++ blkOf 1 t.size ++ bytesOf t t.size = R) := ⟨by rw [← HE.out, storedL, if_pos hle, List.append_assoc]⟩
      go_wp2_with (first
        | ((with_reducible refine gate_dst (N := 31) rfl ?_); refine ev_lit (cs := nums .u8 [((1 : Nat) : Int), (t.size : Int) % 256, (t.size : Int) / 256, (65535 - (t.size : Int)) % 256, (65535 - (t.size : Int)) / 256]) (t := 5) (n := 5) ?hg ?hr ?_; (case hg => rfl); (case hr => first | (go_simp; done) | (go_simp; rfl)); intro g3 w3 hg3 hb3 hB3 hs3; have HR3 := Sealed.mk (blk_reads hb3 (by simp)); have HO3 := Sealed.mk (owns_below HO.out hB3); have HC3 := Sealed.mk (HC.out.below_step hB3); have HS3 : Sealed (w.heap.size ≤ w3.heap.size) := ⟨HC3.out.size⟩; clear hg3 hb3 hB3 hs3)
        | ((with_reducible refine gate_dst (N := 32) rfl ?_); refine wp_app_row w.heap.size rfl (.tmp 17) (.tmp 31) 41 5 .u8 1 rfl Try.underlying41 info_u8 (by decide) _ bs.length _ _ _ _ rfl rfl HO3.out HR3.out HS3.out (by have := HL.out; simp; omega) ?_; intro v4 w4 ho4 hg4; have HO4 := Sealed.mk (row_blk (last := 1) (n := t.size) ho4 HBC.out rfl); have HC4 := Sealed.mk (HC3.out.grown HO3.out (Nat.le_refl _) (by simp) hg4); have HS4 : Sealed (w.heap.size ≤ w4.heap.size) := ⟨HC4.out.size⟩; clear ho4 hg4)
        | ((with_reducible refine gate_dst (N := 37) rfl ?_); refine wp_app_str w.heap.size rfl (.tmp 33) (.tmp 36) 41 9 5 rfl Try.underlying41 Try.underlying9 info_u8 _ _ _ t rfl rfl HO4.out HS4.out (by have := HL.out; rw [HYS.out, List.length_append]; simp [blkOf]; omega) ?_; intro v5 w5 ho5 hg5; have HC5 := Sealed.mk (HC4.out.grown HO4.out (Nat.le_refl _) (by simp) hg5); have ho6 := row_str ho5 (by rw [bytesOf_len]); rw [HRE.out] at ho6; obtain ⟨A5, c5, hv5⟩ := own_slice ho6; subst hv5; have hcv := run_own_string (P := Try.prog) (src := 41) (dst := 9) Try.underlying41 Try.underlying5 Try.underlying9 ho6; clear ho5 hg5 ho6))
      go_ret
      exact ⟨rfl, HC5.out.to_below⟩
    · have hgt : 65535 < t.size := by omega
      have HBC := Sealed.mk (blk_cast 0 (n := 65535) (by omega))
      have HYS : Sealed ((t.extract 0 65535).size = 65535) := ⟨by simp [ByteArray.size_extract]; omega⟩
      have hne : ((65535 : Int) == (t.size : Int)) = false := by simp; omega
      have HTS : Sealed ((t.extract 65535 t.size).size = t.size - 65535) := ⟨by simp [ByteArray.size_extract]⟩
      have HE2 : Sealed (bs ++ (blkOf 0 65535 ++ bytesOf t 65535 ++ storedL k (t.extract 65535 t.size)) = R) := ⟨by rw [← HE.out, storedL, if_neg hle]⟩
      have HBT : Sealed (bytesOf (t.extract 0 65535) (t.extract 0 65535).size = bytesOf t 65535) := ⟨bytesOf_take t (by omega)⟩
      clear hle
      go_wp2_with (first
        | ((with_reducible refine gate_dst (N := 31) rfl ?_); refine ev_lit (cs := nums .u8 [((0 : Nat) : Int), ((65535 : Nat) : Int) % 256, ((65535 : Nat) : Int) / 256, (65535 - ((65535 : Nat) : Int)) % 256, (65535 - ((65535 : Nat) : Int)) / 256]) (t := 5) (n := 5) ?hg ?hr ?_; (case hg => rfl); (case hr => first | (go_simp; done) | (go_simp; rfl)); intro g3 w3 hg3 hb3 hB3 hs3; have HR3 := Sealed.mk (blk_reads hb3 (by simp)); have HO3 := Sealed.mk (owns_below HO.out hB3); have HC3 := Sealed.mk (HC.out.below_step hB3); have HS3 : Sealed (w.heap.size ≤ w3.heap.size) := ⟨HC3.out.size⟩; clear hg3 hb3 hB3 hs3)
        | ((with_reducible refine gate_dst (N := 32) rfl ?_); refine wp_app_row w.heap.size rfl (.tmp 17) (.tmp 31) 41 5 .u8 1 rfl Try.underlying41 info_u8 (by decide) _ bs.length _ _ _ _ rfl rfl HO3.out HR3.out HS3.out (by have := HL.out; simp; omega) ?_; intro v4 w4 ho4 hg4; have HO4 := Sealed.mk (row_blk (last := 0) (n := 65535) ho4 HBC.out rfl); have HC4 := Sealed.mk (HC3.out.grown HO3.out (Nat.le_refl _) (by simp) hg4); have HS4 : Sealed (w.heap.size ≤ w4.heap.size) := ⟨HC4.out.size⟩; clear ho4 hg4)
        | ((with_reducible refine gate_dst (N := 37) rfl ?_); refine wp_app_str w.heap.size rfl (.tmp 33) (.tmp 36) 41 9 5 rfl Try.underlying41 Try.underlying9 info_u8 _ _ _ (t.extract 0 65535) rfl rfl HO4.out HS4.out (by have := HL.out; rw [HYS.out, List.length_append]; simp [blkOf]; omega) ?_; intro v5 w5 ho5 hg5; have HC5 := Sealed.mk (HC4.out.grown HO4.out (Nat.le_refl _) (by simp) hg5); rw [HBT.out, HYS.out] at ho5; have HO6 := Sealed.mk (row_str ho5 (by rw [bytesOf_len])); clear ho5 hg5))
      go_roundg k
      case measure => omega
      case rel =>
        have h1 := HTS.out
        have h2 := HS.out
        have h3 := HL.out
        refine ⟨t.extract 65535 t.size, bs ++ blkOf 0 65535 ++ bytesOf t 65535, rfl, ⟨?_⟩, ⟨?_⟩, ⟨?_⟩, ⟨?_⟩, HO6, HC5⟩
        · rw [← HE2.out]; simp only [List.append_assoc]
        · omega
        · omega
        · simp only [List.length_append, bytesOf_len]; simp [blkOf]; omega
end Go.Proofs.Ytmdlhbhdlhjakaa

namespace Go.Proofs.Ytmdlhbhdlhjakaa
open Go.RowKit

/-- The inflater at block gx, its reader at gr: p bits were read, the bytes o came out. -/
def InfSt (B : Nat) (w : World) (gx gr : Nat) (s : ByteArray) (most p : Nat) (o : List Nat) : Prop :=
  B ≤ gx ∧ B ≤ gr ∧ B ≤ w.heap.size ∧ (∃ v, IsBlk w gx [.pointer (some ⟨gr, 0, none⟩), v, .int .i64 most] 97 ∧ w.ownsRow B 5 1 v o.length (nums .u8 (castL o))) ∧ RdSt w gr s p ∧ ∀ x ∈ o, x < 256
section
variable {B : Nat} {w w' : World} {gx gr : Nat} {s : ByteArray} {most p : Nat} {o : List Nat}
theorem InfSt.rd (h : InfSt B w gx gr s most p o) : RdSt w gr s p := h.2.2.2.2.1
theorem InfSt.lt (h : InfSt B w gx gr s most p o) : ∀ x ∈ o, x < 256 := h.2.2.2.2.2
theorem InfSt.parts (h : InfSt B w gx gr s most p o) : ∃ A c, IsBlk w gx [.pointer (some ⟨gr, 0, none⟩), .slice A o.length c, .int .i64 most] 97 ∧ w.ownsRow B 5 1 (.slice A o.length c) o.length (nums .u8 (castL o)) := by
  obtain ⟨_, _, _, ⟨v, hb, ho⟩, _⟩ := h
  obtain ⟨A, c, rfl⟩ := own_slice ho
  exact ⟨A, c, hb, ho⟩
/-- Something was read. -/
theorem InfSt.read (h : InfSt B w gx gr s most p o) {q : Nat} (hr : RdSt w' gr s q) (hc : Chg gr [73] w w') : InfSt B w' gx gr s most q o := by
  obtain ⟨h1, h2, h3, ⟨v, hb, ho⟩, _, hl⟩ := h
  exact ⟨h1, h2, Nat.le_trans h3 hc.size, ⟨v, hb.chg hc (.inr (by decide)), owns_chg ho hc (by decide)⟩, hr, hl⟩
/-- Something else has changed. -/
theorem InfSt.chg (h : InfSt B w gx gr s most p o) {C : Nat} {T : List TypeId} (hc : Chg C T w w') (h1 : 97 ∉ T) (h2 : 73 ∉ T) (h3 : 5 ∉ T) : InfSt B w' gx gr s most p o := by
  obtain ⟨a1, a2, a3, ⟨v, hb, ho⟩, hr, hl⟩ := h
  exact ⟨a1, a2, Nat.le_trans a3 hc.size, ⟨v, hb.chg hc (.inr h1), owns_chg ho hc h3⟩, hr.chg hc (.inr h2), hl⟩
theorem InfSt.below (h : InfSt B w gx gr s most p o) (hb : Below w.heap.size w w') : InfSt B w' gx gr s most p o := h.chg (T := []) (Chg.of_below (B := 0) hb) (by simp) (by simp) (by simp)
theorem InfSt.drew (h : InfSt B w gx gr s most p o) : InfSt B w.drew gx gr s most p o := h.chg (T := []) (Chg.refl 0 [] w).drew (by simp) (by simp) (by simp)
theorem InfSt.drewN (h : InfSt B w gx gr s most p o) (n : Nat) : InfSt B (w.drewN n) gx gr s most p o := h.chg (T := []) ((Chg.refl 0 [] w).drewN n) (by simp) (by simp) (by simp)
/-- More has come out. -/
theorem InfSt.grow (h : InfSt B w gx gr s most p o) {A : Option Addr} {c : Nat} {v1 : Value} {ys : List Nat} {m : Nat} (hm : m = o.length + ys.length) (ho : w.ownsRow B 5 1 (.slice A o.length c) o.length (nums .u8 (castL o))) (hb : IsBlk w gx [.pointer (some ⟨gr, 0, none⟩), .slice A o.length c, .int .i64 most] 97)
    (ho1 : w'.ownsRow B 5 1 v1 m (nums .u8 (castL o ++ castL ys))) (hg : w.grownBy w' (Value.slice A o.length c).ownBlock) (hy : ∀ x ∈ ys, x < 256) :
    IsBlk w' gx [.pointer (some ⟨gr, 0, none⟩), .slice A o.length c, .int .i64 most] 97 ∧ InfSt B (w'.setCell ⟨gx, 1, none⟩ v1) gx gr s most p (o ++ ys) ∧ Chg B [97, 5] w (w'.setCell ⟨gx, 1, none⟩ v1) := by
  subst hm
  obtain ⟨a1, a2, a3, _, hr, hl⟩ := h
  have hb1 := hb.grown hg (hb.own_ne ho (by decide))
  have hst := (Chg.refl B [97] w').set hb1 a1 (by simp) 1 v1
  have hg1 := (Chg.refl B [5] w).grown ho (Nat.le_refl _) (by simp) hg
  have hall : Chg B [97, 5] w (w'.setCell ⟨gx, 1, none⟩ v1) := (hg1.mono (Nat.le_refl _) (by simp)).trans (hst.mono (Nat.le_refl _) (by simp))
  refine ⟨hb1, ⟨a1, a2, Nat.le_trans a3 hall.size, ⟨v1, hb1.set 1 v1, ?_⟩, hr.chg hall (.inr (by decide)), ?_⟩, hall⟩
  · have := owns_chg ho1 hst (by decide)
    rw [castL_append, List.length_append]; exact this
  · intro x hx
    rcases List.mem_append.1 hx with hx | hx
    · exact hl x hx
    · exact hy x hx
end
theorem ret_two' {a b a' b' : Int} (h1 : a = a') (h2 : b = b') : Ending.returned (Value.tuple #[.int .i64 a, .int .i64 b]) = Ending.returned (Value.tuple #[.int .i64 a', .int .i64 b']) := by subst h1 h2; rfl
/-- What a call of the inflater's has changed. -/
abbrev InfChg (B : Nat) (w w' : World) : Prop := Chg B [97, 73, 5] w w'

theorem room_ok {B : Nat} {w : World} {gx gr : Nat} {s : ByteArray} {most p : Nat} {o : List Nat} (h : InfSt B w gx gr s most p o) (n : Nat) (hn : n ≤ 1000000000) (hm : most ≤ 1000000000) (hl : o.length ≤ 1000000000) {N : Int} (hN : N = (n : Int)) :
    Calls Try.prog 114 #[.pointer (some ⟨gx, 0, none⟩), .int .i64 N] w fun e w' => e = .returned (.int .i64 (if most < o.length + n then 7 else 0)) ∧ ∃ m, w' = w.drewN m := by
  subst hN
  obtain ⟨A, c, hb, ho⟩ := h.parts
  have c1 := hb.cell 1 rfl
  have c2 := hb.cell 2 rfl
  clear hb ho h
  by_cases hc : most < o.length + n
  · rw [if_pos hc]
    have hd : decide ((most : Int) - (o.length : Int) < (n : Int)) = true := decide_eq_true (by omega)
    clear hc
    go_enter Try.func114, Try.ntmps114
    go_wp2
    go_quiet (fail)
    go_wp2
    go_ret
    exact ⟨rfl, _, rfl⟩
  · rw [if_neg hc]
    have hd : decide ((most : Int) - (o.length : Int) < (n : Int)) = false := decide_eq_false (by omega)
    clear hc
    go_enter Try.func114, Try.ntmps114
    go_wp2
    go_quiet (fail)
    go_wp2
    go_ret
    exact ⟨rfl, _, rfl⟩

/-- The error of what was told. -/
def errOf {α : Type} : Except Nat α → Nat
  | .error e => e
  | .ok _ => 0
def valOf (d : Nat) : Except Nat (Nat × Nat) → Nat
  | .error _ => d
  | .ok x => x.1
def posOf (p : Nat) : Except Nat (Nat × Nat) → Nat
  | .error _ => p
  | .ok x => x.2
theorem get_any {w : World} {g : Nat} {s : ByteArray} {p : Nat} (h : RdSt w g s p) (hs : s.size ≤ 140737488355328) (d : Nat) (hd : d ≤ 16) :
    Calls Try.prog 44 #[.pointer (some ⟨g, 0, none⟩), .int .i64 d] w fun e w' => e = .returned (.tuple #[.int .i64 (valOf 0 (getS s p d)), .int .i64 (errOf (getS s p d))]) ∧ Chg g [73] w w' ∧ RdSt w' g s (posOf p (getS s p d)) := by
  unfold getS
  by_cases c : p + d ≤ 8 * s.size
  · rw [if_pos c]; exact get_ok h hs d hd c
  · rw [if_neg c]; exact get_short h hs d hd (by omega)
set_option maxRecDepth 100000 in
theorem told_ok {B : Nat} {w : World} {gx gr : Nat} {s : ByteArray} {most p : Nat} {o : List Nat} (h : InfSt B w gx gr s most p o) (hs : s.size ≤ 140737488355328) (a b : Nat) (ha : a ≤ 100000) (hb : b ≤ 16) :
    Calls Try.prog 128 #[.pointer (some ⟨gx, 0, none⟩), .agg #[.int .i64 a, .int .i64 b]] w fun e w' => e = .returned (.tuple #[.int .i64 (valOf a (toldS s (a, b) p)), .int .i64 (errOf (toldS s (a, b) p))]) ∧ InfSt B w' gx gr s most (posOf p (toldS s (a, b) p)) o ∧ InfChg B w w' := by
  have e1 : valOf a (toldS s (a, b) p) = a + valOf 0 (getS s p b) := by
    unfold toldS; cases getS s p b <;> rfl
  have e2 : errOf (toldS s (a, b) p) = errOf (getS s p b) := by
    unfold toldS; cases getS s p b <;> rfl
  have e3 : posOf p (toldS s (a, b) p) = posOf p (getS s p b) := by
    unfold toldS; cases getS s p b <;> rfl
  rw [e1, e2, e3]
  have hv : valOf 0 (getS s p b) ≤ 65536 := by
    cases hg : getS s p b with
    | error e => simp [valOf]
    | ok x =>
      obtain ⟨n, q⟩ := x
      have h1 := (getS_ok hg).2.2
      have h2 := val_lt (bit_le s) p b
      have h3 : 2 ^ b ≤ 2 ^ 16 := Nat.pow_le_pow_right (by decide) hb
      simp only [valOf]; omega
  have HG : Sealed (∀ w', RdSt w' gr s p → Calls Try.prog 44 #[.pointer (some ⟨gr, 0, none⟩), .int .i64 b] w' fun e w'' => e = .returned (.tuple #[.int .i64 (valOf 0 (getS s p b)), .int .i64 (errOf (getS s p b))]) ∧ Chg gr [73] w' w'' ∧ RdSt w'' gr s (posOf p (getS s p b))) := ⟨fun w' h => get_any h hs b hb⟩
  generalize valOf 0 (getS s p b) = V at *
  generalize errOf (getS s p b) = E at *
  generalize posOf p (getS s p b) = P at *
  have H := Sealed.mk h
  clear h e1 e2 e3
  go_enter Try.func128, Try.ntmps128
  go_wp2_with ((with_reducible refine gate_dst (N := 3) rfl ?_); refine ev_box (cs := [.int .i64 a, .int .i64 b]) (t := 164) ?hg ?hr ?_; (case hg => rfl); (case hr => first | (go_simp; done) | (go_simp; rfl)); intro g1 w1 hg1 hb1 hB1 hs1; have B1 := Sealed.mk hb1; have H1 := Sealed.mk (H.out.below hB1); have C1 : Sealed (InfChg B w w1) := ⟨Chg.of_below hB1⟩; clear hg1 hb1 hB1 hs1)
  obtain ⟨A, c, hb0, _⟩ := H1.out.parts
  have x0 := hb0.cell 0 rfl
  have y0 := B1.out.cell 0 rfl
  have y1 := B1.out.cell 1 rfl
  clear H
  go_wp2
  go_region_held3 (fun w' => w'.cell? ⟨gx, 0, none⟩ = some (.pointer (some ⟨gr, 0, none⟩)) ∧ w'.cell? ⟨g1, 1, none⟩ = some (.int .i64 b)) (first | go_keep | exact ⟨‹_›, ‹_›⟩)
    (first | (go_at_call 44; refine (HG.out _ H1.out.drew.rd).mono ?_; rintro e w2 ⟨rfl, hc, hr⟩; have C2 : Sealed (InfChg B w w2) := ⟨C1.out.drew.trans (hc.mono H1.out.2.1 (by simp))⟩; have z0 := (B1.out.drew.chg hc (.inr (by decide))).cell 0 rfl; have z1 := (B1.out.drew.chg hc (.inr (by decide))).cell 1 rfl; have k0 := (hb0.drew.chg hc (.inr (by decide))).cell 0 rfl; have H2 := Sealed.mk (H1.out.drew.read hr hc); clear hc hr))
  clear x0 y0 y1 z1 k0 hb0 H1 C1 B1
  go_wp2
  go_ret2
  exact ⟨ret_two' (by omega) rfl, H2.out, C2.out⟩
end Go.Proofs.Ytmdlhbhdlhjakaa
