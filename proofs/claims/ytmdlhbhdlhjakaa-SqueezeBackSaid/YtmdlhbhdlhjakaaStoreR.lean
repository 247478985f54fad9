/- The contract of the document's answer for bytes that are deflated as they are: Stored. -/
import Derived.Test.YtmdlhbhdlhjakaaStoreW
import Derived.Lib.AppendStr
set_option linter.unusedVariables false
set_option linter.unusedSimpArgs false
namespace Go.Proofs.Ytmdlhbhdlhjakaa
open Go.RowKit

theorem strCells_bytes (s : ByteArray) : Go.Lib.strCells s = nums .u8 (castL (bytesOf s s.size)) := by
  apply List.ext_getElem
  · simp [Go.Lib.strCells_length, nums, castL, bytesOf]
  · intro i h1 h2
    have hi : i < s.size := by rwa [Go.Lib.strCells_length] at h1
    simp only [Go.Lib.strCells, nums, castL, bytesOf, List.getElem_map, List.getElem_range, byteAt, hi, dite_true]
    rfl
theorem bytesOf_take (s : ByteArray) {n : Nat} (h : n ≤ s.size) : bytesOf (s.extract 0 n) (s.extract 0 n).size = bytesOf s n := by
  have hs : (s.extract 0 n).size = n := by simp [ByteArray.size_extract]; omega
  rw [hs]
  refine List.map_congr_left fun i hi => ?_
  have hi := List.mem_range.1 hi
  simp only [byteAt, hs, hi, dite_true, show i < s.size by omega]
  congr 1
  rw [ByteArray.getElem_extract]
  simp
section
variable {P : Program} {ops : Array Oper} {rest : List Oper} {o : Oper} {a : Act} {Q : Exit → Act → World → Prop}
theorem wp_app_str {W : World} (base : Nat) (hgd : o.guard = none) (s x : Operand) (t u e : TypeId)
    (ho : o.op = .call { callee := .builtin .append, args := #[s, x], argTypes := #[t, u] })
    (ht : P.underlying t = some (.slice e)) (hu : P.underlying u = some .string) (hinfo : (P.info? e).map (fun i => (i.zero, i.size, i.bytes)) = some (some (.int .u8 0), 1, 1))
    (v : Value) (n : Nat) (xs : List Int) (y : ByteArray) (hs : a.eval s = v) (hx : a.eval x = .string y)
    (HO : W.ownsRow base e 1 v n (nums .u8 xs)) (hbase : base ≤ W.heap.size) (hl : n + y.size ≤ 140737488355328)
    (h : ∀ v1 w1, w1.ownsRow base e 1 v1 (n + y.size) (nums .u8 (xs ++ castL (bytesOf y y.size))) → W.grownBy w1 v.ownBlock → wpList P ops Q rest (a.put o.dst v1) w1) : wpList P ops Q (o :: rest) a W := by
  obtain ⟨i0, hi, hzz⟩ := Option.map_eq_some_iff.1 hinfo
  simp only [Prod.mk.injEq] at hzz
  obtain ⟨hz0, hz1, hz2⟩ := hzz
  obtain ⟨v1, w1, hr, hown, hg, _⟩ := Go.Lib.run_append_own_string (P := P) W base t u o.type e i0 ht hu hi hz0 hz1 hz2 v n (nums .u8 xs) HO y (by simp only [maxLen]; omega) hl hbase
  have e1 : nums .u8 xs ++ Go.Lib.strCells y = nums .u8 (xs ++ castL (bytesOf y y.size)) := by rw [strCells_bytes]; simp [nums]
  rw [e1] at hown
  refine wpList_plain hgd fun K hK => ?_
  unfold Oper.wp execOp
  simp only [ho, resolve, invoke, builtin, Sem.run_bind, Sem.run_pure, Result.andThen_ok, List.map_toArray, List.map_cons, List.map_nil, hs, hx, hr]
  exact hK _ _ (h v1 w1 hown hg)
end

theorem castL_append (a b : List Nat) : castL (a ++ b) = castL a ++ castL b := by simp [castL]
theorem blk_cast (last : Nat) {n : Nat} (h : n ≤ 65535) : castL (blkOf last n) = [(last : Int), (n : Int) % 256, (n : Int) / 256, (65535 - (n : Int)) % 256, (65535 - (n : Int)) / 256] := by
  have e : ((65535 - n : Nat) : Int) = 65535 - (n : Int) := by omega
  simp [castL, blkOf, e]
theorem row_blk {w : World} {base m : Nat} {e : TypeId} {v : Value} {bs : List Nat} {ys : List Int} {last n : Nat} (h : w.ownsRow base e 1 v m (nums .u8 (castL bs ++ ys))) (hy : castL (blkOf last n) = ys) (hm : m = bs.length + ys.length) :
    w.ownsRow base e 1 v (bs ++ blkOf last n).length (nums .u8 (castL (bs ++ blkOf last n))) := by
  rw [castL_append, hy]
  have : (bs ++ blkOf last n).length = m := by rw [hm, ← hy]; simp [castL]
  rw [this]; exact h
theorem row_str {w : World} {base m : Nat} {e : TypeId} {v : Value} {bs cs : List Nat} (h : w.ownsRow base e 1 v m (nums .u8 (castL bs ++ castL cs))) (hm : m = bs.length + cs.length) :
    w.ownsRow base e 1 v (bs ++ cs).length (nums .u8 (castL (bs ++ cs))) := by
  rw [castL_append]
  have : (bs ++ cs).length = m := by rw [hm]; simp
  rw [this]; exact h

set_option maxRecDepth 100000 in
set_option maxHeartbeats 1000000 in
theorem rstored_ok (s : ByteArray) (K : Nat) (w : World) (hs : s.size ≤ 65535 * K) (hK : 1 ≤ K) (hK2 : K ≤ 1000) :
    Calls Try.prog 26 #[.string s] w fun e w' => e = .returned (.string (strOfNums (castL (storedL K s)))) ∧ Below w.heap.size w w' := by
  obtain ⟨R, hR⟩ : ∃ R, R = storedL K s := ⟨_, rfl⟩
  rw [← hR]
  have HR := Sealed.mk hR
  clear hR
  go_enter Try.func26, Try.ntmps26
  go_wp2_with ((with_reducible refine gate_dst (N := 7) rfl ?_); refine ev_lit (cs := []) (t := 5) (n := 0) ?hg ?hr ?_; (case hg => rfl); (case hr => first | (go_simp; done) | (go_simp; rfl)); intro g1 w2 hg1 hb1 hB1 hs1; have G1 := Sealed.mk hg1; have B1 := Sealed.mk hb1; have L2 := Sealed.mk hB1; clear hg1 hb1 hB1 hs1)
  have HO2 : Sealed (w2.ownsRow w.heap.size 5 1 (.slice (some ⟨g1, 0, none⟩) 0 0) 0 (nums .u8 (castL []))) := ⟨B1.out.owns (by rw [G1.out]; exact Nat.le_refl _) (by decide)⟩
  have HC2 : Sealed (Chg w.heap.size [5] w w2) := ⟨Chg.of_below L2.out⟩
  clear L2 B1 G1
  go_simp
  go_loopg [0, 3] K (fun k s0 s3 w' => ∃ (t : ByteArray) (bs : List Nat), s0 = .string t ∧ Sealed (bs ++ storedL k t = R) ∧ Sealed (1 ≤ k) ∧ Sealed (t.size ≤ 65535 * k) ∧ Sealed (bs.length + t.size + 5 * k ≤ 100000000) ∧ Sealed (w'.ownsRow w.heap.size 5 1 s3 bs.length (nums .u8 (castL bs))) ∧ Sealed (Chg w.heap.size [5] w w'))
  case atStart => exact ⟨s, [], rfl, ⟨by rw [HR.out]; rfl⟩, ⟨hK⟩, ⟨hs⟩, ⟨by simp; omega⟩, HO2, HC2⟩
  case round =>
    clear HO2 HC2 hs
    obtain ⟨t, bs, rfl, HE, HK1, HS, HL, HO, HC⟩ := hrel
    obtain ⟨k, rfl⟩ : ∃ k, gk = k + 1 := ⟨gk - 1, by have := HK1.out; omega⟩
    by_cases hle : t.size ≤ 65535
    · have HBC := Sealed.mk (blk_cast 1 hle)
      have HYS : Sealed (t.size = t.size) := ⟨rfl⟩
      have HRE : Sealed (bs ++ blkOf 1 t.size ++ bytesOf t t.size = R) := ⟨by rw [← HE.out, storedL, if_pos hle, List.append_assoc]⟩
      go_wp2_with (first
        | ((with_reducible refine gate_dst (N := 31) rfl ?_); refine ev_lit (cs := nums .u8 [((1 : Nat) : Int), (t.size : Int) % 256, (t.size : Int) / 256, (65535 - (t.size : Int)) % 256, (65535 - (t.size : Int)) / 256]) (t := 5) (n := 5) ?hg ?hr ?_; (case hg => rfl); (case hr => first | (go_simp; done) | (go_simp; rfl)); intro g3 w3 hg3 hb3 hB3 hs3; have HR3 := Sealed.mk (blk_reads hb3 (by simp)); have HO3 := Sealed.mk (owns_below HO.out hB3); have HC3 := Sealed.mk (HC.out.below_step hB3); have HS3 : Sealed (w.heap.size ≤ w3.heap.size) := ⟨HC3.out.size⟩; clear hg3 hb3 hB3 hs3)
        | ((with_reducible refine gate_dst (N := 32) rfl ?_); refine wp_app_row w.heap.size rfl (.tmp 17) (.tmp 31) 41 5 .u8 1 rfl Try.underlying41 info_u8 (by decide) _ bs.length _ _ _ _ rfl rfl HO3.out HR3.out HS3.out (by have := HL.out; simp; omega) ?_; intro v4 w4 ho4 hg4; have HO4 := Sealed.mk (row_blk (last := 1) (n := t.size) ho4 HBC.out rfl); have HC4 := Sealed.mk (HC3.out.grown HO3.out (Nat.le_refl _) (by simp) hg4); have HS4 : Sealed (w.heap.size ≤ w4.heap.size) := ⟨HC4.out.size⟩; clear ho4 hg4)
        | ((with_reducible refine gate_dst (N := 37) rfl ?_); refine wp_app_str w.heap.size rfl (.tmp 33) (.tmp 36) 41 9 5 rfl Try.underlying41 Try.underlying9 info_u8 _ _ _ t rfl rfl HO4.out HS4.out (by have := HL.out; rw [HYS.out, List.length_append]; simp [blkOf]; omega) ?_; intro v5 w5 ho5 hg5; have HC5 := Sealed.mk (HC4.out.grown HO4.out (Nat.le_refl _) (by simp) hg5); have ho6 := row_str ho5 (by rw [bytesOf_len]); rw [HRE.out] at ho6; obtain ⟨A5, c5, hv5⟩ := own_slice ho6; subst hv5; have hcv := run_own_string (P := Try.prog) (src := 41) (dst := 9) Try.underlying41 Try.underlying5 Try.underlying9 ho6; clear ho5 hg5 ho6))
      go_ret
      exact ⟨rfl, HC5.out.to_below⟩
    · have hgt : 65535 < t.size := by omega
      have HBC := Sealed.mk (blk_cast 0 (n := 65535) (by omega))
      have HYS : Sealed ((t.extract 0 65535).size = 65535) := ⟨by simp [ByteArray.size_extract]; omega⟩
      have hne : ((65535 : Int) == (t.size : Int)) = false := by simp; omega
      have HTS : Sealed ((t.extract 65535 t.size).size = t.size - 65535) := ⟨by simp [ByteArray.size_extract]⟩
      have HE2 : Sealed (bs ++ (blkOf 0 65535 ++ bytesOf t 65535 ++ storedL k (t.extract 65535 t.size)) = R) := ⟨by rw [← HE.out, storedL, if_neg hle]⟩
      have HBT : Sealed (bytesOf (t.extract 0 65535) (t.extract 0 65535).size = bytesOf t 65535) := ⟨bytesOf_take t (by omega)⟩
      clear hle
      go_wp2_with (first
        | ((with_reducible refine gate_dst (N := 31) rfl ?_); refine ev_lit (cs := nums .u8 [((0 : Nat) : Int), ((65535 : Nat) : Int) % 256, ((65535 : Nat) : Int) / 256, (65535 - ((65535 : Nat) : Int)) % 256, (65535 - ((65535 : Nat) : Int)) / 256]) (t := 5) (n := 5) ?hg ?hr ?_; (case hg => rfl); (case hr => first | (go_simp; done) | (go_simp; rfl)); intro g3 w3 hg3 hb3 hB3 hs3; have HR3 := Sealed.mk (blk_reads hb3 (by simp)); have HO3 := Sealed.mk (owns_below HO.out hB3); have HC3 := Sealed.mk (HC.out.below_step hB3); have HS3 : Sealed (w.heap.size ≤ w3.heap.size) := ⟨HC3.out.size⟩; clear hg3 hb3 hB3 hs3)
        | ((with_reducible refine gate_dst (N := 32) rfl ?_); refine wp_app_row w.heap.size rfl (.tmp 17) (.tmp 31) 41 5 .u8 1 rfl Try.underlying41 info_u8 (by decide) _ bs.length _ _ _ _ rfl rfl HO3.out HR3.out HS3.out (by have := HL.out; simp; omega) ?_; intro v4 w4 ho4 hg4; have HO4 := Sealed.mk (row_blk (last := 0) (n := 65535) ho4 HBC.out rfl); have HC4 := Sealed.mk (HC3.out.grown HO3.out (Nat.le_refl _) (by simp) hg4); have HS4 : Sealed (w.heap.size ≤ w4.heap.size) := ⟨HC4.out.size⟩; clear ho4 hg4)
        | ((with_reducible refine gate_dst (N := 37) rfl ?_); refine wp_app_str w.heap.size rfl (.tmp 33) (.tmp 36) 41 9 5 rfl Try.underlying41 Try.underlying9 info_u8 _ _ _ (t.extract 0 65535) rfl rfl HO4.out HS4.out (by have := HL.out; rw [HYS.out, List.length_append]; simp [blkOf]; omega) ?_; intro v5 w5 ho5 hg5; have HC5 := Sealed.mk (HC4.out.grown HO4.out (Nat.le_refl _) (by simp) hg5); rw [HBT.out, HYS.out] at ho5; have HO6 := Sealed.mk (row_str ho5 (by rw [bytesOf_len])); clear ho5 hg5))
      go_roundg k
      case measure => omega
      case rel =>
        have h1 := HTS.out
        have h2 := HS.out
        have h3 := HL.out
        refine ⟨t.extract 65535 t.size, bs ++ blkOf 0 65535 ++ bytesOf t 65535, rfl, ⟨?_⟩, ⟨?_⟩, ⟨?_⟩, ⟨?_⟩, HO6, HC5⟩
        · rw [← HE2.out]; simp only [List.append_assoc]
        · omega
        · omega
        · simp only [List.length_append, bytesOf_len]; simp [blkOf]; omega
end Go.Proofs.Ytmdlhbhdlhjakaa
