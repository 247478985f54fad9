/- '==' of two arrays of int is the equality of what they hold. -/
import Derived.Test.YtmdlhbhdlhjakaaBase
import Derived.Laws.StructEq
set_option linter.unusedVariables false
set_option linter.unusedSimpArgs false
namespace Go.Proofs.Ytmdlhbhdlhjakaa
open Go.RowKit

section
variable {P : Program} {w : World}
theorem run_part_int {e : TypeId} (he : P.underlying e = some (.int .i64)) (xs : List Int) (i : Nat) (hi : i < xs.length) : (part e (nums .i64 xs).toArray i).run P w = .ok (.int .i64 (xs.getD i 0)) w := by
  have hg : (nums .i64 xs).toArray[i]? = some (.int .i64 (xs.getD i 0)) := by simpa using nums_get (k := .i64) hi
  unfold part
  simp only [isAgg, Sem.run_bind, run_underlying he, Result.andThen_ok, Sem.run_pure, Bool.false_eq_true, if_false, hg]
theorem run_for_eq (xs ys : List Int) (body : Nat → Option Bool × Unit → Sem (ForInStep (Option Bool × Unit))) (n : Nat) (hx : xs.length = n) (hy : ys.length = n)
    (hb : ∀ i, i < n → (body i (none, ())).run P w = .ok (if xs.getD i 0 = ys.getD i 0 then .yield (none, ()) else .done (some false, ())) w) :
    ∀ m s, s + m = n → (forIn (List.range' s m) ((none : Option Bool), ()) body).run P w = .ok (if xs.drop s = ys.drop s then (none, ()) else (some false, ())) w
  | 0, s, h => by
    rw [List.drop_of_length_le (by omega), List.drop_of_length_le (by omega)]
    simp
  | m + 1, s, h => by
    have hsx : s < xs.length := by omega
    have hsy : s < ys.length := by omega
    rw [List.range'_succ, List.forIn_cons, Sem.run_bind, hb s (by omega), Result.andThen_ok]
    have ex : xs.drop s = xs.getD s 0 :: xs.drop (s + 1) := by rw [List.drop_eq_getElem_cons hsx, List.getD_eq_getElem?_getD, List.getElem?_eq_getElem hsx]; rfl
    have ey : ys.drop s = ys.getD s 0 :: ys.drop (s + 1) := by rw [List.drop_eq_getElem_cons hsy, List.getD_eq_getElem?_getD, List.getElem?_eq_getElem hsy]; rfl
    by_cases he : xs.getD s 0 = ys.getD s 0
    · rw [if_pos he]
      show (forIn (List.range' (s + 1) m) ((none : Option Bool), ()) body).run P w = _
      rw [run_for_eq xs ys body n hx hy hb m (s + 1) (by omega), ex, ey, he]
      simp
    · rw [if_neg he, if_neg (by rw [ex, ey]; intro h; injection h with h1 _; exact he h1)]
      rfl
theorem run_equalIn_ints (d : Nat) {t e : TypeId} {n : Nat} (ht : P.underlying t = some (.array n e)) (he : P.underlying e = some (.int .i64)) (hs : (P.info? e).map (·.size) = some 1) (xs ys : List Int) (hx : xs.length = n) (hy : ys.length = n) :
    (Op.equalIn (d + 2) t (.agg (nums .i64 xs).toArray) (.agg (nums .i64 ys).toArray)).run P w = .ok (decide (xs = ys)) w := by
  have hsz : (sizeOf e).run P w = .ok 1 w := by
    obtain ⟨i, hi, h1⟩ := Option.map_eq_some_iff.1 hs
    simp [sizeOf, typeInfo, hi, h1]
  simp only [Op.equalIn, Sem.run_bind, run_underlying ht, Result.andThen_ok, hsz]
  rw [Std.Legacy.Range.forIn_eq_forIn_range']
  have e1 : List.range' (Std.Legacy.Range.mk 0 n 1 (by decide)).start (Std.Legacy.Range.mk 0 n 1 (by decide)).size (Std.Legacy.Range.mk 0 n 1 (by decide)).step = List.range' 0 n := by simp [Std.Legacy.Range.size]
  rw [e1, run_for_eq xs ys _ n hx hy ?hb n 0 (by omega)]
  case hb =>
    intro i hi
    simp only [Nat.mul_one, Sem.run_bind, run_part_int he xs i (by omega), run_part_int he ys i (by omega), run_underlying he, Result.andThen_ok]
    generalize xs.getD i 0 = x
    generalize ys.getD i 0 = y
    by_cases h : x = y
    · simp [h]
    · simp [h]
  simp only [List.drop_zero, Result.andThen_ok]
  by_cases h : xs = ys
  · simp [h]
  · simp [h]
theorem run_eql_ints {t e : TypeId} {n : Nat} (ht : P.underlying t = some (.array n e)) (he : P.underlying e = some (.int .i64)) (hs : (P.info? e).map (·.size) = some 1) (xs ys : List Int) (hx : xs.length = n) (hy : ys.length = n) :
    (binOp .eql t (.agg (nums .i64 xs).toArray) (.agg (nums .i64 ys).toArray)).run P w = .ok (.bool (decide (xs = ys))) w := by
  rw [run_eql_struct, run_equalIn_ints 9998 ht he hs xs ys hx hy]
  rfl
end
end Go.Proofs.Ytmdlhbhdlhjakaa
