/- Words for memory: a block that is known whole, what a call has changed, a row of numbers that is read. -/
import Derived.Test.YtmdlhbhdlhjakaaProg
import Derived.WalkKit
import Derived.KernelRfl
import Derived.Outline
import Derived.Deep.QuietTactic
import Derived.BigQuiet
import Derived.BigRegion
import Derived.RegionTactic
import Derived.StillTailTactics
import Derived.Deep.RegionWith
import Derived.Deep.RegionLaw
import Derived.Deep.LoopGhost
import Derived.Deep.Draws
import Derived.OwnWalk
import Derived.OneCell
import Derived.Laws.BitsLemmas
import Derived.Laws.Rows
import Derived.Laws.OwnMore
import Derived.RowKit3
import Derived.Maps.AppendAt
import Derived.Deep.AppendLies
import Derived.Lib.AppendStr
import Derived.Laws.BytesArg
import Derived.Laws.Tables
import Derived.Deep.OwnRows
set_option linter.unusedVariables false
set_option linter.unusedSimpArgs false
namespace Go.Proofs.Ytmdlhbhdlhjakaa
open Go.RowKit

/-- A fact that the walk's simp does not look into. -/
structure Sealed (p : Prop) : Prop where mk :: (out : p)

/-! ### A block that is known whole -/
def IsBlk (w : World) (g : Nat) (cs : List Value) (t : TypeId) : Prop := w.heap[g]? = some (.cells cs.toArray t (0, 0))

theorem IsBlk.lt {w : World} {g : Nat} {cs : List Value} {t : TypeId} (h : IsBlk w g cs t) : g < w.heap.size := (Array.getElem?_eq_some_iff.1 h).1
theorem IsBlk.cell {w : World} {g : Nat} {cs : List Value} {t : TypeId} (h : IsBlk w g cs t) (i : Nat) {v : Value} (hv : cs[i]? = some v) : w.cell? ⟨g, i, none⟩ = some v :=
  (cell_of_row w g i cs.toArray t (0, 0) h).trans (by simpa using hv)
theorem IsBlk.free {w : World} {g : Nat} {cs : List Value} {t : TypeId} (h : IsBlk w g cs t) (i : Nat) : w.frozen? ⟨g, i, none⟩ = false := by
  unfold IsBlk at h; simp [World.frozen?, h]
theorem IsBlk.set {w : World} {g : Nat} {cs : List Value} {t : TypeId} (h : IsBlk w g cs t) (i : Nat) (u : Value) : IsBlk (w.setCell ⟨g, i, none⟩ u) g (cs.set i u) t := by
  unfold IsBlk at h ⊢
  have hlt := lt_of_block h
  have h' : w.heap[g] = .cells cs.toArray t (0, 0) := by simpa [Array.getElem?_eq_getElem hlt] using h
  show (w.heap.modify g _)[g]? = _
  rw [Array.getElem?_eq_getElem (by simpa using hlt), Array.getElem_modify_self, h']
  simp
theorem IsBlk.far {w : World} {g : Nat} {cs : List Value} {t : TypeId} (h : IsBlk w g cs t) {p : Addr} (hp : g ≠ p.block) (u : Value) : IsBlk (w.setCell p u) g cs t := (Below.heap_setCell w p u g hp).trans h
theorem IsBlk.drew {w : World} {g : Nat} {cs : List Value} {t : TypeId} (h : IsBlk w g cs t) : IsBlk w.drew g cs t := h
theorem IsBlk.drewN {w : World} {g : Nat} {cs : List Value} {t : TypeId} (h : IsBlk w g cs t) (n : Nat) : IsBlk (w.drewN n) g cs t := h
theorem IsBlk.alloc {w : World} {g : Nat} {cs : List Value} {t : TypeId} (h : IsBlk w g cs t) (o : Obj) : IsBlk (w.alloc o) g cs t := (Below.heap_alloc w o g h.lt).trans h
theorem IsBlk.new (w : World) (cs : List Value) (t : TypeId) : IsBlk (w.alloc (.cells cs.toArray t)) w.heap.size cs t := heap_alloc_new w _
theorem IsBlk.ne {w : World} {g g' : Nat} {cs cs' : List Value} {t t' : TypeId} (h : IsBlk w g cs t) (h' : IsBlk w g' cs' t') (hne : t ≠ t') : g ≠ g' := by
  intro e; subst e; unfold IsBlk at h h'; rw [h] at h'; simp at h'; exact hne h'.2
theorem IsBlk.grown {w w1 : World} {g : Nat} {cs : List Value} {t : TypeId} (h : IsBlk w g cs t) {row : Option Nat} (hg : w.grownBy w1 row) (hne : some g ≠ row) : IsBlk w1 g cs t := (hg.block g h.lt hne).trans h
theorem IsBlk.own_ne {w : World} {g : Nat} {cs : List Value} {t : TypeId} (h : IsBlk w g cs t) {base : Nat} {e : TypeId} {size n : Nat} {v : Value} {xs : List Value} (ho : w.ownsRow base e size v n xs) (hne : e ≠ t) : some g ≠ v.ownBlock := by
  rcases ho.2 with ⟨rfl, _⟩ | ⟨g', cap, cur, rfl, _, hh, _⟩
  · simp [Value.ownBlock]
  · intro he
    simp [Value.ownBlock] at he
    subst he
    unfold IsBlk at h; rw [hh] at h; simp at h; exact hne h.2

/-! ### What a call has changed: of old blocks, only such from B on whose type is one of T -/
def Typed (w : World) (k : Nat) (t : TypeId) : Prop := ∃ cs fz, w.heap[k]? = some (.cells cs t fz)
structure Chg (B : Nat) (T : List TypeId) (w w' : World) : Prop where
  os : w'.os = w.os
  tape : w'.tape = w.tape
  output : w'.output = w.output
  size : w.heap.size ≤ w'.heap.size
  block : ∀ k, k < w.heap.size → (k < B ∨ ∀ t, t ∈ T → ¬ Typed w k t) → w'.heap[k]? = w.heap[k]?

section
variable {B B' : Nat} {T T' : List TypeId} {w w' w1 w2 : World}
theorem Chg.refl (B : Nat) (T : List TypeId) (w : World) : Chg B T w w := ⟨rfl, rfl, rfl, Nat.le_refl _, fun _ _ _ => rfl⟩
theorem Chg.trans (h : Chg B T w w1) (k : Chg B T w1 w2) : Chg B T w w2 :=
  ⟨k.os.trans h.os, k.tape.trans h.tape, k.output.trans h.output, Nat.le_trans h.size k.size, fun i hi hc => by
    have e := h.block i hi hc
    refine (k.block i (Nat.lt_of_lt_of_le hi h.size) ?_).trans e
    rcases hc with hc | hc
    · exact .inl hc
    · refine .inr fun t ht hty => hc t ht ?_
      obtain ⟨cs, fz, hh⟩ := hty
      exact ⟨cs, fz, e.symm.trans hh⟩⟩
theorem Chg.mono (h : Chg B T w w') (hB : B' ≤ B) (hT : ∀ t, t ∈ T → t ∈ T') : Chg B' T' w w' :=
  ⟨h.os, h.tape, h.output, h.size, fun i hi hc => h.block i hi (by
    rcases hc with hc | hc
    · exact .inl (Nat.lt_of_lt_of_le hc hB)
    · exact .inr fun t ht => hc t (hT t ht))⟩
theorem Chg.of_below (h : Below w.heap.size w w') : Chg B T w w' := ⟨h.os, h.tape, h.output, h.size, fun i hi _ => h.block i hi⟩
theorem Chg.below (h : Chg B T w w') : Below B w w' ∨ w.heap.size < B := by
  by_cases hB : w.heap.size < B
  · exact .inr hB
  · exact .inl ⟨h.os, h.tape, h.output, h.size, fun k hk => h.block k (by omega) (.inl hk)⟩
theorem Chg.to_below (h : Chg w.heap.size T w w') : Below w.heap.size w w' := ⟨h.os, h.tape, h.output, h.size, fun k hk => h.block k hk (.inl hk)⟩
theorem Chg.drew (h : Chg B T w w') : Chg B T w w'.drew := ⟨h.os, h.tape, h.output, h.size, h.block⟩
theorem Chg.drewN (h : Chg B T w w') (n : Nat) : Chg B T w (w'.drewN n) := ⟨h.os, h.tape, h.output, h.size, h.block⟩
theorem Chg.alloc (h : Chg B T w w') (o : Obj) : Chg B T w (w'.alloc o) :=
  ⟨h.os, h.tape, h.output, Nat.le_trans h.size (by simp), fun i hi hc => (Below.heap_alloc _ _ _ (Nat.lt_of_lt_of_le hi h.size)).trans (h.block i hi hc)⟩
theorem Chg.set_old (h : Chg B T w w') {p : Addr} {t : TypeId} (hB : B ≤ p.block) (ht : t ∈ T) (hty : Typed w' p.block t) (u : Value) : Chg B T w (w'.setCell p u) :=
  ⟨h.os, h.tape, h.output, by simpa [World.setCell] using h.size, fun i hi hc => by
    have e := h.block i hi hc
    refine (Below.heap_setCell _ _ _ _ ?_).trans e
    intro ei
    subst ei
    rcases hc with hc | hc
    · omega
    · obtain ⟨cs, fz, hh⟩ := hty
      exact hc t ht ⟨cs, fz, e.symm.trans hh⟩⟩
theorem Chg.set_new (h : Chg B T w w') {p : Addr} (hn : w.heap.size ≤ p.block) (u : Value) : Chg B T w (w'.setCell p u) :=
  ⟨h.os, h.tape, h.output, by simpa [World.setCell] using h.size, fun i hi hc => (Below.heap_setCell _ _ _ _ (by omega)).trans (h.block i hi hc)⟩
theorem IsBlk.typed {g : Nat} {cs : List Value} {t : TypeId} (h : IsBlk w g cs t) : Typed w g t := ⟨_, _, h⟩
theorem Chg.set (h : Chg B T w w') {g : Nat} {cs : List Value} {t : TypeId} (hb : IsBlk w' g cs t) (hB : B ≤ g) (ht : t ∈ T) (i : Nat) (u : Value) : Chg B T w (w'.setCell ⟨g, i, none⟩ u) := h.set_old hB ht hb.typed u
theorem Chg.grown_new {row : Option Nat} (h : Chg B T w w') (hg : w'.grownBy w1 row) (hr : ∀ k, row = some k → w.heap.size ≤ k) : Chg B T w w1 :=
  ⟨hg.os.trans h.os, hg.tape.trans h.tape, hg.output.trans h.output, Nat.le_trans h.size hg.size, fun i hi hc => (hg.block i (Nat.lt_of_lt_of_le hi h.size) (fun e => by have := hr i e.symm; omega)).trans (h.block i hi hc)⟩
theorem Chg.grown (h : Chg B T w w') {base : Nat} {e : TypeId} {size n : Nat} {v : Value} {xs : List Value} (ho : w'.ownsRow base e size v n xs) (hB : B ≤ base) (ht : e ∈ T) (hg : w'.grownBy w1 v.ownBlock) : Chg B T w w1 :=
  ⟨hg.os.trans h.os, hg.tape.trans h.tape, hg.output.trans h.output, Nat.le_trans h.size hg.size, fun i hi hc => by
    have e1 := h.block i hi hc
    refine (hg.block i (Nat.lt_of_lt_of_le hi h.size) (fun ee => ?_)).trans e1
    rcases ho.2 with ⟨rfl, _⟩ | ⟨g', cap, cur, rfl, hb', hh, _⟩
    · simp [Value.ownBlock] at ee
    · simp [Value.ownBlock] at ee
      subst ee
      rcases hc with hc | hc
      · omega
      · exact hc e ht ⟨_, _, e1.symm.trans hh⟩⟩
theorem IsBlk.chg {g : Nat} {cs : List Value} {t : TypeId} (h : IsBlk w g cs t) (hc : Chg B T w w') (hn : g < B ∨ t ∉ T) : IsBlk w' g cs t := by
  refine (hc.block g h.lt ?_).trans h
  rcases hn with hn | hn
  · exact .inl hn
  · refine .inr fun t' ht' hty => ?_
    obtain ⟨cs', fz, hh⟩ := hty
    unfold IsBlk at h
    rw [h] at hh
    simp at hh
    exact hn (hh.2.1 ▸ ht')
theorem cell_chg {p : Addr} {v : Value} (h : w.cell? p = some v) (hc : Chg B T w w') (hn : p.block < B) : w'.cell? p = some v :=
  (World.cell?_of_block (w := w) (hc.block p.block (World.block_lt_of_cell? _ _ h) (.inl hn))).trans h
theorem owns_chg {base : Nat} {e : TypeId} {size n : Nat} {v : Value} {xs : List Value} (ho : w.ownsRow base e size v n xs) (hc : Chg B T w w') (hn : e ∉ T) : w'.ownsRow base e size v n xs := by
  obtain ⟨h1, h2⟩ := ho
  refine ⟨h1, ?_⟩
  rcases h2 with h2 | ⟨g, cap, cur, hv, hb, hh, r⟩
  · exact .inl h2
  · refine .inr ⟨g, cap, cur, hv, hb, (hc.block g (lt_of_block hh) (.inr fun t ht hty => ?_)).trans hh, r⟩
    obtain ⟨cs', fz, hh'⟩ := hty
    rw [hh] at hh'
    simp at hh'
    exact hn (hh'.2.1 ▸ ht)
end

/-! ### A row of numbers that is read -/
def nums (k : IntKind) (xs : List Int) : List Value := xs.map fun x => .int k x
def Reads (w : World) (k : IntKind) (A : Option Addr) (xs : List Int) : Prop :=
  xs.length ≤ 9223372036854775807 ∧ (0 < xs.length → ∃ ad, A = some ad ∧ ∀ j, j < xs.length → w.cell? (ad.add j) = some (.int k (xs.getD j 0)))
theorem Reads.cell {w : World} {k : IntKind} {A : Option Addr} {xs : List Int} (h : Reads w k A xs) (i : Nat) (hi : i < xs.length) : ∃ ad, A = some ad ∧ w.cell? (ad.add i) = some (.int k (xs.getD i 0)) := by
  obtain ⟨ad, e, hc⟩ := h.2 (by omega)
  exact ⟨ad, e, hc i hi⟩
theorem Reads.mono {w w' : World} {k : IntKind} {A : Option Addr} {xs : List Int} (h : Reads w k A xs) (hk : ∀ p v, w.cell? p = some v → w'.cell? p = some v) : Reads w' k A xs :=
  ⟨h.1, fun hp => by obtain ⟨ad, e, hc⟩ := h.2 hp; exact ⟨ad, e, fun j hj => hk _ _ (hc j hj)⟩⟩
theorem Reads.below {w w' : World} {k : IntKind} {A : Option Addr} {xs : List Int} (h : Reads w k A xs) (hb : Below w.heap.size w w') : Reads w' k A xs :=
  h.mono fun p v hv => (hb.cell (World.block_lt_of_cell? w p hv)).trans hv
theorem add_plain (g j : Nat) : (⟨g, 0, none⟩ : Addr).add j = ⟨g, j, none⟩ := by unfold Addr.add; split <;> simp_all
theorem Reads.of_own {w : World} {base n : Nat} {e : TypeId} {k : IntKind} {v : Value} {xs : List Int} (h : w.ownsRow base e 1 v n (nums k xs)) :
    xs.length = n ∧ ∃ A c, v = .slice A n c ∧ n ≤ c ∧ Reads w k A xs := by
  obtain ⟨h1, h2⟩ := h
  have hn : xs.length = n := by simpa [nums] using h1
  refine ⟨hn, ?_⟩
  rcases h2 with ⟨rfl, h0⟩ | ⟨g, cap, cur, rfl, hb, hh, hl, hm, hz, ht⟩
  · exact ⟨none, 0, by rw [h0], by omega, by omega, by omega⟩
  · refine ⟨some ⟨g, 0, none⟩, cap, rfl, hl, by simp only [maxLen] at hm; omega, fun _ => ⟨_, rfl, fun j hj => ?_⟩⟩
    rw [add_plain, cell_of_row w g j cur e (0, 0) hh]
    have : (cur.toList.take (n * 1))[j]? = (nums k xs)[j]? := by rw [ht]
    rw [List.getElem?_take, if_pos (by omega)] at this
    rw [← Array.getElem?_toList, this]
    simp [nums, List.getD_eq_getElem?_getD, List.getElem?_eq_getElem hj]

/-! ### append of one element of one cell, to a row of the call's own -/
section
variable {P : Program} {ops : Array Oper} {rest : List Oper} {o : Oper} {a : Act} {Q : Exit → Act → World → Prop} {K : Act → World → Prop}
theorem wp_app1 {W : World} (base : Nat) (hgd : o.guard = none) (s x : Operand) (t e : TypeId) (z : Value) (bytes : Nat)
    (ho : o.op = .call { callee := .builtin .append, args := #[s, x], argTypes := #[t, t] })
    (ht : P.underlying t = some (.slice e)) (hinfo : (P.info? e).map (fun i => (i.zero, i.size, i.bytes)) = some (some z, 1, bytes)) (hz : z.cells.size = 1) (hb0 : 0 < bytes)
    (v : Value) (n : Nat) (xs : List Value) (y : Value) (hs : a.eval s = v) (hx : a.eval x = .slice (some ⟨W.heap.size, 0, none⟩) 1 1) (h1 : y.oneCell' = true)
    (HO : W.ownsRow base e 1 v n xs) (hbase : base ≤ W.heap.size) (hl : (n + 1) * bytes ≤ 140737488355328)
    (h : ∀ v1 w1, w1.ownsRow base e 1 v1 (n + 1) (xs ++ [y]) → W.grownBy w1 v.ownBlock → wpList P ops Q rest (a.put o.dst v1) w1) :
    wpList P ops Q (o :: rest) a (W.alloc (.cells #[y] e)) := by
  obtain ⟨i0, hi, hzz⟩ := Option.map_eq_some_iff.1 hinfo
  simp only [Prod.mk.injEq] at hzz
  obtain ⟨hz0, hz1, hz2⟩ := hzz
  have hlen : n + 1 ≤ 140737488355328 := Nat.le_trans (Nat.le_mul_of_pos_right _ hb0) hl
  refine wpList_append_own_at (W.alloc (.cells #[y] e)) hgd s x t ho base e i0 z 1 bytes ht hi hz0 hz1 hz2 hz (by decide) v n xs hs (HO.alloc _) ⟨W.heap.size, 0, none⟩ 1 1 [y] hx rfl
    (by simpa using World.news_of_block (cs := #[y]) (t := e) (fr := (0, 0)) (heap_alloc_new W (.cells #[y] e))) (by simpa using h1) (by simp only [maxLen]; omega) hl (by simp; omega) ?_
  intro v1 w1 hown hg _ hat
  exact h v1 w1 hown (World.grownBy.trans (World.grownBy_alloc W _ _) hg)
theorem step_app1 {W : World} (base : Nat) (hw : Region.wanted o (yielded ops a.tmps) = true) (s x : Operand) (t e : TypeId) (z : Value) (bytes : Nat)
    (ho : o.op = .call { callee := .builtin .append, args := #[s, x], argTypes := #[t, t] })
    (ht : P.underlying t = some (.slice e)) (hinfo : (P.info? e).map (fun i => (i.zero, i.size, i.bytes)) = some (some z, 1, bytes)) (hz : z.cells.size = 1) (hb0 : 0 < bytes)
    (v : Value) (n : Nat) (xs : List Value) (y : Value) (hs : a.eval s = v) (hx : a.eval x = .slice (some ⟨W.heap.size, 0, none⟩) 1 1) (h1 : y.oneCell' = true)
    (HO : W.ownsRow base e 1 v n xs) (hbase : base ≤ W.heap.size) (hl : (n + 1) * bytes ≤ 140737488355328)
    (h : ∀ v1 w1, w1.ownsRow base e 1 v1 (n + 1) (xs ++ [y]) → W.grownBy w1 v.ownBlock → K (a.put o.dst v1) w1) :
    if Region.wanted o (yielded ops a.tmps) = true then Oper.wp P o a (W.alloc (.cells #[y] e)) K Q else K (a.put o.dst undef) (W.alloc (.cells #[y] e)) := by
  obtain ⟨i0, hi, hzz⟩ := Option.map_eq_some_iff.1 hinfo
  simp only [Prod.mk.injEq] at hzz
  obtain ⟨hz0, hz1, hz2⟩ := hzz
  have hlen : n + 1 ≤ 140737488355328 := Nat.le_trans (Nat.le_mul_of_pos_right _ hb0) hl
  rw [if_pos hw]
  obtain ⟨v1, w1, hr, hown, hg, _, hat⟩ := run_append_own_at (P := P) (W.alloc (.cells #[y] e)) base t o.type e i0 z 1 bytes ht hi hz0 hz1 hz2 hz (by decide) v n xs (HO.alloc _) ⟨W.heap.size, 0, none⟩ 1 1 [y] rfl
    (by simpa using World.news_of_block (cs := #[y]) (t := e) (fr := (0, 0)) (heap_alloc_new W (.cells #[y] e))) (by simpa using h1) (by simp only [maxLen]; omega) hl (by simp; omega)
  unfold Oper.wp execOp
  simp only [ho, resolve, invoke, builtin, Sem.run_bind, Sem.run_pure, Result.andThen_ok, List.map_toArray, List.map_cons, List.map_nil, hs, hx, hr]
  exact h v1 w1 hown (World.grownBy.trans (World.grownBy_alloc W _ _) hg)
end
theorem own_nil (W : World) (base : Nat) (e : TypeId) (size : Nat) : W.ownsRow base e size (.slice none 0 0) 0 [] := ⟨by simp, .inl ⟨rfl, rfl⟩⟩
theorem run_own_string {P : Program} {w : World} {base n : Nat} {e' src dst e : TypeId} {v : Value} {xs : List Int} (hs : P.underlying src = some (.slice e)) (he : P.underlying e = some (.int .u8)) (hd : P.underlying dst = some .string)
    (h : w.ownsRow base e' 1 v n (nums .u8 xs)) : (convert src dst v).run P w = .ok (.string (strOfNums xs)) w := by
  have hl : xs.length = n := by have := h.1; simp [nums] at this; exact this
  rcases h.2 with ⟨rfl, rfl⟩ | ⟨g, cap, cur, rfl, _⟩
  · obtain rfl : xs = [] := List.eq_nil_of_length_eq_zero hl
    exact run_convert_bytes_nil w src e hs he 0 0 dst hd
  · refine run_convert_bytes_arg w src e hs he g 0 n cap xs hl (fun i hi => ?_) dst hd
    have hc := h.cells (g := g) rfl i (.int .u8 (xs.getD i 0)) (by simp [nums, List.getElem?_eq_getElem (show i < xs.length by omega), List.getD_eq_getElem?_getD])
    have ha : (⟨g, 0, none⟩ : Addr).add i = ⟨g, 0 + i, none⟩ := by unfold Addr.add; split <;> simp_all
    rwa [ha] at hc
theorem run_one_string {P : Program} (w : World) {src dst e : TypeId} (hs : P.underlying src = some (.slice e)) (he : P.underlying e = some (.int .u8)) (hd : P.underlying dst = some .string) (x : Int) :
    (convert src dst (.slice (some ⟨w.heap.size, 0, none⟩) 1 1)).run P (w.alloc (.cells #[.int .u8 x] e)) = .ok (.string (strOfNums [x])) (w.alloc (.cells #[.int .u8 x] e)) := by
  refine run_convert_bytes_arg _ src e hs he w.heap.size 0 1 1 [x] rfl (fun i hi => ?_) dst hd
  have hi0 : i = 0 := by simp at hi; exact hi
  subst hi0
  exact (IsBlk.new w [.int .u8 x] e).cell 0 rfl
theorem own_slice {w : World} {base n : Nat} {e : TypeId} {size : Nat} {v : Value} {xs : List Value} (h : w.ownsRow base e size v n xs) : ∃ A c, v = .slice A n c := by
  rcases h.2 with ⟨rfl, rfl⟩ | ⟨g, cap, cur, rfl, _⟩
  · exact ⟨_, _, rfl⟩
  · exact ⟨_, _, rfl⟩

/-! ### arrays and structs as wholes -/
def isRowDesc (d : TypeDesc) : Bool := match d with | .struct _ | .array _ _ => true | _ => false
section
variable {P : Program} {ops : Array Oper} {rest : List Oper} {o : Oper} {a : Act} {Q : Exit → Act → World → Prop} {K : Act → World → Prop}
theorem IsBlk.loadVar {w : World} {g : Nat} {cs : List Value} {t : TypeId} (hb : IsBlk w g cs t) (ty : TypeId) {d : TypeDesc} (hu : P.underlying ty = some d) (hd : isRowDesc d = true) (hi : (P.info? ty).map (·.size) = some cs.length) :
    (loadVar ty ⟨g, 0, none⟩).run P w = .ok (.agg cs.toArray) w :=
  run_loadVar_row w g t ty cs.toArray (0, 0) d hb hu (by cases d <;> first | rfl | (simp [isRowDesc] at hd)) (by simpa using hi)
theorem wp_load_arr (hgd : o.guard = none) (ty : TypeId) (x : Operand) (ho : o.op = .load ty x) {w : World} {g : Nat} {cs : List Value} {t : TypeId} (hx : a.eval x = .pointer (some ⟨g, 0, none⟩)) (hb : IsBlk w g cs t)
    {d : TypeDesc} (hu : P.underlying ty = some d) (hd : isRowDesc d = true) (hi : (P.info? ty).map (·.size) = some cs.length)
    (h : wpList P ops Q rest (a.put o.dst (.agg cs.toArray)) w) : wpList P ops Q (o :: rest) a w :=
  wpList_load_row hgd ty x ho g hx t cs.toArray (0, 0) d hb hu (by cases d <;> first | rfl | (simp [isRowDesc] at hd)) (by simpa using hi) h
theorem setRow_blk {w : World} {g : Nat} {cs cells : List Value} {t : TypeId} (hb : IsBlk w g cs t) : IsBlk (w.setRow g cells.toArray) g cells t := setRow_heap w g cs.toArray _ t _ hb
theorem setRow_chg {w : World} {g : Nat} {cs cells : List Value} {t : TypeId} (hb : IsBlk w g cs t) : Chg g [t] w (w.setRow g cells.toArray) :=
  ⟨rfl, rfl, rfl, by simp, fun k hk hc => setRow_other w g k cells.toArray (fun e => by
    subst e
    rcases hc with hc | hc
    · omega
    · exact hc t (by simp) hb.typed)⟩
theorem wp_store_arr (hgd : o.guard = none) (ty : TypeId) (x y : Operand) (ho : o.op = .store ty x y) {w : World} {g : Nat} {cs cells : List Value} {t : TypeId} (hx : a.eval x = .pointer (some ⟨g, 0, none⟩)) (hy : a.eval y = .agg cells.toArray)
    (hb : IsBlk w g cs t) (hi : (P.info? ty).map (·.size) = some cells.length) (hl : cs.length = cells.length) (h1 : cells.all (·.oneCell') = true)
    (h : ∀ w2, IsBlk w2 g cells t → Chg g [t] w w2 → (∀ k, k ≠ g → w2.heap[k]? = w.heap[k]?) → w2.heap.size = w.heap.size → wpList P ops Q rest (a.put o.dst undef) w2) : wpList P ops Q (o :: rest) a w :=
  wpList_store_row hgd ty x y ho g cells.toArray hx hy t cs.toArray hb (by simpa using hi) (by simpa using hl) (by simpa using h1)
    (h _ (setRow_blk hb) (setRow_chg hb) (fun k hk => setRow_other w g k cells.toArray hk) (by simp))
end
theorem IsBlk.kept {w w2 : World} {g k : Nat} {cs : List Value} {t : TypeId} (hb : IsBlk w k cs t) (hk : ∀ k, k ≠ g → w2.heap[k]? = w.heap[k]?) (hne : k ≠ g) : IsBlk w2 k cs t := (hk k hne).trans hb
theorem Chg.one_new {B : Nat} {T : List TypeId} {w w' w2 : World} (h : Chg B T w w') {g : Nat} {t : TypeId} (hc : Chg g [t] w' w2) (hg : w.heap.size ≤ g) : Chg B T w w2 :=
  ⟨hc.os.trans h.os, hc.tape.trans h.tape, hc.output.trans h.output, Nat.le_trans h.size hc.size, fun i hi hc' => (hc.block i (Nat.lt_of_lt_of_le hi h.size) (.inl (by omega))).trans (h.block i hi hc')⟩
theorem nums_all (k : IntKind) (xs : List Int) : (nums k xs).all (·.oneCell') = true := by simp [nums, Value.oneCell']
theorem nums_length (k : IntKind) (xs : List Int) : (nums k xs).length = xs.length := by simp [nums]
theorem nums_get {k : IntKind} {xs : List Int} {i : Nat} (h : i < xs.length) : (nums k xs)[i]? = some (.int k (xs.getD i 0)) := by
  simp [nums, List.getElem?_eq_getElem h, List.getD_eq_getElem?_getD]
theorem nums_set (k : IntKind) (xs : List Int) (i : Nat) (x : Int) : (nums k xs).set i (.int k x) = nums k (xs.set i x) := by simp [nums, List.map_set]

/-! ### gates: an operation is known by the slot that it writes, or by its store's place -/
section
variable {P : Program} {ops : Array Oper} {rest : List Oper} {o : Oper} {a : Act} {Q : Exit → Act → World → Prop} {K : Act → World → Prop} {W : World}
theorem gate_dst {N : Tmp} (_hN : o.dst = some N) (h : wpList P ops Q (o :: rest) a W) : wpList P ops Q (o :: rest) a W := h
theorem gate_store {t : TypeId} {p : Tmp} {v : Operand} (_ho : o.op = .store t (.tmp p) v) (h : wpList P ops Q (o :: rest) a W) : wpList P ops Q (o :: rest) a W := h
theorem ev_run {W w1 : World} {v : Value} (hgd : o.guard = none) (hrun : (execOp a.eval o).run P W = .ok (.value v) w1) (h : wpList P ops Q rest (a.put o.dst v) w1) : wpList P ops Q (o :: rest) a W := by
  refine wpList_plain hgd fun K hK => ?_
  unfold Oper.wp
  rw [hrun]
  exact hK _ _ h
/-- A new block: its world goes under a name. -/
theorem ev_box {W : World} (hgd : o.guard = none) {cs : List Value} {t : TypeId}
    (hrun : (execOp a.eval o).run P W = .ok (.value (.pointer (some ⟨W.heap.size, 0, none⟩))) (W.alloc (.cells cs.toArray t (0, 0))))
    (h : ∀ g w1, g = W.heap.size → IsBlk w1 g cs t → Below W.heap.size W w1 → W.heap.size < w1.heap.size → wpList P ops Q rest (a.put o.dst (.pointer (some ⟨g, 0, none⟩))) w1) : wpList P ops Q (o :: rest) a W :=
  ev_run hgd hrun (h _ _ rfl (IsBlk.new W cs t) ((Below.refl _ _).alloc (Nat.le_refl _) _) (by simp))
/-- A literal slice: its world goes under a name. -/
theorem ev_lit {W : World} (hgd : o.guard = none) {cs : List Value} {t : TypeId} {n : Nat}
    (hrun : (execOp a.eval o).run P W = .ok (.value (.slice (some ⟨W.heap.size, 0, none⟩) n n)) (W.alloc (.cells cs.toArray t (0, 0))))
    (h : ∀ g w1, g = W.heap.size → IsBlk w1 g cs t → Below W.heap.size W w1 → W.heap.size < w1.heap.size → wpList P ops Q rest (a.put o.dst (.slice (some ⟨g, 0, none⟩) n n)) w1) : wpList P ops Q (o :: rest) a W :=
  ev_run hgd hrun (h _ _ rfl (IsBlk.new W cs t) ((Below.refl _ _).alloc (Nat.le_refl _) _) (by simp))
end
theorem IsBlk.below {w w' : World} {B g : Nat} {cs : List Value} {t : TypeId} (h : IsBlk w g cs t) (hb : Below B w w') (hB : g < B) : IsBlk w' g cs t := (hb.block g hB).trans h
theorem IsBlk.below' {w w' : World} {g : Nat} {cs : List Value} {t : TypeId} (h : IsBlk w g cs t) (hb : Below w.heap.size w w') : IsBlk w' g cs t := h.below hb h.lt
theorem Chg.below_step {B : Nat} {T : List TypeId} {w w' w2 : World} (h : Chg B T w w') (hb : Below w'.heap.size w' w2) : Chg B T w w2 := h.trans (Chg.of_below hb)
theorem Reads.chg {w w' : World} {k : IntKind} {A : Option Addr} {xs : List Int} (h : Reads w k A xs) {B : Nat} {T : List TypeId} (hc : Chg B T w w') (hB : w.heap.size ≤ B) : Reads w' k A xs :=
  h.mono fun p v hv => cell_chg hv hc (Nat.lt_of_lt_of_le (World.block_lt_of_cell? w p hv) hB)

theorem blk_reads {w : World} {g : Nat} {k : IntKind} {xs : List Int} {t : TypeId} (h : IsBlk w g (nums k xs) t) (hl : xs.length ≤ 9223372036854775807) : Reads w k (some ⟨g, 0, none⟩) xs :=
  ⟨hl, fun _ => ⟨_, rfl, fun j hj => by rw [add_plain]; exact h.cell j (nums_get hj)⟩⟩
theorem madeCells_nums (k : IntKind) (m : Nat) : madeCells #[.int k 0] m = (nums k (List.replicate m 0)).toArray := by
  apply Array.ext'
  apply List.ext_getElem?
  intro i
  by_cases h : i < m
  · simp [madeCells, nums, h, Nat.mod_one]
  · simp [madeCells, nums, h]
/-- make of n numbers. -/
theorem ev_make {P : Program} {ops : Array Oper} {rest : List Oper} {o : Oper} {a : Act} {Q : Exit → Act → World → Prop} {W : World} (hgd : o.guard = none) {t e : TypeId} {k : IntKind} {l c : Operand} (hop : o.op = .makeSlice t l c) {m bytes : Nat}
    (ht : P.underlying t = some (.slice e)) (hinfo : (P.info? e).map (fun i => (i.zero, i.size, i.bytes)) = some (some (.int k 0), 1, bytes)) (hl : a.eval l = .int .i64 (m : Int)) (hc : a.eval c = .int .i64 (m : Int)) (hb0 : 0 < bytes) (hn : m * bytes ≤ 281474976710656)
    (h : ∀ g w1, g = W.heap.size → IsBlk w1 g (nums k (List.replicate m 0)) e → Below W.heap.size W w1 → W.heap.size < w1.heap.size → wpList P ops Q rest (a.put o.dst (.slice (some ⟨g, 0, none⟩) m m)) w1) : wpList P ops Q (o :: rest) a W := by
  have hm : m ≤ 281474976710656 := Nat.le_trans (Nat.le_mul_of_pos_right _ hb0) hn
  have hrun := run_make_row' (P := P) t e (.int k 0) bytes ht hinfo rfl .i64 .i64 m (by rw [Nat.mul_comm]; exact hn) (by omega) W
  rw [madeCells_nums] at hrun
  refine ev_lit hgd (cs := nums k (List.replicate m 0)) (t := e) (n := m) ?_ h
  unfold execOp
  simp [hop, hl, hc, hrun]

/-! ### append of a whole row of numbers that is read -/
section
variable {P : Program} {ops : Array Oper} {rest : List Oper} {o : Oper} {a : Act} {Q : Exit → Act → World → Prop} {K : Act → World → Prop}
theorem run_app_row {W : World} (base : Nat) (ty t e : TypeId) (k : IntKind) (bytes : Nat)
    (ht : P.underlying t = some (.slice e)) (hinfo : (P.info? e).map (fun i => (i.zero, i.size, i.bytes)) = some (some (.int k 0), 1, bytes)) (hb0 : 0 < bytes)
    (v : Value) (n : Nat) (xs ys : List Int) (A : Option Addr) (c : Nat)
    (HO : W.ownsRow base e 1 v n (nums k xs)) (HR : Reads W k A ys) (hbase : base ≤ W.heap.size) (hl : (n + ys.length) * bytes ≤ 140737488355328) :
    ∃ v1 w1, (Builtin.append_ #[t, t] ty #[v, .slice A ys.length c]).run P W = .ok v1 w1 ∧ w1.ownsRow base e 1 v1 (n + ys.length) (nums k (xs ++ ys)) ∧ W.grownBy w1 v.ownBlock := by
  obtain ⟨i0, hi, hzz⟩ := Option.map_eq_some_iff.1 hinfo
  simp only [Prod.mk.injEq] at hzz
  obtain ⟨hz0, hz1, hz2⟩ := hzz
  have hlen : n + ys.length ≤ 140737488355328 := Nat.le_trans (Nat.le_mul_of_pos_right _ hb0) hl
  have hxn : xs.length = n := by have := HO.1; simpa [nums] using this
  rcases Nat.eq_zero_or_pos ys.length with h0 | h0
  · obtain rfl : ys = [] := List.eq_nil_of_length_eq_zero h0
    rcases A with _ | ad
    · refine ⟨v, W, ?_, by simpa using HO, World.grownBy.refl W _⟩
      rcases HO.2 with ⟨rfl, hn⟩ | ⟨g, cap, cur, rfl, _, _, hnc, _⟩
      · simp [Builtin.append_, run_underlying ht, sizeOf, typeInfo, hi, Builtin.lenOf, Builtin.firstCells]
      · simp [Builtin.append_, run_underlying ht, sizeOf, typeInfo, hi, Builtin.lenOf, Builtin.firstCells, hnc, storeCells]
    · obtain ⟨v1, w1, hr, h2, h3, _, h5⟩ := run_append_own_at (P := P) W base t ty e i0 (.int k 0) 1 bytes ht hi hz0 hz1 hz2 rfl (by omega) v n (nums k xs) HO ad 0 c [] rfl (by simp) (by simp) (by simp only [maxLen]; omega) hl hbase
      exact ⟨v1, w1, hr, by simpa using h2, h3⟩
  · obtain ⟨ad, rfl, hc⟩ := HR.2 h0
    have hcells : ∀ j u, (nums k ys)[j]? = some u → W.cell? (ad.add j) = some u := by
      intro j u hu
      have hj : j < ys.length := by
        rcases Nat.lt_or_ge j ys.length with h | h
        · exact h
        · simp [nums, List.getElem?_eq_none h] at hu
      rw [nums_get hj] at hu
      rw [hc j hj]; exact hu
    obtain ⟨v1, w1, hr, h2, h3, _, h5⟩ := run_append_own_at (P := P) W base t ty e i0 (.int k 0) 1 bytes ht hi hz0 hz1 hz2 rfl (by omega) v n (nums k xs) HO ad ys.length c (nums k ys) (by simp [nums]) hcells
      (by intro u hu; simp only [nums, List.mem_map] at hu; obtain ⟨q, _, rfl⟩ := hu; rfl) (by simp only [maxLen]; omega) hl hbase
    exact ⟨v1, w1, hr, by simpa [nums] using h2, h3⟩
theorem wp_app_row {W : World} (base : Nat) (hgd : o.guard = none) (s x : Operand) (t e : TypeId) (k : IntKind) (bytes : Nat)
    (ho : o.op = .call { callee := .builtin .append, args := #[s, x], argTypes := #[t, t] })
    (ht : P.underlying t = some (.slice e)) (hinfo : (P.info? e).map (fun i => (i.zero, i.size, i.bytes)) = some (some (.int k 0), 1, bytes)) (hb0 : 0 < bytes)
    (v : Value) (n : Nat) (xs ys : List Int) (A : Option Addr) (c : Nat) (hs : a.eval s = v) (hx : a.eval x = .slice A ys.length c)
    (HO : W.ownsRow base e 1 v n (nums k xs)) (HR : Reads W k A ys) (hbase : base ≤ W.heap.size) (hl : (n + ys.length) * bytes ≤ 140737488355328)
    (h : ∀ v1 w1, w1.ownsRow base e 1 v1 (n + ys.length) (nums k (xs ++ ys)) → W.grownBy w1 v.ownBlock → wpList P ops Q rest (a.put o.dst v1) w1) : wpList P ops Q (o :: rest) a W := by
  obtain ⟨v1, w1, hr, hown, hg⟩ := run_app_row (P := P) base o.type t e k bytes ht hinfo hb0 v n xs ys A c HO HR hbase hl
  refine wpList_plain hgd fun K hK => ?_
  unfold Oper.wp execOp
  simp only [ho, resolve, invoke, builtin, Sem.run_bind, Sem.run_pure, Result.andThen_ok, List.map_toArray, List.map_cons, List.map_nil, hs, hx, hr]
  exact hK _ _ (h v1 w1 hown hg)
theorem step_app_row {W : World} (base : Nat) (hw : Region.wanted o (yielded ops a.tmps) = true) (s x : Operand) (t e : TypeId) (k : IntKind) (bytes : Nat)
    (ho : o.op = .call { callee := .builtin .append, args := #[s, x], argTypes := #[t, t] })
    (ht : P.underlying t = some (.slice e)) (hinfo : (P.info? e).map (fun i => (i.zero, i.size, i.bytes)) = some (some (.int k 0), 1, bytes)) (hb0 : 0 < bytes)
    (v : Value) (n : Nat) (xs ys : List Int) (A : Option Addr) (c : Nat) (hs : a.eval s = v) (hx : a.eval x = .slice A ys.length c)
    (HO : W.ownsRow base e 1 v n (nums k xs)) (HR : Reads W k A ys) (hbase : base ≤ W.heap.size) (hl : (n + ys.length) * bytes ≤ 140737488355328)
    (h : ∀ v1 w1, w1.ownsRow base e 1 v1 (n + ys.length) (nums k (xs ++ ys)) → W.grownBy w1 v.ownBlock → K (a.put o.dst v1) w1) :
    if Region.wanted o (yielded ops a.tmps) = true then Oper.wp P o a W K Q else K (a.put o.dst undef) W := by
  obtain ⟨v1, w1, hr, hown, hg⟩ := run_app_row (P := P) base o.type t e k bytes ht hinfo hb0 v n xs ys A c HO HR hbase hl
  rw [if_pos hw]
  unfold Oper.wp execOp
  simp only [ho, resolve, invoke, builtin, Sem.run_bind, Sem.run_pure, Result.andThen_ok, List.map_toArray, List.map_cons, List.map_nil, hs, hx, hr]
  exact h v1 w1 hown hg
end
theorem IsBlk.owns {w : World} {g : Nat} {cs : List Value} {t : TypeId} (h : IsBlk w g cs t) {B : Nat} (hB : B ≤ g) (hl : cs.length ≤ 9223372036854775807) : w.ownsRow B t 1 (.slice (some ⟨g, 0, none⟩) cs.length cs.length) cs.length cs :=
  ⟨by simp, .inr ⟨g, cs.length, cs.toArray, rfl, hB, h, Nat.le_refl _, by simp only [maxLen]; omega, by simp, by simp⟩⟩
theorem Reads.alloc {w : World} {k : IntKind} {A : Option Addr} {xs : List Int} (h : Reads w k A xs) (o : Obj) : Reads (w.alloc o) k A xs := h.below ((Below.refl _ _).alloc (Nat.le_refl _) _)
theorem Reads.drew {w : World} {k : IntKind} {A : Option Addr} {xs : List Int} (h : Reads w k A xs) : Reads w.drew k A xs := h
theorem own_less {W : World} {b base n : Nat} {e : TypeId} {size : Nat} {v : Value} {xs : List Value} (h : W.ownsRow b e size v n xs) (hle : base ≤ b) : W.ownsRow base e size v n xs := by
  obtain ⟨h1, h2⟩ := h
  exact ⟨h1, h2.imp id fun ⟨g, cap, cur, he, hb, hr⟩ => ⟨g, cap, cur, he, Nat.le_trans hle hb, hr⟩⟩
theorem own_lt {w : World} {base : Nat} {e : TypeId} {size n : Nat} {v : Value} {xs : List Value} (h : w.ownsRow base e size v n xs) (k : Nat) (hk : v.ownBlock = some k) : k < w.heap.size := by
  rcases h.2 with ⟨rfl, _⟩ | ⟨g, cap, cur, rfl, _, hh, _⟩
  · simp [Value.ownBlock] at hk
  · have : g = k := by simpa [Value.ownBlock] using hk
    subst this
    exact lt_of_block hh
/-- A row that lies below stays. -/
theorem owns_lt {B base : Nat} {T : List TypeId} {w w' : World} {e : TypeId} {size n : Nat} {v : Value} {xs : List Value} (ho : w.ownsRow base e size v n xs) (hc : Chg B T w w') (hl : ∀ k, v.ownBlock = some k → k < B) : w'.ownsRow base e size v n xs := by
  obtain ⟨h1, h2⟩ := ho
  refine ⟨h1, ?_⟩
  rcases h2 with h2 | ⟨g, cap, cur, hv, hb, hh, r⟩
  · exact .inl h2
  · exact .inr ⟨g, cap, cur, hv, hb, (hc.block g (lt_of_block hh) (.inl (hl g (by rw [hv]; rfl)))).trans hh, r⟩
theorem owns_below {base : Nat} {w w' : World} {e : TypeId} {size n : Nat} {v : Value} {xs : List Value} (ho : w.ownsRow base e size v n xs) (hb : Below w.heap.size w w') : w'.ownsRow base e size v n xs :=
  owns_lt (B := w.heap.size) (T := []) ho (Chg.of_below hb) (fun k hk => own_lt ho k hk)
theorem nums_snoc (k : IntKind) (xs : List Int) (x : Int) : nums k (xs ++ [x]) = nums k xs ++ [.int k x] := by simp [nums]
theorem own_cell {w : World} {base n c : Nat} {e : TypeId} {k : IntKind} {ad : Addr} {xs : List Int} (h : w.ownsRow base e 1 (.slice (some ad) n c) n (nums k xs)) {i : Nat} (hi : i < n) : w.cell? (ad.add i) = some (.int k (xs.getD i 0)) := by
  obtain ⟨hn, A, c', he, _, hr⟩ := Reads.of_own h
  injection he with he _ _
  subst he
  obtain ⟨ad', e', hc⟩ := hr.cell i (by omega)
  injection e' with e'
  subst e'
  exact hc
theorem own_some {w : World} {base n : Nat} {e : TypeId} {k : IntKind} {v : Value} {xs : List Int} (h : w.ownsRow base e 1 v n (nums k xs)) (hn : 0 < n) : ∃ ad c, v = .slice (some ad) n c := by
  rcases h.2 with ⟨rfl, h0⟩ | ⟨g, cap, cur, rfl, _⟩
  · omega
  · exact ⟨_, _, rfl⟩
end Go.Proofs.Ytmdlhbhdlhjakaa
