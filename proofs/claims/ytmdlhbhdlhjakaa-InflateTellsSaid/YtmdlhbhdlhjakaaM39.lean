/- The finder's memory, and the contract of its pass. The contracts of the document's answer's rows of bits: Put of codes, Align, Text. -/
import Derived.Maps.OwnSet
import Derived.WalkArith
import Derived.Test.YtmdlhbhdlhjakaaM11
import Derived.Test.YtmdlhbhdlhjakaaM38
set_option linter.unusedVariables false
set_option linter.unusedSimpArgs false
namespace Go.Proofs.Ytmdlhbhdlhjakaa
open Go.RowKit

/-! ### What a call has changed, maps too: blocks below B, and such whose cells are of no type of T, are as they were -/
structure ChgW (B : Nat) (T : List TypeId) (w w' : World) : Prop where
  os : w'.os = w.os
  tape : w'.tape = w.tape
  output : w'.output = w.output
  size : w.heap.size ≤ w'.heap.size
  block : ∀ k, k < w.heap.size → (k < B ∨ ∃ t, Typed w k t ∧ t ∉ T) → w'.heap[k]? = w.heap[k]?
section
variable {B B' : Nat} {T T' : List TypeId} {w w' w1 w2 : World}
theorem Typed.uniq {k : Nat} {t t' : TypeId} (h : Typed w k t) (h' : Typed w k t') : t = t' := by
  obtain ⟨_, _, h⟩ := h; obtain ⟨_, _, h'⟩ := h'; rw [h] at h'; simp at h'; exact h'.2.1
theorem ChgW.refl (B : Nat) (T : List TypeId) (w : World) : ChgW B T w w := ⟨rfl, rfl, rfl, Nat.le_refl _, fun _ _ _ => rfl⟩
theorem ChgW.trans (h : ChgW B T w w1) (k : ChgW B T w1 w2) : ChgW B T w w2 :=
  ⟨k.os.trans h.os, k.tape.trans h.tape, k.output.trans h.output, Nat.le_trans h.size k.size, fun i hi hc => by
    have e := h.block i hi hc
    refine (k.block i (Nat.lt_of_lt_of_le hi h.size) ?_).trans e
    rcases hc with hc | ⟨t, ⟨cs, fz, ht⟩, hn⟩
    · exact .inl hc
    · exact .inr ⟨t, ⟨cs, fz, e.trans ht⟩, hn⟩⟩
theorem ChgW.of_chg (h : Chg B T w w') : ChgW B T w w' :=
  ⟨h.os, h.tape, h.output, h.size, fun i hi hc => h.block i hi (by
    rcases hc with hc | ⟨t, ht, hn⟩
    · exact .inl hc
    · exact .inr fun t' ht' hty => hn (by rw [ht.uniq hty]; exact ht'))⟩
theorem ChgW.drewN (h : ChgW B T w w') (n : Nat) : ChgW B T w (w'.drewN n) := ⟨h.os, h.tape, h.output, h.size, h.block⟩
theorem ChgW.drew (h : ChgW B T w w') : ChgW B T w w'.drew := ⟨h.os, h.tape, h.output, h.size, h.block⟩
theorem ChgW.step (h : ChgW B T w w1) (k : Chg B T w1 w2) : ChgW B T w w2 := h.trans (.of_chg k)
theorem ChgW.map {b : Nat} (h : ChgW B T w w1) (hg : w1.grownBy w2 (some b)) (hB : B ≤ b) (hm : ∀ t, ¬ Typed w1 b t) : ChgW B T w w2 :=
  h.trans ⟨hg.os, hg.tape, hg.output, hg.size, fun i hi hc => hg.block i hi (fun e => by
    injection e with e
    subst e
    rcases hc with hc | ⟨t, ht, _⟩
    · omega
    · exact hm t ht)⟩
theorem ChgW.mono (h : ChgW B T w w') (hB : B' ≤ B) (hT : ∀ t, t ∈ T → t ∈ T') : ChgW B' T' w w' :=
  ⟨h.os, h.tape, h.output, h.size, fun i hi hc => h.block i hi (by
    rcases hc with hc | ⟨t, ht, hn⟩
    · exact .inl (Nat.lt_of_lt_of_le hc hB)
    · exact .inr ⟨t, ht, fun hx => hn (hT t hx)⟩)⟩
theorem ChgW.below (h : ChgW B T w w') {C : Nat} (hC : C ≤ B) : Below C w w' ∨ w.heap.size < C := by
  by_cases hB : w.heap.size < C
  · exact .inr hB
  · exact .inl ⟨h.os, h.tape, h.output, h.size, fun k hk => h.block k (by omega) (.inl (by omega))⟩
theorem IsBlk.chgW {g : Nat} {cs : List Value} {t : TypeId} (h : IsBlk w g cs t) (hc : ChgW B T w w') (hn : g < B ∨ t ∉ T) : IsBlk w' g cs t :=
  (hc.block g h.lt (hn.imp id fun hn => ⟨t, h.typed, hn⟩)).trans h
theorem owns_chgW {base : Nat} {e : TypeId} {size n : Nat} {v : Value} {xs : List Value} (ho : w.ownsRow base e size v n xs) (hc : ChgW B T w w') (hn : e ∉ T) : w'.ownsRow base e size v n xs := by
  obtain ⟨h1, h2⟩ := ho
  refine ⟨h1, ?_⟩
  rcases h2 with h2 | ⟨g, cap, cur, hv, hb, hh, r⟩
  · exact .inl h2
  · exact .inr ⟨g, cap, cur, hv, hb, (hc.block g (lt_of_block hh) (.inr ⟨e, ⟨_, _, hh⟩, hn⟩)).trans hh, r⟩
theorem WrSt.chgW {g : Nat} {t : TypeId} {rest : List Value} {l : List Nat} (h : WrSt B w g t rest l) (hc : ChgW B' T w w') (h1 : t ∉ T) (h2 : 5 ∉ T) : WrSt B w' g t rest l := by
  obtain ⟨hl, hB, ht, n, m, v, hm, hb, ho, hle⟩ := h
  exact ⟨hl, hB, ht, n, m, v, hm, hb.chgW hc (.inr h1), owns_chgW ho hc h2, hle⟩
end

/-! ### A map of numbers -/
theorem law_int : Go.Maps.Keyed Try.prog 3 := Go.Maps.int_keyed Try.underlying3
theorem zero_int (w : World) : (zeroValue 3).run Try.prog w = .ok (.int .i64 0) w := by kernel_rfl
def optZ : Option Nat → Int
  | some j => (j : Int)
  | none => 0
/-- Block b is a map of at most n numbers that tells f of each number below 2^24. -/
def MapIs (w : World) (b n : Nat) (f : Nat → Option Nat) : Prop :=
  ∃ D : DataW Unit, w.ownsMap Try.prog 3 (plainElem Try.prog 3) b n D ∧ ∀ x : Nat, x < 16777216 → D.atKey (.int .i64 x) (.lit (.int .i64 0)) = .lit (.int .i64 (optZ (f x))) ∧ Go.Maps.has D (.int .i64 x) = (f x).isSome
theorem wf_small {x : Nat} (h : x < 4611686018427387904) : (Lit.int .i64 (x : Int)).wf = true := WalkArith.wf_i64 (by omega)
theorem MapIs.look {w : World} {b n : Nat} {f : Nat → Option Nat} (h : MapIs w b n f) {x : Nat} (hx : x < 16777216) :
    (Instr.lookup 82 (.map (some b)) (.int .i64 (x : Int)) true).run Try.prog w = .ok (.tuple #[.int .i64 (optZ (f x)), .bool (f x).isSome]) w := by
  obtain ⟨D, ho, hf⟩ := h
  obtain ⟨v, ps, hr, hv⟩ := ho.look_ok (t := 82) law_int Try.underlying82 (zero_int w) (plainElem_int Try.underlying3 (by decide)) (Go.Maps.keyOf_int_mk Try.underlying3 (wf_small (x := x) (by omega)))
  obtain ⟨c, rfl, hc, _⟩ := plainElem_int_inv Try.underlying3 hv
  obtain ⟨h1, h2⟩ := hf x hx
  rw [hr, h2]
  have hd := congrArg Prod.fst hc
  have hd' : DataW.lit (H := Unit) (.int .i64 (optZ (f x))) = .lit (.int .i64 c) := h1.symm.trans hd
  clear hx
  simp only [DataW.lit.injEq, Lit.int.injEq, true_and] at hd'
  rw [hd']
theorem MapIs.drewN {w : World} {b n : Nat} {f : Nat → Option Nat} (h : MapIs w b n f) (m : Nat) : MapIs (w.drewN m) b n f := h
theorem MapIs.kept {w w' : World} {b n : Nat} {f : Nat → Option Nat} {row : Option Nat} (h : MapIs w b n f) (hg : w.grownBy w' row) (hne : some b ≠ row) : MapIs w' b n f := by
  obtain ⟨D, ho, hf⟩ := h
  exact ⟨D, ho.kept hg hne, hf⟩
theorem MapIs.setCell {w : World} {b n : Nat} {f : Nat → Option Nat} (h : MapIs w b n f) {a : Addr} (ha : b ≠ a.block) (u : Value) : MapIs (w.setCell a u) b n f := by
  obtain ⟨D, ho, hf⟩ := h
  exact ⟨D, ho.setCell ha u, hf⟩
theorem MapIs.mono {w : World} {b n m : Nat} {f : Nat → Option Nat} (h : MapIs w b n f) (hn : n ≤ m) : MapIs w b m f := by
  obtain ⟨D, ho, hf⟩ := h
  exact ⟨D, ho.mono hn, hf⟩
theorem MapIs.congr {w : World} {b n : Nat} {f f' : Nat → Option Nat} (h : MapIs w b n f) (he : ∀ x, f x = f' x) : MapIs w b n f' := by
  have : f = f' := funext he
  rwa [← this]
theorem MapIs.notTyped {w : World} {b n : Nat} {f : Nat → Option Nat} (h : MapIs w b n f) (t : TypeId) : ¬ Typed w b t := by
  obtain ⟨D, ⟨es, clock, hb, _⟩, hf⟩ := h
  rintro ⟨cs, fz, hh⟩
  rw [hb] at hh; simp at hh
theorem MapIs.ne_blk {w : World} {b n g : Nat} {f : Nat → Option Nat} (h : MapIs w b n f) {cs : List Value} {t : TypeId} (hb : IsBlk w g cs t) : b ≠ g := by
  rintro rfl
  exact h.notTyped t hb.typed
theorem MapIs.ne_own {w : World} {b n : Nat} {f : Nat → Option Nat} (h : MapIs w b n f) {base : Nat} {e : TypeId} {size m : Nat} {v : Value} {xs : List Value} (ho : w.ownsRow base e size v m xs) : some b ≠ v.ownBlock := by
  rcases ho.2 with ⟨rfl, _⟩ | ⟨g', cap, cur, rfl, _, hh, _⟩
  · simp [Value.ownBlock]
  · intro he
    simp [Value.ownBlock] at he
    subst he
    exact h.notTyped e ⟨_, _, hh⟩
theorem MapIs.made (w : World) (f : Nat → Option Nat) (hf : ∀ x, f x = none) : MapIs (w.alloc (.map #[] 0)) w.heap.size 0 f :=
  ⟨.map [], World.ownsMap_made _ _ _ _, fun x _ => by rw [hf]; exact ⟨rfl, rfl⟩⟩
section
variable {ops : Array Oper} {rest : List Oper} {o : Oper} {a : Act} {Q : Exit → Act → World → Prop}
theorem wp_map_put {w : World} (hg : o.guard = none) (m x v : Operand) (hop : o.op = Op.mapUpdate 82 m x v) {b n : Nat} {f : Nat → Option Nat} (h : MapIs w b n f) (hm : a.eval m = .map (some b)) (k j : Nat) (hx : a.eval x = .int .i64 (k : Int)) (hv : a.eval v = .int .i64 (j : Int))
    (hn : n < 4611686018427387904) (hk : k < 16777216) (hj : j < 4611686018427387904) (hK : ∀ w', MapIs w' b (n + 1) (fun y => if y = k then some j else f y) → w.grownBy w' (some b) → wpList Try.prog ops Q rest (a.put o.dst undef) w') : wpList Try.prog ops Q (o :: rest) a w := by
  obtain ⟨D, ho, hf⟩ := h
  refine wpList_mapUpdate_own w hg m x v 82 hop 3 3 law_int Try.underlying82 _ b n D hm ho (by simp only [maxLen]; omega) _ _ (.int .i64 (k : Int)) hx hv (Go.Maps.keyOf_int_mk Try.underlying3 (wf_small (x := k) (by omega))) (.lit (.int .i64 (j : Int))) [] (plainElem_int Try.underlying3 (wf_small hj)) ?_
  intro w' ho' hg'
  refine hK w' ⟨_, ho', fun y hy => ?_⟩ hg'
  by_cases e : y = k
  · subst e
    simp only [if_true]
    exact ⟨Go.Maps.atKey_put_same ho.isMap (show WideAt.IsKeyLit (.int .i64 (y : Int)) from trivial) _ _, Go.Maps.has_put_same ho.isMap (show WideAt.IsKeyLit (.int .i64 (y : Int)) from trivial) _⟩
  · have hne : Lit.int .i64 (y : Int) ≠ .int .i64 (k : Int) := by
      intro h; injection h with _ h; omega
    simp only [if_neg e]
    rw [Go.Maps.atKey_put_other hne, Go.Maps.has_put_other hne]
    exact hf y hy
end

/-! ### The finder's memory -/
def FS (B : Nat) (w : World) (gf gm : Nat) (s : ByteArray) (v : Value) (d : Nat) (L : List Int) (n : Nat) (f : Nat → Option Nat) : Prop :=
  B ≤ gf ∧ B ≤ gm ∧ B ≤ w.heap.size ∧ IsBlk w gf [.string s, .map (some gm), v, .int .i64 d] 84 ∧ w.ownsRow B 3 1 v L.length (nums .i64 L) ∧ MapIs w gm n f
section
variable {B : Nat} {w w1 : World} {gf gm : Nat} {s : ByteArray} {v : Value} {d : Nat} {L : List Int} {n : Nat} {f : Nat → Option Nat}
theorem FS.blk (h : FS B w gf gm s v d L n f) : IsBlk w gf [.string s, .map (some gm), v, .int .i64 d] 84 := h.2.2.2.1
theorem FS.own (h : FS B w gf gm s v d L n f) : w.ownsRow B 3 1 v L.length (nums .i64 L) := h.2.2.2.2.1
theorem FS.mp (h : FS B w gf gm s v d L n f) : MapIs w gm n f := h.2.2.2.2.2
theorem FS.drewN (h : FS B w gf gm s v d L n f) (m : Nat) : FS B (w.drewN m) gf gm s v d L n f := h
theorem FS.drew (h : FS B w gf gm s v d L n f) : FS B w.drew gf gm s v d L n f := h
theorem FS.grow (h : FS B w gf gm s v d L n f) {v1 : Value} {x : Int} {m : Nat} (hm : m = L.length + 1) (ho : w1.ownsRow B 3 1 v1 m (nums .i64 L ++ [.int .i64 x])) (hg : w.grownBy w1 v.ownBlock) :
    IsBlk w1 gf [.string s, .map (some gm), v, .int .i64 d] 84 ∧ FS B (w1.setCell ⟨gf, 2, none⟩ v1) gf gm s v1 d (L ++ [x]) n f ∧ ChgW B [84, 3] w (w1.setCell ⟨gf, 2, none⟩ v1) := by
  subst hm
  obtain ⟨h1, h2, h3, h4, h5, h6⟩ := h
  have hb1 := h4.grown hg (h4.own_ne h5 (by decide))
  have hm1 := h6.kept hg (h6.ne_own h5)
  have e : nums .i64 (L ++ [x]) = nums .i64 L ++ [.int .i64 x] := nums_snoc _ _ _
  have hst := (Chg.refl B [84] w1).set hb1 h1 (by simp) 2 v1
  refine ⟨hb1, ⟨h1, h2, ?_, hb1.set 2 v1, ?_, hm1.setCell (hm1.ne_blk hb1) _⟩, ?_⟩
  · have := hg.size; simp [World.setCell]; omega
  · rw [e, List.length_append]; exact owns_chg ho hst (by decide)
  · exact (ChgW.of_chg ((Chg.refl B [84, 3] w).grown h5 (Nat.le_refl _) (by simp) hg)).step (hst.mono (Nat.le_refl _) (by simp))
theorem FS.done (h : FS B w gf gm s v d L n f) (d' : Nat) : FS B (w.setCell ⟨gf, 3, none⟩ (.int .i64 d')) gf gm s v d' L n f ∧ ChgW B [84, 3] w (w.setCell ⟨gf, 3, none⟩ (.int .i64 d')) := by
  obtain ⟨h1, h2, h3, h4, h5, h6⟩ := h
  have hst := (Chg.refl B [84] w).set h4 h1 (by simp) 3 (.int .i64 d')
  exact ⟨⟨h1, h2, by simpa [World.setCell] using h3, h4.set 3 _, owns_chg h5 hst (by decide), h6.setCell (h6.ne_blk h4) _⟩, ChgW.of_chg (hst.mono (Nat.le_refl _) (by simp))⟩
theorem FS.put (h : FS B w gf gm s v d L n f) {m : Nat} {f' : Nat → Option Nat} (hm : MapIs w1 gm m f') (hg : w.grownBy w1 (some gm)) : FS B w1 gf gm s v d L m f' ∧ ChgW B [84, 3] w w1 := by
  obtain ⟨h1, h2, h3, h4, h5, h6⟩ := h
  have hc : ChgW B [] w w1 := (ChgW.refl B [] w).map hg h2 h6.notTyped
  exact ⟨⟨h1, h2, Nat.le_trans h3 hg.size, h4.chgW hc (.inr (by simp)), owns_chgW h5 hc (by simp), hm⟩, hc.mono (Nat.le_refl _) (by simp)⟩
theorem FS.row (h : FS B w gf gm s v d L n f) {i : Nat} (hi : i < L.length) : ∃ gr c, v = .slice (some ⟨gr, 0, none⟩) L.length c ∧ w.cell? ⟨gr, i, none⟩ = some (.int .i64 (L.getD i 0)) ∧ w.frozen? ⟨gr, i, none⟩ = false ∧ L.length ≤ c ∧ c ≤ 9223372036854775807 ∧
    ∀ x : Int, FS B (w.setCell ⟨gr, i, none⟩ (.int .i64 x)) gf gm s v d (L.set i x) n f ∧ ChgW B [84, 3] w (w.setCell ⟨gr, i, none⟩ (.int .i64 x)) := by
  obtain ⟨h1, h2, h3, h4, h5, h6⟩ := h
  have hown := h5
  obtain ⟨hl, h5⟩ := h5
  rcases h5 with ⟨rfl, h0⟩ | ⟨gr, cap, cur, rfl, hb, hh, hle, hm, hz, ht⟩
  · omega
  · have hc := own_cell hown hi
    rw [add_plain] at hc
    have hf : w.frozen? ⟨gr, i, none⟩ = false := by simp [World.frozen?, hh]
    refine ⟨gr, cap, rfl, hc, hf, hle, by simpa [maxLen] using hm, fun x => ?_⟩
    have hne : gr ≠ gf := by
      rintro rfl
      have := (show Typed w gr 3 from ⟨_, _, hh⟩).uniq h4.typed
      exact absurd this (by decide)
    have hst := World.ownsRow.stored hown i (.int .i64 x)
    have hty : Typed w gr 3 := ⟨_, _, hh⟩
    have hch := (Chg.refl B [3] w).set_old (p := ⟨gr, i, none⟩) hb (by simp) hty (.int .i64 x)
    refine ⟨⟨h1, h2, by simpa [World.setCell] using h3, h4.far (Ne.symm hne) _, ?_, h6.setCell (fun e => h6.notTyped _ (by rw [e]; exact hty)) _⟩, ChgW.of_chg (hch.mono (Nat.le_refl _) (by simp))⟩
    rw [nums_set] at hst
    rw [List.length_set]
    exact hst.1
theorem FS.rowAt {gr c m : Nat} (h : FS B w gf gm s (.slice (some ⟨gr, 0, none⟩) m c) d L n f) {i : Nat} (hi : i < L.length) : w.cell? ⟨gr, i, none⟩ = some (.int .i64 (L.getD i 0)) ∧ w.frozen? ⟨gr, i, none⟩ = false ∧
    ∀ x : Int, FS B (w.setCell ⟨gr, i, none⟩ (.int .i64 x)) gf gm s (.slice (some ⟨gr, 0, none⟩) m c) d (L.set i x) n f ∧ ChgW B [84, 3] w (w.setCell ⟨gr, i, none⟩ (.int .i64 x)) := by
  obtain ⟨gr', c', hv, h1, h2, _, _, h3⟩ := h.row hi
  injection hv with e1 e2 e3
  injection e1 with e1
  injection e1 with e1
  subst e1
  exact ⟨h1, h2, h3⟩
theorem own_head {base m : Nat} {e : TypeId} {size : Nat} {xs : List Value} (h : w.ownsRow base e size v m xs) (hm : 0 < m) : ∃ g c, v = .slice (some ⟨g, 0, none⟩) m c := by
  rcases h.2 with ⟨rfl, h0⟩ | ⟨g, cap, cur, rfl, _⟩
  · omega
  · exact ⟨_, _, rfl⟩
end
end Go.Proofs.Ytmdlhbhdlhjakaa

namespace Go.Proofs.Ytmdlhbhdlhjakaa
open Go.RowKit

theorem castL_repl (m : Nat) : castL (List.replicate m 0) = List.replicate m 0 := by simp [castL]
theorem set_code (l : List Nat) (C t m : Nat) : (castL (l ++ List.replicate (t + 1) 0 ++ codeBits C m)).set (l.length + t) ((C / 2 ^ m % 2 : Nat) : Int) = castL (l ++ List.replicate t 0 ++ codeBits C (m + 1)) := by
  have e : castL (l ++ List.replicate (t + 1) 0 ++ codeBits C m) = castL (l ++ List.replicate t 0) ++ (0 :: castL (codeBits C m)) := by
    rw [List.replicate_succ']; simp [castL]
  have hl : (castL (l ++ List.replicate t 0)).length = l.length + t := by simp [castL]
  rw [e, List.set_append_right _ _ (by rw [hl]; omega), hl, Nat.sub_self]
  simp [castL, codeBits]
set_option maxRecDepth 100000 in
theorem rput09 {w : World} {A : Option Addr} {cap : Nat} {l : List Nat} (hr : Reads w .i64 A (castL l)) (C d : Nat) (hd : d ≤ 16) (hC : C ≤ 1000000000) (hl : l.length ≤ 1000000000) {N D : Int} (hN : N = (C : Int)) (hD : D = (d : Int)) :
    Calls Try.prog 55 #[.slice A l.length cap, .int .i64 D, .int .i64 N] w fun e w' => ∃ A' c', e = .returned (.slice A' (l ++ codeBits C d).length c') ∧ Reads w' .i64 A' (castL (l ++ codeBits C d)) ∧ Below w.heap.size w w' := by
  subst hN hD
  have hlen : (l ++ codeBits C d).length = l.length + d := by rw [List.length_append, codeBits_len]
  rw [hlen]
  clear hlen
  have HR := Sealed.mk hr
  have HL := castL_len l
  have HLL := Sealed.mk HL
  clear hr HL
  go_enter Try.func55, Try.ntmps55
  go_wp2_with (first
    | ((with_reducible refine gate_dst (N := 11) rfl ?_); refine ev_lit (cs := []) (t := 3) (n := 0) ?hg ?hr ?_; (case hg => rfl); (case hr => first | (go_simp; done) | (go_simp; rfl)); intro g1 w2 hg1 hb1 hB1 hs1; have G1 := Sealed.mk hg1; have L2 := Sealed.mk hB1; have HO2 : Sealed (w2.ownsRow w.heap.size 3 1 (.slice (some ⟨g1, 0, none⟩) 0 0) 0 (nums .i64 (castL []))) := ⟨hb1.owns (by rw [G1.out]; exact Nat.le_refl _) (by decide)⟩; have HR2 := Sealed.mk (HR.out.below hB1); clear hg1 hb1 hB1 hs1)
    | ((with_reducible refine gate_dst (N := 13) rfl ?_); refine wp_app_row w.heap.size rfl (.tmp 11) (.tmp 12) 22 3 .i64 8 rfl Try.underlying22 info_i64 (by decide) _ 0 _ (castL l) A cap rfl (by rw [HLL.out]; rfl) HO2.out HR2.out L2.out.size (by rw [HLL.out]; omega) ?_; intro v4 w4 ho4 hg4; have HO4 : Sealed (w4.ownsRow w.heap.size 3 1 v4 l.length (nums .i64 (castL l))) := ⟨by have h := ho4; rw [HLL.out, Nat.zero_add] at h; exact h⟩; obtain ⟨A4, c4, hv4⟩ := own_slice HO4.out; subst hv4; have HC4 : Sealed (Chg w.heap.size [3] w w4) := ⟨(Chg.of_below L2.out).grown HO2.out (Nat.le_refl _) (by simp) hg4⟩; clear ho4 hg4))
  go_loopg [7, 9] d (fun k s7 s9 w' => ∃ i : Nat, s9 = .int .i64 i ∧ i ≤ d ∧ Sealed (k = d - i) ∧ Sealed (w'.ownsRow w.heap.size 3 1 s7 (l.length + i) (nums .i64 (castL (l ++ List.replicate i 0)))) ∧ Sealed (Chg w.heap.size [3] w w'))
  case atStart => exact ⟨0, rfl, by omega, ⟨rfl⟩, ⟨by simpa using HO4.out⟩, HC4⟩
  case round =>
    clear HO4 HC4
    obtain ⟨i, rfl, hi, HK, HO, HC⟩ := hrel
    by_cases hlt : i < d
    · have hlt' : decide (i < d) = true := decide_eq_true hlt
      have HS : Sealed (w.heap.size ≤ wr.heap.size) := ⟨HC.out.size⟩
      go_wp2_with ((with_reducible refine gate_dst (N := 23) rfl ?_); refine wp_app1 w.heap.size rfl (.tmp 21) (.tmp 22) 22 3 (.int .i64 0) 8 rfl Try.underlying22 info_i64 rfl (by decide) _ (l.length + i) _ _ rfl rfl rfl HO.out HS.out (by omega) ?_; intro v4 w4 ho4 hg4; have HO4 := Sealed.mk ho4; have HG4 := Sealed.mk hg4; clear ho4 hg4)
      go_roundg (d - (i + 1))
      case measure => have := HK.out; omega
      case rel =>
        refine ⟨i + 1, by go_num, hlt, ⟨rfl⟩, ⟨?_⟩, ⟨HC.out.grown HO.out (Nat.le_refl _) (by simp) HG4.out⟩⟩
        have ho := HO4.out
        rw [List.replicate_succ', ← List.append_assoc, castL_snoc, nums_snoc, ← Nat.add_assoc]
        exact ho
    · obtain rfl : i = d := by omega
      have hlt' : decide (i < i) = false := decide_eq_false hlt
      have HO1 : Sealed (wr.ownsRow w.heap.size 3 1 u7 (l.length + i) (nums .i64 (castL (l ++ List.replicate i 0 ++ codeBits C 0)))) := ⟨by simpa [codeBits] using HO.out⟩
      clear HO
      go_wp2
      go_loopg [2, 10] i (fun k s2 s10 w' => ∃ (x m t : Nat) (J : Int), s2 = .int .i64 x ∧ s10 = .int .i64 J ∧ Sealed (J = (t : Int) - 1) ∧ -1 ≤ J ∧ J ≤ 15 ∧ Sealed (k = t) ∧ Sealed (m + t = i) ∧ x ≤ 1000000000 ∧ Sealed (x = C / 2 ^ m) ∧ Sealed (w'.ownsRow w.heap.size 3 1 u7 (l.length + i) (nums .i64 (castL (l ++ List.replicate t 0 ++ codeBits C m)))) ∧ Sealed (Chg w.heap.size [3] w w'))
      case atStart => exact ⟨C, 0, i, (i : Int) - 1, rfl, rfl, ⟨rfl⟩, by omega, by omega, ⟨rfl⟩, ⟨by omega⟩, hC, ⟨by simp⟩, HO1, HC⟩
      case round =>
        clear HO1 HC HK
        obtain ⟨x, m, t, J, rfl, rfl, HJ, hJ0, hJ1, HK, HMT, hx, HX, HO, HC⟩ := hrel
        by_cases hlt : 0 ≤ J
        · have hlt' : decide (0 ≤ J) = true := decide_eq_true hlt
          obtain ⟨t, rfl⟩ : ∃ t', t = t' + 1 := ⟨t - 1, by have := HJ.out; omega⟩
          obtain ⟨g5, c5, hv5⟩ := own_head HO.out (by have := HMT.out; omega)
          subst hv5
          have hJt : Sealed (J = (t : Int)) := ⟨by have := HJ.out; omega⟩
          have hix : 0 ≤ (l.length : Int) + J := by omega
          have hix2 : (l.length : Int) + J < (l.length : Int) + (i : Int) := by have := hJt.out; have := HMT.out; omega
          have hixn : ((l.length : Int) + J).toNat = l.length + t := by have := hJt.out; omega
          have hc := own_cell HO.out (i := l.length + t) (by have := HMT.out; omega)
          rw [add_plain] at hc
          have hf := World.ownsRow.frozenAt HO.out (l.length + t)
          have hty : Sealed (Typed wr g5 3 ∧ w.heap.size ≤ g5) := ⟨by obtain ⟨g, e, h1, h2⟩ := own_form HO.out (by have := HMT.out; omega); injection e with e; injection e with e; subst e; exact ⟨h2, h1⟩⟩
          obtain ⟨y, hy⟩ : ∃ y, y = (castL (l ++ List.replicate (t + 1) 0 ++ codeBits C m)).getD (l.length + t) 0 := ⟨_, rfl⟩
          rw [← hy] at hc
          clear hy
          go_wp2
          go_roundg t
          case measure => have := HK.out; omega
          case rel =>
            have hst := (World.ownsRow.stored HO.out (l.length + t) (.int .i64 ((x : Int) % 2))).1
            rw [nums_set, show (x : Int) % 2 = ((C / 2 ^ m % 2 : Nat) : Int) by rw [← HX.out]; omega, set_code] at hst
            have hch := HC.out.set_old (p := ⟨g5, l.length + t, none⟩) hty.out.2 (by simp) hty.out.1 (.int .i64 ((x : Int) % 2))
            refine ⟨x / 2, m + 1, t, J - 1, by go_num, rfl, ⟨by have := hJt.out; omega⟩, by omega, by omega, ⟨rfl⟩, ⟨by have := HMT.out; omega⟩, by omega, ⟨by rw [HX.out, Nat.div_div_eq_div_mul, Nat.pow_succ]⟩, ⟨?_⟩, ⟨hch⟩⟩
            rw [show (x : Int) % 2 = ((C / 2 ^ m % 2 : Nat) : Int) by rw [← HX.out]; omega]
            exact hst
        · have hlt' : decide (0 ≤ J) = false := decide_eq_false hlt
          have ht0 : t = 0 := by have := HJ.out; omega
          have hm : m = i := by have := HMT.out; omega
          have HO1 : Sealed (wr.ownsRow w.heap.size 3 1 u7 (l.length + i) (nums .i64 (castL (l ++ codeBits C i)))) := ⟨by have h := HO.out; rw [ht0, hm] at h; simpa using h⟩
          obtain ⟨A5, c5, hv5⟩ := own_slice HO1.out
          subst hv5
          clear ht0 hm
          go_wp2
          go_ret
          exact ⟨A5, ⟨c5, rfl⟩, own_reads HO1.out, HC.out.to_below⟩
end Go.Proofs.Ytmdlhbhdlhjakaa
