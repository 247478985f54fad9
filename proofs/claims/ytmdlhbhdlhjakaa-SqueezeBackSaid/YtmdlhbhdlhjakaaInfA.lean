/- The inflater's memory; the contracts of room, told, lengths, distances, order. -/
import Derived.Test.YtmdlhbhdlhjakaaRdr
import Derived.Test.YtmdlhbhdlhjakaaStoreR
import Derived.Deep.RegionHeld3
set_option linter.unusedVariables false
set_option linter.unusedSimpArgs false
namespace Go.Proofs.Ytmdlhbhdlhjakaa
open Go.RowKit

/-- The inflater at block gx, its reader at gr: p bits were read, the bytes o came out. -/
def InfSt (B : Nat) (w : World) (gx gr : Nat) (s : ByteArray) (most p : Nat) (o : List Nat) : Prop :=
  B ≤ gx ∧ B ≤ gr ∧ B ≤ w.heap.size ∧ (∃ v, IsBlk w gx [.pointer (some ⟨gr, 0, none⟩), v, .int .i64 most] 97 ∧ w.ownsRow B 5 1 v o.length (nums .u8 (castL o))) ∧ RdSt w gr s p ∧ ∀ x ∈ o, x < 256
section
variable {B : Nat} {w w' : World} {gx gr : Nat} {s : ByteArray} {most p : Nat} {o : List Nat}
theorem InfSt.rd (h : InfSt B w gx gr s most p o) : RdSt w gr s p := h.2.2.2.2.1
theorem InfSt.lt (h : InfSt B w gx gr s most p o) : ∀ x ∈ o, x < 256 := h.2.2.2.2.2
theorem InfSt.parts (h : InfSt B w gx gr s most p o) : ∃ A c, IsBlk w gx [.pointer (some ⟨gr, 0, none⟩), .slice A o.length c, .int .i64 most] 97 ∧ w.ownsRow B 5 1 (.slice A o.length c) o.length (nums .u8 (castL o)) := by
  obtain ⟨_, _, _, ⟨v, hb, ho⟩, _⟩ := h
  obtain ⟨A, c, rfl⟩ := own_slice ho
  exact ⟨A, c, hb, ho⟩
/-- Something was read. -/
theorem InfSt.read (h : InfSt B w gx gr s most p o) {q : Nat} (hr : RdSt w' gr s q) (hc : Chg gr [73] w w') : InfSt B w' gx gr s most q o := by
  obtain ⟨h1, h2, h3, ⟨v, hb, ho⟩, _, hl⟩ := h
  exact ⟨h1, h2, Nat.le_trans h3 hc.size, ⟨v, hb.chg hc (.inr (by decide)), owns_chg ho hc (by decide)⟩, hr, hl⟩
/-- Something else has changed. -/
theorem InfSt.chg (h : InfSt B w gx gr s most p o) {C : Nat} {T : List TypeId} (hc : Chg C T w w') (h1 : 97 ∉ T) (h2 : 73 ∉ T) (h3 : 5 ∉ T) : InfSt B w' gx gr s most p o := by
  obtain ⟨a1, a2, a3, ⟨v, hb, ho⟩, hr, hl⟩ := h
  exact ⟨a1, a2, Nat.le_trans a3 hc.size, ⟨v, hb.chg hc (.inr h1), owns_chg ho hc h3⟩, hr.chg hc (.inr h2), hl⟩
theorem InfSt.below (h : InfSt B w gx gr s most p o) (hb : Below w.heap.size w w') : InfSt B w' gx gr s most p o := h.chg (T := []) (Chg.of_below (B := 0) hb) (by simp) (by simp) (by simp)
theorem InfSt.drew (h : InfSt B w gx gr s most p o) : InfSt B w.drew gx gr s most p o := h.chg (T := []) (Chg.refl 0 [] w).drew (by simp) (by simp) (by simp)
theorem InfSt.drewN (h : InfSt B w gx gr s most p o) (n : Nat) : InfSt B (w.drewN n) gx gr s most p o := h.chg (T := []) ((Chg.refl 0 [] w).drewN n) (by simp) (by simp) (by simp)
/-- More has come out. -/
theorem InfSt.grow (h : InfSt B w gx gr s most p o) {A : Option Addr} {c : Nat} {v1 : Value} {ys : List Nat} {m : Nat} (hm : m = o.length + ys.length) (ho : w.ownsRow B 5 1 (.slice A o.length c) o.length (nums .u8 (castL o))) (hb : IsBlk w gx [.pointer (some ⟨gr, 0, none⟩), .slice A o.length c, .int .i64 most] 97)
    (ho1 : w'.ownsRow B 5 1 v1 m (nums .u8 (castL o ++ castL ys))) (hg : w.grownBy w' (Value.slice A o.length c).ownBlock) (hy : ∀ x ∈ ys, x < 256) :
    IsBlk w' gx [.pointer (some ⟨gr, 0, none⟩), .slice A o.length c, .int .i64 most] 97 ∧ InfSt B (w'.setCell ⟨gx, 1, none⟩ v1) gx gr s most p (o ++ ys) ∧ Chg B [97, 5] w (w'.setCell ⟨gx, 1, none⟩ v1) := by
  subst hm
  obtain ⟨a1, a2, a3, _, hr, hl⟩ := h
  have hb1 := hb.grown hg (hb.own_ne ho (by decide))
  have hst := (Chg.refl B [97] w').set hb1 a1 (by simp) 1 v1
  have hg1 := (Chg.refl B [5] w).grown ho (Nat.le_refl _) (by simp) hg
  have hall : Chg B [97, 5] w (w'.setCell ⟨gx, 1, none⟩ v1) := (hg1.mono (Nat.le_refl _) (by simp)).trans (hst.mono (Nat.le_refl _) (by simp))
  refine ⟨hb1, ⟨a1, a2, Nat.le_trans a3 hall.size, ⟨v1, hb1.set 1 v1, ?_⟩, hr.chg hall (.inr (by decide)), ?_⟩, hall⟩
  · have := owns_chg ho1 hst (by decide)
    rw [castL_append, List.length_append]; exact this
  · intro x hx
    rcases List.mem_append.1 hx with hx | hx
    · exact hl x hx
    · exact hy x hx
end
theorem ret_two' {a b a' b' : Int} (h1 : a = a') (h2 : b = b') : Ending.returned (Value.tuple #[.int .i64 a, .int .i64 b]) = Ending.returned (Value.tuple #[.int .i64 a', .int .i64 b']) := by subst h1 h2; rfl
/-- What a call of the inflater's has changed. -/
abbrev InfChg (B : Nat) (w w' : World) : Prop := Chg B [97, 73, 5] w w'

theorem room_ok {B : Nat} {w : World} {gx gr : Nat} {s : ByteArray} {most p : Nat} {o : List Nat} (h : InfSt B w gx gr s most p o) (n : Nat) (hn : n ≤ 1000000000) (hm : most ≤ 1000000000) (hl : o.length ≤ 1000000000) {N : Int} (hN : N = (n : Int)) :
    Calls Try.prog 114 #[.pointer (some ⟨gx, 0, none⟩), .int .i64 N] w fun e w' => e = .returned (.int .i64 (if most < o.length + n then 7 else 0)) ∧ ∃ m, w' = w.drewN m := by
  subst hN
  obtain ⟨A, c, hb, ho⟩ := h.parts
  have c1 := hb.cell 1 rfl
  have c2 := hb.cell 2 rfl
  clear hb ho h
  by_cases hc : most < o.length + n
  · rw [if_pos hc]
    have hd : decide ((most : Int) - (o.length : Int) < (n : Int)) = true := decide_eq_true (by omega)
    clear hc
    go_enter Try.func114, Try.ntmps114
    go_wp2
    go_quiet (fail)
    go_wp2
    go_ret
    exact ⟨rfl, _, rfl⟩
  · rw [if_neg hc]
    have hd : decide ((most : Int) - (o.length : Int) < (n : Int)) = false := decide_eq_false (by omega)
    clear hc
    go_enter Try.func114, Try.ntmps114
    go_wp2
    go_quiet (fail)
    go_wp2
    go_ret
    exact ⟨rfl, _, rfl⟩

/-- The error of what was told. -/
def errOf {α : Type} : Except Nat α → Nat
  | .error e => e
  | .ok _ => 0
def valOf (d : Nat) : Except Nat (Nat × Nat) → Nat
  | .error _ => d
  | .ok x => x.1
def posOf (p : Nat) : Except Nat (Nat × Nat) → Nat
  | .error _ => p
  | .ok x => x.2
theorem get_any {w : World} {g : Nat} {s : ByteArray} {p : Nat} (h : RdSt w g s p) (hs : s.size ≤ 140737488355328) (d : Nat) (hd : d ≤ 16) :
    Calls Try.prog 44 #[.pointer (some ⟨g, 0, none⟩), .int .i64 d] w fun e w' => e = .returned (.tuple #[.int .i64 (valOf 0 (getS s p d)), .int .i64 (errOf (getS s p d))]) ∧ Chg g [73] w w' ∧ RdSt w' g s (posOf p (getS s p d)) := by
  unfold getS
  by_cases c : p + d ≤ 8 * s.size
  · rw [if_pos c]; exact get_ok h hs d hd c
  · rw [if_neg c]; exact get_short h hs d hd (by omega)
set_option maxRecDepth 100000 in
theorem told_ok {B : Nat} {w : World} {gx gr : Nat} {s : ByteArray} {most p : Nat} {o : List Nat} (h : InfSt B w gx gr s most p o) (hs : s.size ≤ 140737488355328) (a b : Nat) (ha : a ≤ 100000) (hb : b ≤ 16) :
    Calls Try.prog 128 #[.pointer (some ⟨gx, 0, none⟩), .agg #[.int .i64 a, .int .i64 b]] w fun e w' => e = .returned (.tuple #[.int .i64 (valOf a (toldS s (a, b) p)), .int .i64 (errOf (toldS s (a, b) p))]) ∧ InfSt B w' gx gr s most (posOf p (toldS s (a, b) p)) o ∧ InfChg B w w' := by
  have e1 : valOf a (toldS s (a, b) p) = a + valOf 0 (getS s p b) := by
    unfold toldS; cases getS s p b <;> rfl
  have e2 : errOf (toldS s (a, b) p) = errOf (getS s p b) := by
    unfold toldS; cases getS s p b <;> rfl
  have e3 : posOf p (toldS s (a, b) p) = posOf p (getS s p b) := by
    unfold toldS; cases getS s p b <;> rfl
  rw [e1, e2, e3]
  have hv : valOf 0 (getS s p b) ≤ 65536 := by
    cases hg : getS s p b with
    | error e => simp [valOf]
    | ok x =>
      obtain ⟨n, q⟩ := x
      have h1 := (getS_ok hg).2.2
      have h2 := val_lt (bit_le s) p b
      have h3 : 2 ^ b ≤ 2 ^ 16 := Nat.pow_le_pow_right (by decide) hb
      simp only [valOf]; omega
  have HG : Sealed (∀ w', RdSt w' gr s p → Calls Try.prog 44 #[.pointer (some ⟨gr, 0, none⟩), .int .i64 b] w' fun e w'' => e = .returned (.tuple #[.int .i64 (valOf 0 (getS s p b)), .int .i64 (errOf (getS s p b))]) ∧ Chg gr [73] w' w'' ∧ RdSt w'' gr s (posOf p (getS s p b))) := ⟨fun w' h => get_any h hs b hb⟩
  generalize valOf 0 (getS s p b) = V at *
  generalize errOf (getS s p b) = E at *
  generalize posOf p (getS s p b) = P at *
  have H := Sealed.mk h
  clear h e1 e2 e3
  go_enter Try.func128, Try.ntmps128
  go_wp2_with ((with_reducible refine gate_dst (N := 3) rfl ?_); refine ev_box (cs := [.int .i64 a, .int .i64 b]) (t := 164) ?hg ?hr ?_; (case hg => rfl); (case hr => first | (go_simp; done) | (go_simp; rfl)); intro g1 w1 hg1 hb1 hB1 hs1; have B1 := Sealed.mk hb1; have H1 := Sealed.mk (H.out.below hB1); have C1 : Sealed (InfChg B w w1) := ⟨Chg.of_below hB1⟩; clear hg1 hb1 hB1 hs1)
  obtain ⟨A, c, hb0, _⟩ := H1.out.parts
  have x0 := hb0.cell 0 rfl
  have y0 := B1.out.cell 0 rfl
  have y1 := B1.out.cell 1 rfl
  clear H
  go_wp2
  go_region_held3 (fun w' => w'.cell? ⟨gx, 0, none⟩ = some (.pointer (some ⟨gr, 0, none⟩)) ∧ w'.cell? ⟨g1, 1, none⟩ = some (.int .i64 b)) (first | go_keep | exact ⟨‹_›, ‹_›⟩)
    (first | (go_at_call 44; refine (HG.out _ H1.out.drew.rd).mono ?_; rintro e w2 ⟨rfl, hc, hr⟩; have C2 : Sealed (InfChg B w w2) := ⟨C1.out.drew.trans (hc.mono H1.out.2.1 (by simp))⟩; have z0 := (B1.out.drew.chg hc (.inr (by decide))).cell 0 rfl; have z1 := (B1.out.drew.chg hc (.inr (by decide))).cell 1 rfl; have k0 := (hb0.drew.chg hc (.inr (by decide))).cell 0 rfl; have H2 := Sealed.mk (H1.out.drew.read hr hc); clear hc hr))
  clear x0 y0 y1 z1 k0 hb0 H1 C1 B1
  go_wp2
  go_ret2
  exact ⟨ret_two' (by omega) rfl, H2.out, C2.out⟩
end Go.Proofs.Ytmdlhbhdlhjakaa
