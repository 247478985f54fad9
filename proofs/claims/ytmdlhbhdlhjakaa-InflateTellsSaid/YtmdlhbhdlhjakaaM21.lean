/- The contract of package inflate's inflater: repeat. -/
import Derived.Deep.DrawnRows
import Derived.Test.YtmdlhbhdlhjakaaM20
set_option linter.unusedVariables false
set_option linter.unusedSimpArgs false
namespace Go.Proofs.Ytmdlhbhdlhjakaa
open Go.RowKit

theorem own_head2 {w : World} {v : Value} {base m : Nat} {e : TypeId} {size : Nat} {xs : List Value} (h : w.ownsRow base e size v m xs) (hm : 0 < m) : ∃ g c, v = .slice (some ⟨g, 0, none⟩) m c := by
  rcases h.2 with ⟨rfl, h0⟩ | ⟨g, cap, cur, rfl, _⟩
  · omega
  · exact ⟨_, _, rfl⟩
theorem copyL_snoc (b : Nat) : ∀ (n : Nat) (o : List Nat), copyL b (n + 1) o = copyL b n o ++ [(copyL b n o).getD ((copyL b n o).length - b) 0]
  | 0, o => rfl
  | n + 1, o => by
    rw [copyL, copyL_snoc b n]; rfl
theorem copyL_lt {b : Nat} : ∀ (n : Nat) (o : List Nat), (∀ x ∈ o, x < 256) → ∀ x ∈ copyL b n o, x < 256
  | 0, o, h => h
  | n + 1, o, h => copyL_lt n _ (fun x hx => by
    rcases List.mem_append.1 hx with hx | hx
    · exact h x hx
    · simp at hx
      subst hx
      by_cases hi : o.length - b < o.length
      · rw [List.getElem?_eq_getElem hi]; exact h _ (List.getElem_mem hi)
      · rw [List.getElem?_eq_none (by omega)]; decide)
theorem symS_of (s : ByteArray) (ls : List Int) (p : Nat) : errOf (symS s ls p) = (readOf ls (bit s) (8 * s.size) p).2.1.toNat := by
  unfold symS
  split
  · rename_i h; rw [h]; rfl
  · rfl
theorem readFrom_err {ls : List Int} {f : Nat → Nat} {lim : Nat} : ∀ k n p c h a, 0 ≤ (readFrom ls f lim k n p c h a).2.1 ∧ (readFrom ls f lim k n p c h a).2.1 ≤ 5
  | 0, n, p, c, h, a => by simp [readFrom]
  | k + 1, n, p, c, h, a => by
    simp only [readFrom]
    split
    · simp
    · split
      · exact readFrom_err _ _ _ _ _ _
      · simp
theorem readFrom_zero {ls : List Int} {f : Nat → Nat} {lim : Nat} : ∀ k n p c h a, (readFrom ls f lim k n p c h a).2.1 ≠ 0 → (readFrom ls f lim k n p c h a).1 = 0
  | 0, n, p, c, h, a => by simp [readFrom]
  | k + 1, n, p, c, h, a => by
    simp only [readFrom]
    split
    · simp
    · split
      · exact readFrom_zero _ _ _ _ _ _
      · simp
theorem symsUpto_mem (ls : List Int) : ∀ n, ∀ x ∈ symsUpto ls n, 0 ≤ x ∧ x < ls.length
  | 0 => by simp [symsUpto]
  | n + 1 => by
    intro x hx
    rw [symsUpto] at hx
    rcases List.mem_append.1 hx with hx | hx
    · exact symsUpto_mem ls n x hx
    · simp only [idxOf, idxPart, List.mem_map, List.mem_filter, List.mem_range] at hx
      obtain ⟨i, ⟨hi, _⟩, rfl⟩ := hx
      show (0 : Int) ≤ (i : Int) ∧ (i : Int) < ls.length
      omega
theorem readFrom_sym {ls : List Int} {f : Nat → Nat} {lim : Nat} (h0 : 0 < ls.length) : ∀ k n p c h a, 0 ≤ (readFrom ls f lim k n p c h a).1 ∧ (readFrom ls f lim k n p c h a).1 < ls.length
  | 0, n, p, c, h, a => by simp [readFrom]; omega
  | k + 1, n, p, c, h, a => by
    simp only [readFrom]
    split
    · simp; omega
    · split
      · exact readFrom_sym h0 _ _ _ _ _ _
      · simp only [List.getD_eq_getElem?_getD]
        by_cases hi : a + (2 * c + (f p : Int) - h * 2).toNat < (symsOf ls).length
        · rw [List.getElem?_eq_getElem hi]; exact symsUpto_mem ls 15 _ (List.getElem_mem hi)
        · rw [List.getElem?_eq_none (by omega)]; simp; omega
theorem symS_lt {s : ByteArray} {ls : List Int} {p n q : Nat} (h : symS s ls p = .ok (n, q)) (h0 : 0 < ls.length) : n < ls.length := by
  obtain ⟨x, hx, hn⟩ := symS_read h
  have := readFrom_sym (f := bit s) (lim := 8 * s.size) h0 (longOf ls).toNat 1 p 0 0 0
  unfold readOf at hx
  rw [hx] at this
  simp only at this
  omega
theorem sym_ok {B : Nat} {w : World} {gt gx gr : Nat} {ls : List Int} {s : ByteArray} {most p : Nat} {o : List Nat} {B2 : Nat} (ht : TrSt B2 w gt ls) (h : InfSt B w gx gr s most p o) (hs : s.size ≤ 140737488355328) (hn : ls.length ≤ 320) (ha : ls.all lenOk = true) (h0 : 0 < ls.length) :
    Calls Try.prog 19 #[.pointer (some ⟨gt, 0, none⟩), .pointer (some ⟨gr, 0, none⟩)] w fun e w' => e = .returned (.tuple #[.int .i64 (valOf 0 (symS s ls p)), .int .i64 (errOf (symS s ls p))]) ∧ InfSt B w' gx gr s most (posOf (readOf ls (bit s) (8 * s.size) p).2.2 (symS s ls p)) o ∧ TrSt B2 w' gt ls ∧ Chg gr [73] w w' := by
  refine (read_any ht h.rd hs hn ha).mono fun e w' ⟨he, hr, hc⟩ => ?_
  have h1 := readFrom_err (ls := ls) (f := bit s) (lim := 8 * s.size) (longOf ls).toNat 1 p 0 0 0
  have h2 := readFrom_sym (f := bit s) (lim := 8 * s.size) h0 (longOf ls).toNat 1 p 0 0 0
  have h3 := readFrom_zero (ls := ls) (f := bit s) (lim := 8 * s.size) (longOf ls).toNat 1 p 0 0 0
  have e1 : ((valOf 0 (symS s ls p) : Nat) : Int) = (readOf ls (bit s) (8 * s.size) p).1 := by
    unfold symS
    change (readOf ls (bit s) (8 * s.size) p).2.1 ≠ 0 → (readOf ls (bit s) (8 * s.size) p).1 = 0 at h3
    split
    · simp only [valOf]; exact Int.toNat_of_nonneg h2.1
    · rename_i hne; rw [h3 hne]; rfl
  have e2 : ((errOf (symS s ls p) : Nat) : Int) = (readOf ls (bit s) (8 * s.size) p).2.1 := by
    rw [symS_of]; exact Int.toNat_of_nonneg h1.1
  have e3 : posOf (readOf ls (bit s) (8 * s.size) p).2.2 (symS s ls p) = (readOf ls (bit s) (8 * s.size) p).2.2 := by
    unfold symS; split <;> rfl
  rw [e1, e2, e3]
  exact ⟨he, h.read hr hc, ht.chg hc (by decide) (by decide), hc⟩
end Go.Proofs.Ytmdlhbhdlhjakaa
