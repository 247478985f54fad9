/- The contracts of package squeeze's Best, of the law's 'squeezed'. -/
import Derived.Test.YtmdlhbhdlhjakaaFixed
set_option linter.unusedVariables false
set_option linter.unusedSimpArgs false
namespace Go.Proofs.Ytmdlhbhdlhjakaa
open Go.RowKit

def storedB (s : ByteArray) : ByteArray := strOfNums (castL (storedL (s.size / 65535 + 1) s))
def fixedB (s : ByteArray) : ByteArray := textOf (fixBits s)
def bestB (s : ByteArray) : ByteArray := if (fixedB s).size < (storedB s).size then fixedB s else storedB s
theorem stored_any (s : ByteArray) (w : World) (hs : s.size ≤ 60000000) : Calls Try.prog 25 #[.string s] w fun e w' => e = .returned (.string (storedB s)) ∧ Below w.heap.size w w' :=
  stored_ok s (s.size / 65535 + 1) w (by omega) (by omega) (by omega)
theorem fixed_any (s : ByteArray) (w : World) (hs : s.size ≤ 60000000) : Calls Try.prog 28 #[.string s] w fun e w' => e = .returned (.string (fixedB s)) ∧ Below w.heap.size w w' :=
  fixed_ok s w (by omega)
set_option maxRecDepth 100000 in
theorem best_any (s : ByteArray) (w : World) (hs : s.size ≤ 60000000) : Calls Try.prog 30 #[.string s] w fun e w' => e = .returned (.string (bestB s)) ∧ Below w.heap.size w w' := by
  obtain ⟨R, hR⟩ : ∃ R, R = bestB s := ⟨_, rfl⟩
  rw [← hR]
  have HF := Sealed.mk (fixed_any s w hs)
  have HS : Sealed (∀ w, Calls Try.prog 25 #[.string s] w fun e w' => e = .returned (.string (storedB s)) ∧ Below w.heap.size w w') := ⟨fun w => stored_any s w hs⟩
  unfold bestB at hR
  generalize fixedB s = a at *
  generalize storedB s = b at *
  have HR := Sealed.mk hR
  clear hR
  by_cases h : a.size < b.size
  · have h' : decide (a.size < b.size) = true := decide_eq_true h
    have HR2 : Sealed (R = a) := ⟨by rw [HR.out, if_pos h]⟩
    clear h
    go_enter Try.func30, Try.ntmps30
    go_wp2_with fail
    refine HF.out.mono ?_
    rintro e w1 ⟨rfl, hb⟩
    have B1 := Sealed.mk hb
    clear hb
    go_wp2_with fail
    refine (HS.out _).mono ?_
    rintro e w2 ⟨rfl, hb⟩
    have B2 := Sealed.mk hb
    clear hb
    go_wp2
    go_ret
    rw [HR2.out]
    exact ⟨rfl, B1.out.trans (B2.out.mono B1.out.size)⟩
  · have h' : decide (a.size < b.size) = false := decide_eq_false h
    have HR2 : Sealed (R = b) := ⟨by rw [HR.out, if_neg h]⟩
    clear h
    go_enter Try.func30, Try.ntmps30
    go_wp2_with fail
    refine HF.out.mono ?_
    rintro e w1 ⟨rfl, hb⟩
    have B1 := Sealed.mk hb
    clear hb
    go_wp2_with fail
    refine (HS.out _).mono ?_
    rintro e w2 ⟨rfl, hb⟩
    have B2 := Sealed.mk hb
    clear hb
    go_wp2
    go_ret
    rw [HR2.out]
    exact ⟨rfl, B1.out.trans (B2.out.mono B1.out.size)⟩

theorem sq_a : fixedB ⟨#[97]⟩ = ⟨#[75, 4, 0]⟩ := by decide +kernel
theorem sq_aaaa : fixedB ⟨#[97, 97, 97, 97]⟩ = ⟨#[75, 4, 2, 0]⟩ := by decide +kernel
theorem sq_nil : storedB ⟨#[]⟩ = ⟨#[1, 0, 0, 255, 255]⟩ := by decide +kernel
theorem sq_best : bestB ⟨#[97, 97, 97, 97]⟩ = ⟨#[75, 4, 2, 0]⟩ := by decide +kernel
set_option maxRecDepth 100000 in
theorem squeezed_any (w : World) : Calls Try.prog 27 #[] w fun e w' => e = .returned (.bool true) ∧ Below w.heap.size w w' := by
  have H1 : Sealed (∀ w, Calls Try.prog 28 #[.string ⟨#[97]⟩] w fun e w' => e = .returned (.string ⟨#[75, 4, 0]⟩) ∧ Below w.heap.size w w') := ⟨fun w => by have h := fixed_any ⟨#[97]⟩ w (by decide); rw [sq_a] at h; exact h⟩
  have H2 : Sealed (∀ w, Calls Try.prog 28 #[.string ⟨#[97, 97, 97, 97]⟩] w fun e w' => e = .returned (.string ⟨#[75, 4, 2, 0]⟩) ∧ Below w.heap.size w w') := ⟨fun w => by have h := fixed_any ⟨#[97, 97, 97, 97]⟩ w (by decide); rw [sq_aaaa] at h; exact h⟩
  have H3 : Sealed (∀ w, Calls Try.prog 25 #[.string ⟨#[]⟩] w fun e w' => e = .returned (.string ⟨#[1, 0, 0, 255, 255]⟩) ∧ Below w.heap.size w w') := ⟨fun w => by have h := stored_any ⟨#[]⟩ w (by decide); rw [sq_nil] at h; exact h⟩
  have H4 : Sealed (∀ w, Calls Try.prog 30 #[.string ⟨#[97, 97, 97, 97]⟩] w fun e w' => e = .returned (.string ⟨#[75, 4, 2, 0]⟩) ∧ Below w.heap.size w w') := ⟨fun w => by have h := best_any ⟨#[97, 97, 97, 97]⟩ w (by decide); rw [sq_best] at h; exact h⟩
  go_enter Try.func27, Try.ntmps27
  go_wp2_with fail
  refine (H1.out _).mono ?_
  rintro e w1 ⟨rfl, hb⟩
  have B1 := Sealed.mk hb
  clear hb
  go_wp2_with fail
  refine (H2.out _).mono ?_
  rintro e w2 ⟨rfl, hb⟩
  have B2 := Sealed.mk (B1.out.trans (hb.mono B1.out.size))
  clear hb B1
  go_wp2_with fail
  refine (H3.out _).mono ?_
  rintro e w3 ⟨rfl, hb⟩
  have B3 := Sealed.mk (B2.out.trans (hb.mono B2.out.size))
  clear hb B2
  go_wp2_with fail
  refine (H4.out _).mono ?_
  rintro e w4 ⟨rfl, hb⟩
  have B4 := Sealed.mk (B3.out.trans (hb.mono B3.out.size))
  clear hb B3
  go_wp2
  go_ret
  exact ⟨rfl, B4.out⟩
end Go.Proofs.Ytmdlhbhdlhjakaa
