/- The contract of the document's answer's Best; the walk of the statement SqueezeFixes. -/
import Derived.Test.YtmdlhbhdlhjakaaRefX
import Derived.Test.YtmdlhbhdlhjakaaStoresW
set_option linter.unusedVariables false
set_option linter.unusedSimpArgs false
namespace Go.Proofs.Ytmdlhbhdlhjakaa
open Go.RowKit

set_option maxRecDepth 100000 in
theorem rbest_any (s : ByteArray) (w : World) (hs : s.size ≤ 1000000) : Calls Try.prog 31 #[.string s] w fun e w' => e = .returned (.string (bestB s)) ∧ Below w.heap.size w w' := by
  obtain ⟨R, hR⟩ : ∃ R, R = bestB s := ⟨_, rfl⟩
  rw [← hR]
  have HF := Sealed.mk (rfixed11 s w hs)
  have HS : Sealed (∀ w, Calls Try.prog 26 #[.string s] w fun e w' => e = .returned (.string (storedB s)) ∧ Below w.heap.size w w') := ⟨fun w => rstored_any s w (by omega)⟩
  unfold bestB at hR
  generalize fixedB s = a at *
  generalize storedB s = b at *
  have HR := Sealed.mk hR
  clear hR
  by_cases h : a.size < b.size
  · have h' : decide (a.size < b.size) = true := decide_eq_true h
    have HR2 : Sealed (R = a) := ⟨by rw [HR.out, if_pos h]⟩
    clear h
    go_enter Try.func31, Try.ntmps31
    go_wp2_with fail
    refine HF.out.mono ?_
    rintro e w1 ⟨rfl, hb⟩
    have B1 := Sealed.mk hb
    clear hb
    go_wp2_with fail
    refine (HS.out _).mono ?_
    rintro e w2 ⟨rfl, hb⟩
    have B2 := Sealed.mk hb
    clear hb
    go_wp2
    go_ret
    rw [HR2.out]
    exact ⟨rfl, B1.out.trans (B2.out.mono B1.out.size)⟩
  · have h' : decide (a.size < b.size) = false := decide_eq_false h
    have HR2 : Sealed (R = b) := ⟨by rw [HR.out, if_neg h]⟩
    clear h
    go_enter Try.func31, Try.ntmps31
    go_wp2_with fail
    refine HF.out.mono ?_
    rintro e w1 ⟨rfl, hb⟩
    have B1 := Sealed.mk hb
    clear hb
    go_wp2_with fail
    refine (HS.out _).mono ?_
    rintro e w2 ⟨rfl, hb⟩
    have B2 := Sealed.mk hb
    clear hb
    go_wp2
    go_ret
    rw [HR2.out]
    exact ⟨rfl, B1.out.trans (B2.out.mono B1.out.size)⟩

set_option maxRecDepth 100000 in
theorem fixes_walk (s : ByteArray) (w : World) : Calls Try.prog 6 #[.string s] w fun e w' => e = .returned (.bool true) ∧ Below w.heap.size w w' := by
  by_cases h : 300 < s.size
  · have h' : decide (300 < s.size) = true := decide_eq_true h
    go_enter Try.func6, Try.ntmps6
    go_wp2_with fail
    refine (squeezed_any _).mono ?_
    rintro e w1 ⟨rfl, hb⟩
    have B1 := Sealed.mk hb
    clear hb
    go_wp2
    go_ret
    exact ⟨rfl, B1.out⟩
  · have H1 : Sealed (∀ w, Calls Try.prog 28 #[.string s] w fun e w' => e = .returned (.string (fixedB s)) ∧ Below w.heap.size w w') := ⟨fun w => fixed_any s w (by omega)⟩
    have H2 : Sealed (∀ w, Calls Try.prog 29 #[.string s] w fun e w' => e = .returned (.string (fixedB s)) ∧ Below w.heap.size w w') := ⟨fun w => rfixed11 s w (by omega)⟩
    have H3 : Sealed (∀ w, Calls Try.prog 30 #[.string s] w fun e w' => e = .returned (.string (bestB s)) ∧ Below w.heap.size w w') := ⟨fun w => best_any s w (by omega)⟩
    have H4 : Sealed (∀ w, Calls Try.prog 31 #[.string s] w fun e w' => e = .returned (.string (bestB s)) ∧ Below w.heap.size w w') := ⟨fun w => rbest_any s w (by omega)⟩
    have h' : decide (300 < s.size) = false := decide_eq_false h
    have h0 : ¬ (300 : Int) < (s.size : Int) := by omega
    generalize fixedB s = a at *
    generalize bestB s = b at *
    go_enter Try.func6, Try.ntmps6
    go_wp2_with fail
    refine (H1.out _).mono ?_
    rintro e w1 ⟨rfl, hb⟩
    have B1 := Sealed.mk hb
    clear hb
    go_wp2_with fail
    refine (H2.out _).mono ?_
    rintro e w2 ⟨rfl, hb⟩
    have B2 := Sealed.mk (B1.out.trans (hb.mono B1.out.size))
    clear hb B1
    go_wp2_with fail
    refine (H3.out _).mono ?_
    rintro e w3 ⟨rfl, hb⟩
    have B3 := Sealed.mk (B2.out.trans (hb.mono B2.out.size))
    clear hb B2
    go_wp2_with fail
    refine (H4.out _).mono ?_
    rintro e w4 ⟨rfl, hb⟩
    have B4 := Sealed.mk (B3.out.trans (hb.mono B3.out.size))
    clear hb B3
    go_wp2_with fail
    refine (squeezed_any _).mono ?_
    rintro e w5 ⟨rfl, hb⟩
    have B5 := Sealed.mk (B4.out.trans (hb.mono B4.out.size))
    clear hb B4
    go_wp2
    go_ret
    exact ⟨rfl, B5.out⟩
end Go.Proofs.Ytmdlhbhdlhjakaa
