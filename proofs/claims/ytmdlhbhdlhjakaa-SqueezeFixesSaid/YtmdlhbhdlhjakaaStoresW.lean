/- The walk of the statement SqueezeStores. -/
import Derived.Test.YtmdlhbhdlhjakaaBest
import Derived.Test.YtmdlhbhdlhjakaaStoreR
set_option linter.unusedVariables false
set_option linter.unusedSimpArgs false
namespace Go.Proofs.Ytmdlhbhdlhjakaa
open Go.RowKit

theorem rstored_any (s : ByteArray) (w : World) (hs : s.size ≤ 60000000) : Calls Try.prog 26 #[.string s] w fun e w' => e = .returned (.string (storedB s)) ∧ Below w.heap.size w w' :=
  rstored_ok s (s.size / 65535 + 1) w (by omega) (by omega) (by omega)
set_option maxRecDepth 100000 in
theorem stores_walk (s : ByteArray) (w : World) : Calls Try.prog 5 #[.string s] w fun e w' => e = .returned (.bool true) ∧ Below w.heap.size w w' := by
  by_cases h : 70000 < s.size
  · have h' : decide (70000 < s.size) = true := decide_eq_true h
    go_enter Try.func5, Try.ntmps5
    go_wp2_with fail
    refine (squeezed_any _).mono ?_
    rintro e w1 ⟨rfl, hb⟩
    have B1 := Sealed.mk hb
    clear hb
    go_wp2
    go_ret
    exact ⟨rfl, B1.out⟩
  · have H1 : Sealed (∀ w, Calls Try.prog 25 #[.string s] w fun e w' => e = .returned (.string (storedB s)) ∧ Below w.heap.size w w') := ⟨fun w => stored_any s w (by omega)⟩
    have H2 : Sealed (∀ w, Calls Try.prog 26 #[.string s] w fun e w' => e = .returned (.string (storedB s)) ∧ Below w.heap.size w w') := ⟨fun w => rstored_any s w (by omega)⟩
    have h' : decide (70000 < s.size) = false := decide_eq_false h
    generalize storedB s = a at *
    have h0 : ¬ (70000 : Int) < (s.size : Int) := by omega
    go_enter Try.func5, Try.ntmps5
    go_wp2_with fail
    refine (H1.out _).mono ?_
    rintro e w1 ⟨rfl, hb⟩
    have B1 := Sealed.mk hb
    clear hb
    go_wp2_with fail
    refine (H2.out _).mono ?_
    rintro e w2 ⟨rfl, hb⟩
    have B2 := Sealed.mk (B1.out.trans (hb.mono B1.out.size))
    clear hb B1
    go_wp2_with fail
    refine (squeezed_any _).mono ?_
    rintro e w3 ⟨rfl, hb⟩
    have B3 := Sealed.mk (B2.out.trans (hb.mono B2.out.size))
    clear hb B2
    go_wp2
    go_ret
    exact ⟨rfl, B3.out⟩
end Go.Proofs.Ytmdlhbhdlhjakaa
