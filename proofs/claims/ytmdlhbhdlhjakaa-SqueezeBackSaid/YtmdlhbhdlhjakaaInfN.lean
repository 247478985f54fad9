/- The contract of package inflate's Inflate. -/
import Derived.Test.YtmdlhbhdlhjakaaInfM
set_option linter.unusedVariables false
set_option linter.unusedSimpArgs false
namespace Go.Proofs.Ytmdlhbhdlhjakaa
open Go.RowKit

def inflEnd : Except Nat (List Nat × Nat) → Ending
  | .error e => .returned (.tuple #[.string ⟨#[]⟩, .int .i64 0, .int .i64 e])
  | .ok (o, n) => .returned (.tuple #[.string (strOfNums (castL o)), .int .i64 n, .int .i64 0])
theorem ret_infl {a a' : ByteArray} {b b' c c' : Int} (h1 : a = a') (h2 : b = b') (h3 : c = c') : Ending.returned (Value.tuple #[.string a, .int .i64 b, .int .i64 c]) = Ending.returned (Value.tuple #[.string a', .int .i64 b', .int .i64 c']) := by subst h1 h2 h3; rfl
theorem kindS_len {s : ByteArray} {most p last p1 kind p2 q : Nat} {o o' : List Nat} {l : Bool} (ho : o.length ≤ most) (h : stepS s most p o = .ok (l, o', q)) : o'.length ≤ most ∧ p < q := by
  unfold stepS at h
  cases h1 : getS s p 1 with
  | error e1 => rw [h1] at h; cases h
  | ok r =>
    obtain ⟨last, p1⟩ := r
    rw [h1] at h
    simp only at h
    cases h2 : getS s p1 2 with
    | error e1 => rw [h2] at h; cases h
    | ok r =>
      obtain ⟨kind, p2⟩ := r
      rw [h2] at h
      simp only at h
      cases h3 : kindS s most kind p2 o with
      | error e1 => rw [h3] at h; cases h
      | ok r =>
        obtain ⟨o1, q1⟩ := r
        rw [h3] at h
        simp at h
        obtain ⟨_, rfl, rfl⟩ := h
        have a1 := getS_ok h1
        have a2 := getS_ok h2
        have a3 := kindS_pos h3
        exact ⟨a3.2.2.2 ho, by omega⟩
theorem inflate_neg (s : ByteArray) (most : Int) (hm : most < 0) (w : World) :
    Calls Try.prog 33 #[.string s, .int .i64 most] w fun e w' => e = inflEnd (.error 2) ∧ Below w.heap.size w w' := by
  have hd : decide (most < 0) = true := decide_eq_true hm
  go_enter Try.func33, Try.ntmps33
  go_wp2
  go_ret3
  exact ⟨rfl, Below.refl _ _⟩
set_option maxRecDepth 100000 in
set_option maxHeartbeats 2000000 in
theorem inflate_any (s : ByteArray) (most : Nat) (hs : s.size ≤ 1000000000) (hm : most ≤ 100000000) (w : World) :
    Calls Try.prog 33 #[.string s, .int .i64 most] w fun e w' => e = inflEnd (inflateS s most) ∧ Below w.heap.size w w' := by
  obtain ⟨R, hR⟩ : ∃ R, R = inflateS s most := ⟨_, rfl⟩
  rw [← hR]
  have HR := Sealed.mk hR
  have HS : Sealed (s.size ≤ 140737488355328) := ⟨by omega⟩
  clear hR
  have hmi : decide ((most : Int) < 0) = false := decide_eq_false (by omega)
  go_enter Try.func33, Try.ntmps33
  go_wp2_with fail
  refine (newReader_any s w).mono ?_
  rintro e w1 ⟨rfl, hr, hb, hl⟩
  have R1 := Sealed.mk hr
  have B1 := Sealed.mk hb
  have L1 := Sealed.mk hl
  clear hr hb hl
  go_wp2_with ((with_reducible refine gate_dst (N := 16) rfl ?_); refine ev_box (cs := [.pointer (some ⟨w.heap.size, 0, none⟩), .slice none 0 0, .int .i64 most]) (t := 97) ?hg ?hr ?_; (case hg => rfl); (case hr => first | (go_simp; done) | (go_simp; rfl)); intro gx w2 hg2 hb2 hB2 hs2; have G2 := Sealed.mk hg2; have X2 := Sealed.mk hb2; have L2 := Sealed.mk hB2; clear hg2 hb2 hB2 hs2)
  have H2 : Sealed (InfSt w.heap.size w2 gx w.heap.size s most 0 []) := ⟨⟨by rw [G2.out]; exact B1.out.size, Nat.le_refl _, Nat.le_trans B1.out.size L2.out.size, ⟨_, X2.out, own_nil _ _ _ _⟩, R1.out.chg (T := []) (Chg.of_below (B := 0) L2.out) (.inr (by simp)), by simp⟩⟩
  have C2 : Sealed (InfChg w.heap.size w w2) := ⟨(Chg.of_below B1.out).below_step L2.out⟩
  generalize hB : w.heap.size = B at *
  have HB := Sealed.mk hB
  clear hB
  clear G2 X2 L2 R1 B1 L1 hmi
  go_loopg [8, 9] (8 * s.size + 1) (fun k s8 s9 w' => ∃ (p : Nat) (o : List Nat), Sealed (InfSt B w' gx B s most p o) ∧ Sealed (o.length ≤ most) ∧ Sealed (inflS s most k p o = R) ∧ Sealed (8 * s.size < p + k) ∧ Sealed (InfChg B w w'))
  case atStart => exact ⟨0, [], H2, ⟨by simp⟩, ⟨HR.out.symm⟩, ⟨by omega⟩, C2⟩
  case round =>
    clear H2 C2 HR
    obtain ⟨p, o, H, HO, HE, HK, HC⟩ := hrel
    obtain ⟨k, rfl⟩ : ∃ k, gk = k + 1 := ⟨gk - 1, by have := HK.out; have := H.out.rd.le; omega⟩
    go_wp2_with fail
    refine (iblock_ok H.out hs hm HO.out).mono ?_
    rintro e w3 hp
    have HP := Sealed.mk hp
    have he := HE.out
    rw [inflS_succ] at he
    clear hp H HE
    cases hst : stepS s most p o with
    | error er =>
      rw [hst] at HP he
      obtain ⟨hc, ⟨b, rfl⟩, h1⟩ := HP.out
      have HRE := Sealed.mk he
      have C3 : Sealed (InfChg B w w3) := ⟨HC.out.trans hc⟩
      have hne : ((er : Int) != 0) = true := by simp; omega
      clear hst HP he hc HC
      go_wp2
      go_ret3
      rw [← HRE.out]
      exact ⟨rfl, (HB.out ▸ C3.out : InfChg w.heap.size w w3).to_below⟩
    | ok r =>
      obtain ⟨l, o', q⟩ := r
      have hln := kindS_len HO.out hst (last := 0) (p1 := 0) (kind := 0) (p2 := 0)
      rw [hst] at HP he
      obtain ⟨hc, rfl, hi⟩ := HP.out
      have H3 := Sealed.mk hi
      have C3 : Sealed (InfChg B w w3) := ⟨HC.out.trans hc⟩
      have HO3 := Sealed.mk hln.1
      have HPQ := Sealed.mk hln.2
      clear hst HP hc HC hi hln HO
      cases l with
      | false =>
        have HE3 : Sealed (inflS s most k q o' = R) := ⟨by simpa using he⟩
        clear he
        go_wp2
        go_roundg k
        case measure => omega
        case rel => exact ⟨q, o', H3, HO3, HE3, ⟨by have := HPQ.out; have := HK.out; omega⟩, C3⟩
      | true =>
        have HE3 : Sealed (R = .ok (o', (q + 7) / 8)) := ⟨by simpa using he.symm⟩
        clear he
        obtain ⟨A, c, hb, ho⟩ := H3.out.parts
        have c0 := hb.cell 0 rfl
        have c1 := hb.cell 1 rfl
        have hcv := fun n => run_own_string (P := Try.prog) (src := 41) (dst := 9) Try.underlying41 Try.underlying5 Try.underlying9 (owns_chg ho ((Chg.refl 0 [] w3).drewN n) (by simp))
        have HAT : Sealed (∀ n, Calls Try.prog 21 #[.pointer (some ⟨B, 0, none⟩)] (w3.drewN n) fun e w' => e = .returned (.int .i64 q) ∧ ∃ m, w' = (w3.drewN n).drewN m) := ⟨fun n => at_any (H3.out.drewN n).rd HS.out⟩
        have hq : q ≤ 8000000000 := by have := H3.out.rd.le; omega
        have ew : IntKind.i64.wrap ((q : Int) + 7) = (q : Int) + 7 := by rw [IntKind.wrap_i64]; omega
        have eq8 : Int.tdiv ((q : Int) + 7) 8 = (((q + 7) / 8 : Nat) : Int) := by rw [Int.tdiv_eq_ediv_of_nonneg (by omega)]; omega
        have ew2 : IntKind.i64.wrap ((((q + 7) / 8 : Nat) : Int)) = (((q + 7) / 8 : Nat) : Int) := by rw [IntKind.wrap_i64]; omega
        clear hb ho
        go_wp2
        go_quiet ((go_at_call 21; exact Calls.quiet_of (HAT.out _)))
        go_wp2
        go_ret3
        rw [HE3.out]
        exact ⟨ret_infl rfl (by omega) rfl, (HB.out ▸ (C3.out.drewN _) : InfChg w.heap.size w _).to_below⟩
end Go.Proofs.Ytmdlhbhdlhjakaa
