/- The contract of package inflate's inflater: own. -/
import Derived.Test.YtmdlhbhdlhjakaaM28
set_option linter.unusedVariables false
set_option linter.unusedSimpArgs false
namespace Go.Proofs.Ytmdlhbhdlhjakaa
open Go.RowKit

def widthL : List Nat := [5, 5, 4]
theorem idx_width (k : Nat) (hk : k < 3) (w : World) : (Instr.index 145 (.agg #[.int .i64 5, .int .i64 5, .int .i64 4]) (.int .i64 (k : Int))).run Try.prog w = .ok (.int .i64 (widthL.getD k 0 : Nat)) w :=
  match k, hk with
  | 0, _ => by kernel_rfl
  | 1, _ => by kernel_rfl
  | 2, _ => by kernel_rfl
  | k + 3, h => by omega
def OwnGot (s : ByteArray) (p : Nat) : Nat → Nat → List Int → Prop
  | 0, q, cs => q = p ∧ cs = [0, 0, 0]
  | 1, q, cs => ∃ a : Nat, getS s p 5 = .ok (a, q) ∧ cs = [(a : Int), 0, 0]
  | 2, q, cs => ∃ a p1 b : Nat, getS s p 5 = .ok (a, p1) ∧ getS s p1 5 = .ok (b, q) ∧ cs = [(a : Int), (b : Int), 0]
  | _, q, cs => ∃ a p1 b p2 c : Nat, getS s p 5 = .ok (a, p1) ∧ getS s p1 5 = .ok (b, p2) ∧ getS s p2 4 = .ok (c, q) ∧ cs = [(a : Int), (b : Int), (c : Int)]
section
variable {s : ByteArray} {most p q : Nat} {o : List Nat} {cs : List Int}
theorem own_err {i e : Nat} (hi : i < 3) (h : OwnGot s p i q cs) (hg : getS s q (widthL.getD i 0) = .error e) : ownS s most p o = .error 5 := by
  have he := getS_err hg
  subst he
  match i, hi with
  | 0, _ =>
    obtain ⟨rfl, _⟩ := h
    change getS s q 5 = _ at hg
    unfold ownS; rw [hg]
  | 1, _ =>
    obtain ⟨a, h1, _⟩ := h
    change getS s q 5 = _ at hg
    unfold ownS; rw [h1]; simp only; rw [hg]
  | 2, _ =>
    obtain ⟨a, p1, b, h1, h2, _⟩ := h
    change getS s q 4 = _ at hg
    unfold ownS; rw [h1]; simp only; rw [h2]; simp only; rw [hg]
theorem own_next {i n q1 : Nat} (hi : i < 3) (h : OwnGot s p i q cs) (hg : getS s q (widthL.getD i 0) = .ok (n, q1)) : OwnGot s p (i + 1) q1 (cs.set i (n : Int)) := by
  match i, hi with
  | 0, _ =>
    obtain ⟨rfl, rfl⟩ := h
    exact ⟨n, hg, rfl⟩
  | 1, _ =>
    obtain ⟨a, h1, rfl⟩ := h
    exact ⟨a, q, n, h1, hg, rfl⟩
  | 2, _ =>
    obtain ⟨a, p1, b, h1, h2, rfl⟩ := h
    exact ⟨a, p1, b, q, n, h1, h2, hg, rfl⟩
theorem own_len {i : Nat} (h : OwnGot s p i q cs) : cs.length = 3 := by
  match i with
  | 0 => obtain ⟨_, rfl⟩ := h; rfl
  | 1 => obtain ⟨_, _, rfl⟩ := h; rfl
  | 2 => obtain ⟨_, _, _, _, _, rfl⟩ := h; rfl
  | k + 3 => obtain ⟨_, _, _, _, _, _, _, _, rfl⟩ := h; rfl
variable {a p1 b p2 c p3 e p4 p5 : Nat} {tl : List Int} {row : List Nat}
theorem ownS_ab (h1 : getS s p 5 = .ok (a, p1)) (h2 : getS s p1 5 = .ok (b, p2)) (h3 : getS s p2 4 = .ok (c, p3)) (h : 29 < a ∨ 29 < b) : ownS s most p o = .error 4 := by
  unfold ownS; rw [h1]; simp only; rw [h2]; simp only; rw [h3]; simp only; rw [if_pos h]
theorem ownS_h (h1 : getS s p 5 = .ok (a, p1)) (h2 : getS s p1 5 = .ok (b, p2)) (h3 : getS s p2 4 = .ok (c, p3)) (h : ¬ (29 < a ∨ 29 < b)) (h4 : headsS s (c + 4) p3 = .error e) : ownS s most p o = .error e := by
  unfold ownS; rw [h1]; simp only; rw [h2]; simp only; rw [h3]; simp only; rw [if_neg h, h4]
theorem ownS_r (h1 : getS s p 5 = .ok (a, p1)) (h2 : getS s p1 5 = .ok (b, p2)) (h3 : getS s p2 4 = .ok (c, p3)) (h : ¬ (29 < a ∨ 29 < b)) (h4 : headsS s (c + 4) p3 = .ok (tl, p4)) (h5 : rowS s tl (a + 257 + (b + 1)) (a + 257 + (b + 1) + 1) p4 [] = .error e) : ownS s most p o = .error e := by
  unfold ownS; rw [h1]; simp only; rw [h2]; simp only; rw [h3]; simp only; rw [if_neg h, h4]; simp only; rw [h5]
theorem ownS_end (h1 : getS s p 5 = .ok (a, p1)) (h2 : getS s p1 5 = .ok (b, p2)) (h3 : getS s p2 4 = .ok (c, p3)) (h : ¬ (29 < a ∨ 29 < b)) (h4 : headsS s (c + 4) p3 = .ok (tl, p4)) (h5 : rowS s tl (a + 257 + (b + 1)) (a + 257 + (b + 1) + 1) p4 [] = .ok (row, p5)) :
    ownS s most p o = if rowBad row (a + 257) then .error 4 else codedS s most (castL (row.take (a + 257))) (castL (row.drop (a + 257))) (8 * s.size + 1) p5 o := by
  unfold ownS; rw [h1]; simp only; rw [h2]; simp only; rw [h3]; simp only; rw [if_neg h, h4]; simp only; rw [h5]
end
theorem reads_take {w : World} {A : Option Addr} {xs : List Int} (h : Reads w .i64 A xs) (n : Nat) : Reads w .i64 A (xs.take n) := by
  have hl : (xs.take n).length ≤ xs.length := by rw [List.length_take]; omega
  refine ⟨Nat.le_trans hl h.1, fun h0 => ?_⟩
  obtain ⟨ad, e, hc⟩ := h.2 (by omega)
  refine ⟨ad, e, fun j hj => ?_⟩
  rw [hc j (by omega)]
  have hjn : j < n := by rw [List.length_take] at hj; omega
  simp [List.getD_eq_getElem?_getD, List.getElem?_take, hjn]
theorem reads_drop {w : World} {ad : Addr} {xs : List Int} (h : Reads w .i64 (some ad) xs) (n : Nat) : Reads w .i64 (some (ad.add n)) (xs.drop n) := by
  refine ⟨by rw [List.length_drop]; have := h.1; omega, fun h0 => ⟨_, rfl, fun j hj => ?_⟩⟩
  rw [List.length_drop] at hj h0
  obtain ⟨ad', e, hc⟩ := h.2 (by omega)
  injection e with e
  subst e
  have hadd : (ad.add n).add j = ad.add (n + j) := by
    unfold Addr.add
    by_cases h1 : n = 0
    · subst h1; simp
    · by_cases h2 : j = 0
      · subst h2; simp [h1]
      · simp [h1, h2, Nat.add_assoc]
  rw [hadd, hc (n + j) (by omega)]
  simp [List.getD_eq_getElem?_getD, List.getElem?_drop]

section
variable {row : List Nat} {n : Nat}
theorem rowBad_ck (h : checkOf (castL (row.take n)) ≠ 0) : rowBad row n = true := by unfold rowBad; simp [h]
theorem rowBad_zero (h : row.getD 256 0 = 0) : rowBad row n = true := by unfold rowBad; rw [h]; simp
theorem rowBad_reach (h : reachB (row.drop n) = false) : rowBad row n = true := by unfold rowBad; simp [h]
theorem rowBad_no (h1 : checkOf (castL (row.take n)) = 0) (h2 : row.getD 256 0 ≠ 0) (h3 : reachB (row.drop n) = true) : rowBad row n = false := by
  unfold rowBad; rw [h1, h3, decide_eq_false h2]; rfl
end
set_option maxRecDepth 100000 in
set_option maxHeartbeats 4000000 in
theorem iown_ok {B : Nat} {w : World} {gx gr : Nat} {s : ByteArray} {most p : Nat} {o : List Nat} (h : InfSt B w gx gr s most p o) (hs : s.size ≤ 1000000000) (hm : most ≤ 100000000) (ho : o.length ≤ most) :
    Calls Try.prog 91 #[.pointer (some ⟨gx, 0, none⟩)] w (InfPost B gx gr s most (ownS s most p o) w) := by
  obtain ⟨R, hR⟩ : ∃ R, R = ownS s most p o := ⟨_, rfl⟩
  rw [← hR]
  have HR := Sealed.mk hR
  have H := Sealed.mk h
  have HS : Sealed (s.size ≤ 140737488355328) := ⟨by omega⟩
  have HIX := Sealed.mk idx_width
  clear hR h
  go_enter Try.func91, Try.ntmps91
  go_wp2_with ((with_reducible refine gate_dst (N := 3) rfl ?_); refine ev_box (cs := nums .i64 [0, 0, 0]) (t := 145) ?hg ?hr ?_; (case hg => rfl); (case hr => first | (go_simp; done) | (go_simp; rfl)); intro g3 w1 hg1 hb1 hB1 hs1; have GE : w.heap.size ≤ g3 := (by rw [hg1]; exact Nat.le_refl _); have B1 := Sealed.mk hb1; have H1 := Sealed.mk (H.out.below hB1); have C1 : Sealed (InfChg B w w1) := ⟨Chg.of_below hB1⟩; clear hg1 hb1 hB1 hs1)
  clear H
  go_loopg [4, 5, 6, 7, 18] 3 (fun k s4 s5 s6 s7 s18 w' => ∃ (i q : Nat) (cs : List Int), s18 = .int .i64 i ∧ i ≤ 3 ∧ Sealed (k = 3 - i) ∧ Sealed (OwnGot s p i q cs) ∧ Sealed (InfSt B w' gx gr s most q o) ∧ Sealed (IsBlk w' g3 (nums .i64 cs) 145) ∧ Sealed (InfChg B w w'))
  case atStart => exact ⟨0, p, [0, 0, 0], rfl, by omega, ⟨rfl⟩, ⟨rfl, rfl⟩, H1, B1, C1⟩
  case round =>
    clear H1 B1 C1
    obtain ⟨i, q, cs, rfl, hi, HK, HG, H, HB, HC⟩ := hrel
    have HL := Sealed.mk (own_len HG.out)
    by_cases hlt : i < 3
    · have hix := fun w => HIX.out i hlt w
      obtain ⟨W, hW⟩ : ∃ W, W = widthL.getD i 0 := ⟨_, rfl⟩
      have HW := Sealed.mk hW
      have hW16 : W ≤ 16 := by rw [hW]; exact (by decide : ∀ i, i < 3 → widthL.getD i 0 ≤ 16) i hlt
      rw [← hW] at hix
      have hiI : (i : Int) < 3 := by omega
      obtain ⟨A3, c3, hb3, _⟩ := H.out.parts
      have x3 := hb3.cell 0 rfl
      clear hb3 hW
      go_wp2_with fail
      refine (get_any H.out.rd HS.out W hW16).mono ?_
      rintro e w3 ⟨rfl, hc, hr⟩
      have H3 := Sealed.mk (H.out.read hr hc)
      have C3 : Sealed (InfChg B w w3) := ⟨HC.out.trans (hc.mono H.out.2.1 (by simp))⟩
      have HB3 := Sealed.mk (HB.out.chg hc (.inr (by decide)))
      clear hc hr H HC HB x3 hix
      cases h1 : getS s q W with
      | error e1 =>
        have HE2 : Sealed (R = .error 5) := ⟨by rw [HR.out, own_err hlt HG.out (by rw [← HW.out]; exact h1)]⟩
        obtain rfl := getS_err h1
        simp only [valOf, errOf]
        clear h1
        go_wp2
        go_ret
        rw [HE2.out]
        exact ⟨rfl, C3.out, fun o' q h => by cases h⟩
      | ok r1 =>
        obtain ⟨n, q1⟩ := r1
        have HG2 := Sealed.mk (own_next hlt HG.out (by rw [← HW.out]; exact h1))
        rw [h1] at H3
        simp only [valOf, errOf, posOf] at H3 ⊢
        clear h1
        have xk := HB3.out.cell i (nums_get (k := .i64) (by rw [HL.out]; exact hlt))
        have fk := HB3.out.free i
        have HN : Sealed (IsBlk (w3.setCell ⟨g3, i, none⟩ (.int .i64 n)) g3 (nums .i64 (cs.set i (n : Int))) 145) := ⟨by rw [← nums_set]; exact HB3.out.set i _⟩
        have HST : Sealed (Chg g3 [145] w3 (w3.setCell ⟨g3, i, none⟩ (.int .i64 n))) := ⟨(Chg.refl g3 [145] w3).set HB3.out (Nat.le_refl _) (by simp) i _⟩
        obtain ⟨x, hx⟩ : ∃ x, x = cs.getD i 0 := ⟨_, rfl⟩
        rw [← hx] at xk
        clear hx
        go_wp2
        go_roundg (3 - (i + 1))
        case measure => have := HK.out; omega
        case rel => exact ⟨i + 1, q1, cs.set i (n : Int), by go_num, hlt, ⟨rfl⟩, HG2, ⟨H3.out.chg HST.out (by decide) (by decide) (by decide)⟩, HN, ⟨C3.out.set_new GE _⟩⟩
    · obtain rfl : i = 3 := by omega
      obtain ⟨a, p1, b, p2, c, g1, g2, g4, hcs⟩ := HG.out
      subst hcs
      have HG1 := Sealed.mk g1
      have HG2 := Sealed.mk g2
      have HG4 := Sealed.mk g4
      have ha : a < 32 := by have := (getS_ok g1).2.2; have := val_lt (bit_le s) p 5; omega
      have hb : b < 32 := by have := (getS_ok g2).2.2; have := val_lt (bit_le s) p1 5; omega
      have hc : c < 16 := by have := (getS_ok g4).2.2; have := val_lt (bit_le s) p2 4; omega
      have x0 := HB.out.cell 0 rfl
      have x1 := HB.out.cell 1 rfl
      have x2 := HB.out.cell 2 rfl
      have ew1 : IntKind.i64.wrap ((a : Int) + 257) = (a : Int) + 257 := by rw [IntKind.wrap_i64]; omega
      have ew2 : IntKind.i64.wrap ((b : Int) + 1) = (b : Int) + 1 := by rw [IntKind.wrap_i64]; omega
      clear g1 g2 g4 HG HL HK hi hlt HIX
      go_wp2
      go_quiet (fail)
      clear ew1 ew2
      by_cases hab : 29 < a ∨ 29 < b
      · have HE : Sealed (R = .error 4) := ⟨by rw [HR.out, ownS_ab HG1.out HG2.out HG4.out hab]⟩
        by_cases h29 : 29 < a
        · have hd : decide (286 < (a : Int) + 257) = true := decide_eq_true (by omega)
          clear hab
          go_wp2
          go_ret
          rw [HE.out]
          exact ⟨rfl, HC.out.drewN _, fun o' q h => by cases h⟩
        · have hd : decide (286 < (a : Int) + 257) = false := decide_eq_false (by omega)
          have hd2 : decide (30 < (b : Int) + 1) = true := decide_eq_true (by omega)
          have hd3 : ¬ 286 < (a : Int) + 257 := by omega
          clear hab
          go_wp2
          go_ret
          rw [HE.out]
          exact ⟨rfl, HC.out.drewN _, fun o' q h => by cases h⟩
      · have hd : decide (286 < (a : Int) + 257) = false := decide_eq_false (by omega)
        have hd2 : decide (30 < (b : Int) + 1) = false := decide_eq_false (by omega)
        have hd3 : ¬ 286 < (a : Int) + 257 := by omega
        have HAB := Sealed.mk hab
        have e4 : IntKind.i64.wrap ((c : Int) + 4) = (c : Int) + 4 := by rw [IntKind.wrap_i64]; omega
        have em : IntKind.i64.wrap ((a : Int) + 257 + ((b : Int) + 1)) = (a : Int) + 257 + ((b : Int) + 1) := by rw [IntKind.wrap_i64]; omega
        have C2 : Sealed (InfChg B w (wr.drewN nq)) := ⟨HC.out.drewN _⟩
        clear hab x0 x1 HB HC
        go_wp2_with fail
        refine (iheads_ok (H.out.drewN nq) hs (c + 4) (by omega) (M := (c : Int) + 4) (by omega)).mono ?_
        rintro e w2 hp
        have HP := Sealed.mk hp
        clear hp H x2 e4
        cases h4 : headsS s (c + 4) q with
        | error er =>
          have HE : Sealed (R = .error er) := ⟨by rw [HR.out, ownS_h HG1.out HG2.out HG4.out HAB.out h4]⟩
          rw [h4] at HP
          obtain ⟨hch, rfl, her⟩ := HP.out
          have C3 : Sealed (InfChg B w w2) := ⟨C2.out.trans hch⟩
          have hne : ((er : Int) != 0) = true := by simp; omega
          clear h4 HP C2 hch em
          go_wp2
          go_ret
          rw [HE.out]
          exact ⟨rfl, C3.out, fun o' q h => by cases h⟩
        | ok r4 =>
          obtain ⟨tl, p4⟩ := r4
          have HH := Sealed.mk h4
          rw [h4] at HP
          obtain ⟨hch, g, rfl, ht, hi, htl⟩ := HP.out
          have H2 := Sealed.mk hi
          have HT := Sealed.mk ht
          have C3 : Sealed (InfChg B w w2) := ⟨C2.out.trans hch⟩
          have hta : tl.all lenOk = true := may_zero (by omega) (by rw [(headsS_ok h4).2]; decide)
          clear h4 HP C2 hch hi ht
          go_wp2_with fail
          refine (irow_ok H2.out HT.out hs htl hta (a + 257 + (b + 1)) (by omega) (M := (a : Int) + 257 + ((b : Int) + 1)) (by omega)).mono ?_
          rintro e w3 hp
          have HP := Sealed.mk hp
          clear hp em H2 HT
          cases h5 : rowS s tl (a + 257 + (b + 1)) (a + 257 + (b + 1) + 1) p4 [] with
          | error er =>
            have HE : Sealed (R = .error er) := ⟨by rw [HR.out, ownS_r HG1.out HG2.out HG4.out HAB.out HH.out h5]⟩
            rw [h5] at HP
            obtain ⟨hch, rfl, her⟩ := HP.out
            have C4 : Sealed (InfChg B w w3) := ⟨C3.out.trans hch⟩
            have hne : ((er : Int) != 0) = true := by simp; omega
            clear h5 HP C3 hch
            go_wp2
            go_ret
            rw [HE.out]
            exact ⟨rfl, C4.out, fun o' q h => by cases h⟩
          | ok r5 =>
            obtain ⟨row, p5⟩ := r5
            obtain ⟨hrl, hrb⟩ := rowS_len (by omega) (by omega) h5 (by simp) (by simp)
            have HE := Sealed.mk (HR.out.trans (ownS_end (most := most) (o := o) HG1.out HG2.out HG4.out HAB.out HH.out h5))
            rw [h5] at HP
            obtain ⟨hch, A, cap, rfl, hrd, hcl, hcap, hi⟩ := HP.out
            have H3 := Sealed.mk hi
            have HRD := Sealed.mk hrd
            have C4 : Sealed (InfChg B w w3) := ⟨C3.out.trans hch⟩
            rw [hrl] at hcl ⊢
            have HRB := Sealed.mk hrb
            have HRL := Sealed.mk hrl
            clear h5 HP C3 hch hi hrd HR hrl hrb htl hta HH HG1 HG2 HG4
            have htk : castL (row.take (a + 257)) = (castL row).take (a + 257) := by simp [castL, List.map_take]
            have htl2 : (castL (row.take (a + 257))).length = a + 257 := by simp [castL, HRL.out]
            have hdr : castL (row.drop (a + 257)) = (castL row).drop (a + 257) := by simp [castL, List.map_drop]
            have hdl : (row.drop (a + 257)).length = b + 1 := by simp [HRL.out]
            have hdl2 : (castL (row.drop (a + 257))).length = b + 1 := by simp [castL, HRL.out]
            obtain ⟨ad, rfl, _⟩ := HRD.out.cell 256 (by simp [castL, HRL.out]; omega)
            have HRN : Sealed (∀ w', Below w3.heap.size w3 w' → Reads w' .i64 (some ad) (castL (row.take (a + 257)))) := ⟨fun w' h => by rw [htk]; exact reads_take (HRD.out.below h) _⟩
            have hadd : ad.add (a + 257) = ⟨ad.block, ad.off + (a + 256 + 1), none⟩ := by unfold Addr.add; simp
            have HRF : Sealed (∀ w', Below w3.heap.size w3 w' → Reads w' .i64 (some ⟨ad.block, ad.off + (a + 256 + 1), none⟩) (castL (row.drop (a + 257)))) := ⟨fun w' h => by rw [hdr, ← hadd]; exact reads_drop (HRD.out.below h) _⟩
            have HX : Sealed (∀ w', Below w3.heap.size w3 w' → w'.cell? ⟨ad.block, ad.off + 256, none⟩ = some (.int .i64 (row.getD 256 0 : Nat))) := ⟨fun w' h => by
              obtain ⟨ad', e, hc'⟩ := (HRD.out.below h).cell 256 (by simp [castL, HRL.out]; omega)
              injection e with e
              subst e
              rw [castL_getD] at hc'
              exact hc'⟩
            have HNL : Sealed ((castL (row.take (a + 257))).length = a + 257) := ⟨htl2⟩
            have HFL : Sealed ((castL (row.drop (a + 257))).length = b + 1) := ⟨hdl2⟩
            have HFD : Sealed ((row.drop (a + 257)).length = b + 1) := ⟨hdl⟩
            have HFB : Sealed (∀ x ∈ row.drop (a + 257), x ≤ 100) := ⟨fun x hx => by have := HRB.out x (List.mem_of_mem_drop hx); omega⟩
            have HCK : Sealed (Calls Try.prog 41 #[.slice (some ad) (a + 257) cap] w3 fun e w' => e = .returned (.int .i64 (checkOf (castL (row.take (a + 257))))) ∧ Below w3.heap.size w3 w') := ⟨by
              have h := check_any (some ad) cap _ w3 (HRN.out w3 (Below.refl _ _))
              rw [htl2] at h; exact h⟩
            obtain ⟨x, hx⟩ : ∃ x, x = row.getD 256 0 := ⟨_, rfl⟩
            have HXE := Sealed.mk hx
            rw [← hx] at HX
            clear htk htl2 hdr hdl hdl2 hadd HRD HRB HRL hx
            by_cases hck : checkOf (castL (row.take (a + 257))) = 0
            case neg =>
              have HE2 : Sealed (R = .error 4) := ⟨by rw [HE.out, if_pos (rowBad_ck hck)]⟩
              have hne : ((checkOf (castL (row.take (a + 257))) : Int) != 0) = true := by simpa using hck
              generalize checkOf (castL (row.take (a + 257))) = ck at *
              clear hck HE
              go_wp2_with fail
              refine HCK.out.mono ?_
              rintro e w4 ⟨rfl, hb4⟩
              have C5 : Sealed (InfChg B w w4) := ⟨C4.out.below_step hb4⟩
              clear hb4 HCK HX HRN HRF H3 C4
              go_wp2
              go_ret
              rw [HE2.out]
              exact ⟨rfl, C5.out, fun o' q h => by cases h⟩
            case pos =>
              have HCK0 := Sealed.mk hck
              rw [hck] at HCK
              clear hck
              go_wp2_with fail
              refine HCK.out.mono ?_
              rintro e w4 ⟨rfl, hb4⟩
              have C5 : Sealed (InfChg B w w4) := ⟨C4.out.below_step hb4⟩
              have H4 := Sealed.mk (H3.out.below hb4)
              have HB4 := Sealed.mk hb4
              have xx := HX.out w4 hb4
              clear hb4 HCK HX H3 C4
              by_cases hx0 : x = 0
              · have HE2 : Sealed (R = .error 4) := ⟨by rw [HE.out, if_pos (rowBad_zero (by rw [← HXE.out, hx0]))]⟩
                have hx1 : ((x : Int) == 0) = true := by simpa using hx0
                have hcc : a + 257 ≤ cap := by omega
                have hcd : 256 < a + 257 + (b + 1) := by omega
                clear HE hx0
                go_wp2
                go_ret
                rw [HE2.out]
                exact ⟨rfl, C5.out, fun o' q h => by cases h⟩
              · have hx1 : ((x : Int) == 0) = false := by simpa using hx0
                have hcc : a + 257 ≤ cap := by omega
                have hcd : 256 < a + 257 + (b + 1) := by omega
                have HX0 := Sealed.mk hx0
                clear hx0
                go_wp2_with fail
                refine (reaches_ok (row.drop (a + 257)) (HRF.out w4 HB4.out) (by rw [HFD.out]; omega) HFB.out HFD.out.symm).mono ?_
                rintro e w5 ⟨rfl, hb5⟩
                have C6 : Sealed (InfChg B w w5) := ⟨C5.out.below_step hb5⟩
                have H5 := Sealed.mk (H4.out.below hb5)
                have HB5 := Sealed.mk (HB4.out.trans (hb5.mono HB4.out.size))
                clear hb5 H4 C5 HB4 xx
                cases hrr : reachB (row.drop (a + 257)) with
                | false =>
                  have HE2 : Sealed (R = .error 4) := ⟨by rw [HE.out, if_pos (rowBad_reach hrr)]⟩
                  clear hrr HE
                  go_wp2
                  go_ret
                  rw [HE2.out]
                  exact ⟨rfl, C6.out, fun o' q h => by cases h⟩
                | true =>
                  have HE2 : Sealed (R = codedS s most (castL (row.take (a + 257))) (castL (row.drop (a + 257))) (8 * s.size + 1) p5 o) := ⟨by
                    rw [HE.out, if_neg (by rw [rowBad_no HCK0.out (by rw [← HXE.out]; exact HX0.out) hrr]; simp)]⟩
                  have HM1 : Sealed (mayOf (checkOf (castL (row.take (a + 257)))) = 0) := ⟨by rw [HCK0.out]; decide⟩
                  have HM2 : Sealed (mayOf (checkOf (castL (row.drop (a + 257)))) = 0) := ⟨reach_may (by rw [HFD.out]; omega) hrr⟩
                  clear hrr HE HCK0 HFD HFB HXE HX0 hx1 hcd
                  generalize castL (row.take (a + 257)) = nl at *
                  generalize castL (row.drop (a + 257)) = fl at *
                  have hn1 : nl.length ≤ 320 := by rw [HNL.out]; omega
                  have hn2 : fl.length ≤ 320 := by rw [HFL.out]; omega
                  have hl1 : nl.all lenOk = true := may_zero hn1 HM1.out
                  have hl2 : fl.all lenOk = true := may_zero hn2 HM2.out
                  have H0 := Sealed.mk (And.intro hn1 hl1)
                  have H0' := Sealed.mk (And.intro hn2 hl2)
                  have HN5 := Sealed.mk (new_good (cap := cap) (HRN.out w5 HB5.out) hn1 hl1 HM1.out)
                  rw [HNL.out] at HN5
                  clear hn1 hn2 hl1 hl2
                  go_wp2_with fail
                  refine HN5.out.mono ?_
                  rintro e w6 ⟨gn, rfl, htn, hb6⟩
                  have C7 : Sealed (InfChg B w w6) := ⟨C6.out.below_step hb6⟩
                  have H6 := Sealed.mk (H5.out.below hb6)
                  have HN6 := Sealed.mk htn
                  have HF6 := Sealed.mk (new_good (cap := cap - (a + 257)) (HRF.out w6 (HB5.out.trans (hb6.mono HB5.out.size))) H0'.out.1 H0'.out.2 HM2.out)
                  rw [HFL.out] at HF6
                  clear hb6 htn C6 H5 HN5 HB5
                  go_wp2_with fail
                  refine HF6.out.mono ?_
                  rintro e w7 ⟨gf, rfl, htf, hb7⟩
                  have C8 : Sealed (InfChg B w w7) := ⟨C7.out.below_step hb7⟩
                  have H7 := Sealed.mk (H6.out.below hb7)
                  have HN7 := Sealed.mk (trSt_less (HN6.out.later (T := []) (Chg.of_below (B := w6.heap.size) hb7)) (Nat.zero_le _))
                  have HF7 := Sealed.mk (trSt_less htf (Nat.zero_le _))
                  clear hb7 htf C7 H6 HN6 HF6
                  go_wp2_with fail
                  refine (coded_ok (8 * s.size + 1) H7.out HN7.out HF7.out hs H0.out.1 H0.out.2 (by rw [HNL.out]; omega) H0'.out.1 H0'.out.2 (by rw [HFL.out]; omega) hm ho (by omega)).mono ?_
                  rintro e w8 ⟨rfl, hch, hi⟩
                  rw [← HE2.out] at hi ⊢
                  have C9 : Sealed (InfChg B w w8) := ⟨C8.out.trans hch⟩
                  have HI := Sealed.mk hi
                  clear hch hi HE2
                  go_wp2
                  go_ret
                  exact ⟨rfl, C9.out, HI.out⟩
end Go.Proofs.Ytmdlhbhdlhjakaa
