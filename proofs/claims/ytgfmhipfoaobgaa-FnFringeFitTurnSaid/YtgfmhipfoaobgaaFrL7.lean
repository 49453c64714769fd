/-
  The laws on fits of drawn fringes.
-/
import Derived.Test.YtgfmhipfoaobgaaFrDrawF
import Derived.Test.YtgfmhipfoaobgaaFrL3
import Derived.Test.YtgfmhipfoaobgaaFrL6
namespace Go.Proofs.Ytgfmhipfoaobgaa
open Go.RowKit

set_option maxRecDepth 100000 in
set_option maxHeartbeats 4000000 in
theorem l_FnFringeFit (A : Option Addr) (n c : Nat) (f : Nat → Int) (w : World) (h0 : Rd w w.heap.size A n (fun k => .int .u8 (f k))) (hb : ∀ i, 0 ≤ f i ∧ f i ≤ 255) (hnc : n ≤ c) :
    Calls Try.prog 15 #[.slice A n c] w fun e w' => e = .returned (.bool true) ∧ Below w.heap.size w w' := by
  by_cases hn : n ≤ 1048576
  · have h : Code8 w w.heap.size A n f := ⟨h0, hb⟩
    clear h0 hb
    go_enter Try.func15, Try.ntmps15
    go_wp2_with fail
    refine (c_DrawFringeFit A n c f _ hn hnc h).mono ?_
    rintro e w1 ⟨a, N, cc, V, L, F, rfl, hN, hL, R1, B1⟩
    have HL := Lib.hid hL
    clear h hL
    by_cases hv : fvB N L F = true
    · obtain ⟨⟨n1, n8⟩, ⟨l1, l8⟩, hrow⟩ := fvB_true hv
      have Q := fvB_Q4 hv
      have HV := Lib.hid hv
      have H4 := Lib.hid Q
      obtain ⟨l, el⟩ : ∃ l, L 0 = l := ⟨_, rfl⟩
      have EL := Lib.hid el
      rw [el] at l1 l8
      have H4' : Hid (Q4 N l F) := Lib.hid (EL.out ▸ H4.out)
      obtain ⟨m1, m2⟩ := nl_bd n8 l8
      have K64 := fitN_lt N l F
      have hq := f_q3 K64
      obtain ⟨⟨D1, D2⟩, ⟨Rr1, Rr2⟩, P1, P2⟩ := q3_true hq
      have HQ := Lib.hid hq
      have C1 := Lib.hid (c_FringeFit_yes a N l cc V L F w1 R1 HV.out EL.out)
      have C2 := Lib.hid (fun w' hb => c_sFringeFit_yes a N l cc V L F w' (R1.step hb) HV.out EL.out)
      have CS : Hid (∀ w', Below w1.heap.size w1 w' → Calls Try.prog 36 #[.slice a N cc, .int .i64 (fd (fitN N l F)), .int .i64 (fr (fitN N l F)), .int .i64 (fp (fitN N l F))] w' fun e w'' => e = .returned (.int .i64 (top N l F)) ∧ Below w'.heap.size w' w'') := Lib.hid fun w' hb =>
        c_FringeScore_yes a N l cc V L F _ _ _ w' (R1.step hb) HV.out HQ.out EL.out
      have tb : 0 ≤ top N l F ∧ top N l F ≤ (N : Int) * (l : Int) := score_bd N l F _ _ _
      obtain ⟨tb1, tb2⟩ := tb
      clear el hv Q hrow hq
      have CK : Hid (∀ (k : Nat) (w' : World), k < 64 → Below w1.heap.size w1 w' → Calls Try.prog 36 #[.slice a N cc, .int .i64 ((k : Int) / 16), .int .i64 ((k : Int) / 4 % 4), .int .i64 ((k : Int) % 4)] w' fun e w'' => e = .returned (.int .i64 (scN N l F k)) ∧ Below w'.heap.size w' w'') := Lib.hid fun k w' hk hb => by
        obtain ⟨e1, e2, e3⟩ := div_c k
        rw [e1, e2, e3]
        exact c_FringeScore_yes a N l cc V L F (fd k) (fr k) (fp k) w' (R1.step hb) HV.out (f_q3 hk) EL.out
      have T4 := top_four H4'.out
      have TG : Hid (∀ k, k < 64 → scN N l F k ≤ top N l F) := Lib.hid (bestN_ge (scN N l F) 64)
      have TF : Hid (∀ k, k < 64 → scN N l F k = top N l F → fitN N l F ≤ k) := Lib.hid fun k _ e => by
        rcases Nat.lt_or_ge k (fitN N l F) with h1 | h1
        · have := top_first h1; omega
        · exact h1
      have TB := Lib.hid (scN_bd (f := F) n8 l8)
      have NUM := Lib.hid (fit_num (fitN N l F))
      have T4H := Lib.hid T4
      clear T4
      generalize fitN N l F = K at *
      generalize top N l F = tp at *
      generalize fd K = x at *
      generalize fr K = y at *
      generalize fp K = z at *
      go_wp2_with fail
      refine C1.out.mono ?_
      rintro e w2 ⟨rfl, b2⟩
      go_wp2_with fail
      refine (C2.out w2 b2).mono ?_
      rintro e w3 ⟨rfl, m3, rfl⟩
      have b3 := below_drewN b2 m3
      generalize w2.drewN m3 = w3 at b3 ⊢
      clear b2 C1 C2
      go_wp2_with fail
      refine (CS.out w3 b3).mono ?_
      rintro e w4 ⟨rfl, b4'⟩
      have b4 := below_seq b3 b4'
      clear b3 b4' CS
      go_wp2
      go_loopw [13] (fun i wr => ∃ k : Nat, k ≤ 64 ∧ i = .int .i64 k ∧ Below w1.heap.size w1 wr) (fun i _ => 64 - (intOf i).toNat)
      case atStart => exact ⟨0, Nat.zero_le _, rfl, b4⟩
      case round =>
        obtain ⟨k, hk, rfl, b5⟩ := hrel
        clear b4
        by_cases hlt : k < 64
        · have g1 := TG.out k hlt
          obtain ⟨g2, g3⟩ := TB.out k
          have C := Lib.hid (CK.out k wr hlt b5)
          have gg : decide (tp < scN N l F k) = false := by simpa using (by omega : ¬ tp < scN N l F k)
          by_cases e : scN N l F k = tp
          · have h1 := TF.out k hlt e
            have h2 := NUM.out
            have eb : (scN N l F k == tp) = true := by simpa using e
            have h3 : ¬ ((k : Int) < 16 * x + 4 * y + z) := by omega
            have h3' : decide ((k : Int) < 16 * x + 4 * y + z) = false := by simpa using h3
            clear e h2
            go_wp2_with (go_at_call 36; refine C.out.mono ?_; rintro e w6 ⟨rfl, b6⟩)
            go_roundw
            case rel => exact ⟨k + 1, by omega, by go_num, below_seq b5 b6⟩
            case measure => simp [intOf]; omega
          · have eb : (scN N l F k == tp) = false := by simpa using e
            clear e
            go_wp2_with (go_at_call 36; refine C.out.mono ?_; rintro e w6 ⟨rfl, b6⟩)
            go_roundw
            case rel => exact ⟨k + 1, by omega, by go_num, below_seq b5 b6⟩
            case measure => simp [intOf]; omega
        · obtain ⟨ad, Ar, c0, rfl, _, _, hk1, _⟩ := (R1.step b5).cell (r := 0) (by omega)
          rw [add_zero, EL.out] at hk1
          have n0 : (0 : Int) < (N : Int) := by omega
          have t4 := T4H.out
          clear R1
          go_wp2
          go_ret
          exact ⟨rfl, below_seq B1 b5⟩
    · have hv' : fvB N L F = false := by simpa using hv
      have C1 := c_FringeFit a N cc V L F w1 (by omega) R1
      have C2 := fun w' hb => c_sFringeFit a N cc V L F w' (by omega) (R1.step hb)
      rw [fitV, if_neg hv] at C1 C2
      have D1 := Lib.hid C1
      have D2 := Lib.hid C2
      clear C1 C2 R1 hv hv'
      go_wp2_with fail
      refine D1.out.mono ?_
      rintro e w2 ⟨rfl, b2⟩
      go_wp2_with fail
      refine (D2.out w2 b2).mono ?_
      rintro e w3 ⟨rfl, m3, rfl⟩
      go_wp2
      go_ret
      exact ⟨rfl, below_drewN (below_seq B1 b2) m3⟩
  · go_enter Try.func15, Try.ntmps15
    go_wp2
    go_ret
    exact ⟨rfl, Below.refl _ _⟩
set_option maxRecDepth 100000 in
set_option maxHeartbeats 4000000 in
theorem l_FnFringeFitStart (A : Option Addr) (n c : Nat) (f : Nat → Int) (w : World) (h0 : Rd w w.heap.size A n (fun k => .int .u8 (f k))) (hb : ∀ i, 0 ≤ f i ∧ f i ≤ 255) (hnc : n ≤ c) :
    Calls Try.prog 16 #[.slice A n c] w fun e w' => e = .returned (.bool true) ∧ Below w.heap.size w w' := by
  by_cases hn : n ≤ 1048576
  · have h : Code8 w w.heap.size A n f := ⟨h0, hb⟩
    clear h0 hb
    go_enter Try.func16, Try.ntmps16
    go_wp2_with fail
    refine (c_DrawFringeFit A n c f _ hn hnc h).mono ?_
    rintro e w1 ⟨a, N, cc, V, L, F, rfl, hN, hL, R1, B1⟩
    have HL := Lib.hid hL
    clear h hL
    by_cases hv : fvB N L F = true
    · obtain ⟨⟨n1, n8⟩, ⟨l1, l8⟩, hrow⟩ := fvB_true hv
      have Q := fvB_Q4 hv
      have HV := Lib.hid hv
      have H4 := Lib.hid Q
      obtain ⟨l, el⟩ : ∃ l, L 0 = l := ⟨_, rfl⟩
      have EL := Lib.hid el
      rw [el] at l1 l8
      have H4' : Hid (Q4 N l F) := Lib.hid (EL.out ▸ H4.out)
      obtain ⟨m1, m2⟩ := nl_bd n8 l8
      have K64 := fitN_lt N l F
      have hq := f_q3 K64
      obtain ⟨⟨D1, D2⟩, ⟨Rr1, Rr2⟩, P1, P2⟩ := q3_true hq
      have HQ := Lib.hid hq
      have C1 := Lib.hid (c_FringeFit_yes a N l cc V L F w1 R1 HV.out EL.out)
      have C2 := Lib.hid (fun w' hb => c_sFringeFit_yes a N l cc V L F w' (R1.step hb) HV.out EL.out)
      have CS : Hid (∀ w', Below w1.heap.size w1 w' → Calls Try.prog 36 #[.slice a N cc, .int .i64 (fd (fitN N l F)), .int .i64 (fr (fitN N l F)), .int .i64 (fp (fitN N l F))] w' fun e w'' => e = .returned (.int .i64 (top N l F)) ∧ Below w'.heap.size w' w'') := Lib.hid fun w' hb =>
        c_FringeScore_yes a N l cc V L F _ _ _ w' (R1.step hb) HV.out HQ.out EL.out
      have tb : 0 ≤ top N l F ∧ top N l F ≤ (N : Int) * (l : Int) := score_bd N l F _ _ _
      obtain ⟨tb1, tb2⟩ := tb
      clear el hv Q hrow hq
      have TT := top_tn (n := N) (l := l) (f := F) (d := 0) (r := 0) (p := 3) H4'.out
      have T2 := score_tn (n := N) (l := l) (f := F) (d := 0) (r := 0) (p := 3) (a := fd (fitN N l F)) (b := fr (fitN N l F)) (e := (fp (fitN N l F) + 1) % 4) (D := fd (fitN N l F)) (R := fr (fitN N l F)) (P := fp (fitN N l F)) H4'.out (by omega) (by omega) (by omega)
      rw [top_fit] at T2
      have HTT := Lib.hid TT
      have HT2 := Lib.hid T2
      have CT : Hid (∀ w', Below w1.heap.size w1 w' → Calls Try.prog 34 #[.slice a N cc, .int .i64 (0), .int .i64 (0), .int .i64 (3)] w' (RetsR 32 3 w' N (fun _ => l) (tnF F (0) (0) (3)) true)) := Lib.hid fun w' hb => c_FringeTurn_yes a N l cc V L F _ _ _ w' (R1.step hb) HV.out (q3_mk ⟨by omega, by omega⟩ ⟨by omega, by omega⟩ ⟨by omega, by omega⟩) EL.out
      clear TT T2
      go_wp2_with fail
      refine C1.out.mono ?_
      rintro e w2 ⟨rfl, b2⟩
      go_wp2_with fail
      refine (C2.out w2 b2).mono ?_
      rintro e w3 ⟨rfl, m3, rfl⟩
      have b3 := below_drewN b2 m3
      generalize w2.drewN m3 = w3 at b3 ⊢
      clear b2 C1 C2
      go_wp2_with fail
      refine (CT.out w3 b3).mono ?_
      rintro e w4 ⟨a4, c4, V4, rfl, b4', M4⟩
      have X4 := M4.rd
      have b4 := below_seq b3 b4'
      clear M4 b4' b3 CT
      have hv4 := tn_valid F (0) (0) (3) n1 n8 l1 l8
      have HV4 := Lib.hid hv4
      have CF := Lib.hid (c_FringeFit_yes a4 N l c4 V4 (fun _ => l) (tnF F (0) (0) (3)) w4 X4 HV4.out rfl)
      have hq4 := f_q3 (fitN_lt N l (tnF F (0) (0) (3)))
      have HQ4 := Lib.hid hq4
      have CX : Hid (∀ w', Below w4.heap.size w4 w' → Calls Try.prog 36 #[.slice a4 N c4, .int .i64 (fd (fitN N l (tnF F (0) (0) (3)))), .int .i64 (fr (fitN N l (tnF F (0) (0) (3)))), .int .i64 (fp (fitN N l (tnF F (0) (0) (3))))] w' fun e w'' => e = .returned (.int .i64 (top N l F)) ∧ Below w'.heap.size w' w'') := Lib.hid fun w' hb => by
        have := c_FringeScore_yes a4 N l c4 V4 (fun _ => l) (tnF F (0) (0) (3)) _ _ _ w' (X4.step hb) HV4.out HQ4.out rfl
        rw [top_fit, HTT.out] at this
        exact this
      have CY : Hid (∀ w', Below w4.heap.size w4 w' → Calls Try.prog 36 #[.slice a4 N c4, .int .i64 (fd (fitN N l F)), .int .i64 (fr (fitN N l F)), .int .i64 ((fp (fitN N l F) + 1) % 4)] w' fun e w'' => e = .returned (.int .i64 (top N l F)) ∧ Below w'.heap.size w' w'') := Lib.hid fun w' hb => by
        have := c_FringeScore_yes a4 N l c4 V4 (fun _ => l) (tnF F (0) (0) (3)) (fd (fitN N l F)) (fr (fitN N l F)) ((fp (fitN N l F) + 1) % 4) w' (X4.step hb) HV4.out (q3_mk ⟨by omega, by omega⟩ ⟨by omega, by omega⟩ ⟨by omega, by omega⟩) rfl
        rw [HT2.out] at this
        exact this
      clear hv4 hq4 HQ4 HV4 HTT HT2 X4
      generalize fd (fitN N l (tnF F (0) (0) (3))) = x4 at *
      generalize fr (fitN N l (tnF F (0) (0) (3))) = y4 at *
      generalize fp (fitN N l (tnF F (0) (0) (3))) = z4 at *
      generalize top N l F = tp at *
      generalize fd (fitN N l F) = x at *
      generalize fr (fitN N l F) = y at *
      generalize fp (fitN N l F) = z at *
      clear R1
      go_wp2_with fail
      refine CF.out.mono ?_
      rintro e w5 ⟨rfl, b5⟩
      go_wp2_with fail
      refine (CS.out w5 (below_seq b4 b5)).mono ?_
      rintro e w6 ⟨rfl, b6⟩
      have b46 := below_seq b5 b6
      go_wp2_with fail
      refine (CX.out w6 b46).mono ?_
      rintro e w7 ⟨rfl, b7⟩
      have b47 := below_seq b46 b7
      go_wp2_with fail
      refine (CY.out w7 b47).mono ?_
      rintro e w8 ⟨rfl, b8⟩
      go_wp2
      go_ret
      exact ⟨rfl, below_seq B1 (below_seq b4 (below_seq b47 b8))⟩
    · have hv' : fvB N L F = false := by simpa using hv
      have C1 := c_FringeFit a N cc V L F w1 (by omega) R1
      have C2 := fun w' hb => c_sFringeFit a N cc V L F w' (by omega) (R1.step hb)
      rw [fitV, if_neg hv] at C1 C2
      have D1 := Lib.hid C1
      have D2 := Lib.hid C2
      clear C1 C2 R1 hv hv'
      go_wp2_with fail
      refine D1.out.mono ?_
      rintro e w2 ⟨rfl, b2⟩
      go_wp2_with fail
      refine (D2.out w2 b2).mono ?_
      rintro e w3 ⟨rfl, m3, rfl⟩
      go_wp2
      go_ret
      exact ⟨rfl, below_drewN (below_seq B1 b2) m3⟩
  · go_enter Try.func16, Try.ntmps16
    go_wp2
    go_ret
    exact ⟨rfl, Below.refl _ _⟩
set_option maxRecDepth 100000 in
set_option maxHeartbeats 4000000 in
theorem l_FnFringeFitTurn (A : Option Addr) (n c : Nat) (f : Nat → Int) (w : World) (h0 : Rd w w.heap.size A n (fun k => .int .u8 (f k))) (hb : ∀ i, 0 ≤ f i ∧ f i ≤ 255) (hnc : n ≤ c) :
    Calls Try.prog 17 #[.slice A n c] w fun e w' => e = .returned (.bool true) ∧ Below w.heap.size w w' := by
  by_cases hn : n ≤ 1048576
  · have h : Code8 w w.heap.size A n f := ⟨h0, hb⟩
    clear h0 hb
    go_enter Try.func17, Try.ntmps17
    go_wp2_with fail
    refine (c_DrawFringeFit A n c f _ hn hnc h).mono ?_
    rintro e w1 ⟨a, N, cc, V, L, F, rfl, hN, hL, R1, B1⟩
    have HL := Lib.hid hL
    clear h hL
    by_cases hv : fvB N L F = true
    · obtain ⟨⟨n1, n8⟩, ⟨l1, l8⟩, hrow⟩ := fvB_true hv
      have Q := fvB_Q4 hv
      have HV := Lib.hid hv
      have H4 := Lib.hid Q
      obtain ⟨l, el⟩ : ∃ l, L 0 = l := ⟨_, rfl⟩
      have EL := Lib.hid el
      rw [el] at l1 l8
      have H4' : Hid (Q4 N l F) := Lib.hid (EL.out ▸ H4.out)
      obtain ⟨m1, m2⟩ := nl_bd n8 l8
      have K64 := fitN_lt N l F
      have hq := f_q3 K64
      obtain ⟨⟨D1, D2⟩, ⟨Rr1, Rr2⟩, P1, P2⟩ := q3_true hq
      have HQ := Lib.hid hq
      have C1 := Lib.hid (c_FringeFit_yes a N l cc V L F w1 R1 HV.out EL.out)
      have C2 := Lib.hid (fun w' hb => c_sFringeFit_yes a N l cc V L F w' (R1.step hb) HV.out EL.out)
      have CS : Hid (∀ w', Below w1.heap.size w1 w' → Calls Try.prog 36 #[.slice a N cc, .int .i64 (fd (fitN N l F)), .int .i64 (fr (fitN N l F)), .int .i64 (fp (fitN N l F))] w' fun e w'' => e = .returned (.int .i64 (top N l F)) ∧ Below w'.heap.size w' w'') := Lib.hid fun w' hb =>
        c_FringeScore_yes a N l cc V L F _ _ _ w' (R1.step hb) HV.out HQ.out EL.out
      have tb : 0 ≤ top N l F ∧ top N l F ≤ (N : Int) * (l : Int) := score_bd N l F _ _ _
      obtain ⟨tb1, tb2⟩ := tb
      clear el hv Q hrow hq
      have TT := top_tn (n := N) (l := l) (f := F) (d := fd (fitN N l F)) (r := fr (fitN N l F)) (p := fp (fitN N l F)) H4'.out
      have T2 := score_tn (n := N) (l := l) (f := F) (d := fd (fitN N l F)) (r := fr (fitN N l F)) (p := fp (fitN N l F)) (a := 0) (b := 0) (e := 0) (D := fd (fitN N l F)) (R := fr (fitN N l F)) (P := fp (fitN N l F)) H4'.out (by omega) (by omega) (by omega)
      rw [top_fit] at T2
      have HTT := Lib.hid TT
      have HT2 := Lib.hid T2
      have CT : Hid (∀ w', Below w1.heap.size w1 w' → Calls Try.prog 34 #[.slice a N cc, .int .i64 (fd (fitN N l F)), .int .i64 (fr (fitN N l F)), .int .i64 (fp (fitN N l F))] w' (RetsR 32 3 w' N (fun _ => l) (tnF F (fd (fitN N l F)) (fr (fitN N l F)) (fp (fitN N l F))) true)) := Lib.hid fun w' hb => c_FringeTurn_yes a N l cc V L F _ _ _ w' (R1.step hb) HV.out HQ.out EL.out
      clear TT T2
      go_wp2_with fail
      refine C1.out.mono ?_
      rintro e w2 ⟨rfl, b2⟩
      go_wp2_with fail
      refine (C2.out w2 b2).mono ?_
      rintro e w3 ⟨rfl, m3, rfl⟩
      have b3 := below_drewN b2 m3
      generalize w2.drewN m3 = w3 at b3 ⊢
      clear b2 C1 C2
      go_wp2_with fail
      refine (CT.out w3 b3).mono ?_
      rintro e w4 ⟨a4, c4, V4, rfl, b4', M4⟩
      have X4 := M4.rd
      have b4 := below_seq b3 b4'
      clear M4 b4' b3 CT
      have hv4 := tn_valid F (fd (fitN N l F)) (fr (fitN N l F)) (fp (fitN N l F)) n1 n8 l1 l8
      have HV4 := Lib.hid hv4
      have CF := Lib.hid (c_FringeFit_yes a4 N l c4 V4 (fun _ => l) (tnF F (fd (fitN N l F)) (fr (fitN N l F)) (fp (fitN N l F))) w4 X4 HV4.out rfl)
      have hq4 := f_q3 (fitN_lt N l (tnF F (fd (fitN N l F)) (fr (fitN N l F)) (fp (fitN N l F))))
      have HQ4 := Lib.hid hq4
      have CX : Hid (∀ w', Below w4.heap.size w4 w' → Calls Try.prog 36 #[.slice a4 N c4, .int .i64 (fd (fitN N l (tnF F (fd (fitN N l F)) (fr (fitN N l F)) (fp (fitN N l F))))), .int .i64 (fr (fitN N l (tnF F (fd (fitN N l F)) (fr (fitN N l F)) (fp (fitN N l F))))), .int .i64 (fp (fitN N l (tnF F (fd (fitN N l F)) (fr (fitN N l F)) (fp (fitN N l F)))))] w' fun e w'' => e = .returned (.int .i64 (top N l F)) ∧ Below w'.heap.size w' w'') := Lib.hid fun w' hb => by
        have := c_FringeScore_yes a4 N l c4 V4 (fun _ => l) (tnF F (fd (fitN N l F)) (fr (fitN N l F)) (fp (fitN N l F))) _ _ _ w' (X4.step hb) HV4.out HQ4.out rfl
        rw [top_fit, HTT.out] at this
        exact this
      have CY : Hid (∀ w', Below w4.heap.size w4 w' → Calls Try.prog 36 #[.slice a4 N c4, .int .i64 (0), .int .i64 (0), .int .i64 (0)] w' fun e w'' => e = .returned (.int .i64 (top N l F)) ∧ Below w'.heap.size w' w'') := Lib.hid fun w' hb => by
        have := c_FringeScore_yes a4 N l c4 V4 (fun _ => l) (tnF F (fd (fitN N l F)) (fr (fitN N l F)) (fp (fitN N l F))) (0) (0) (0) w' (X4.step hb) HV4.out (q3_mk ⟨by omega, by omega⟩ ⟨by omega, by omega⟩ ⟨by omega, by omega⟩) rfl
        rw [HT2.out] at this
        exact this
      clear hv4 hq4 HQ4 HV4 HTT HT2 X4
      generalize fd (fitN N l (tnF F (fd (fitN N l F)) (fr (fitN N l F)) (fp (fitN N l F)))) = x4 at *
      generalize fr (fitN N l (tnF F (fd (fitN N l F)) (fr (fitN N l F)) (fp (fitN N l F)))) = y4 at *
      generalize fp (fitN N l (tnF F (fd (fitN N l F)) (fr (fitN N l F)) (fp (fitN N l F)))) = z4 at *
      generalize top N l F = tp at *
      generalize fd (fitN N l F) = x at *
      generalize fr (fitN N l F) = y at *
      generalize fp (fitN N l F) = z at *
      clear R1
      go_wp2_with fail
      refine CF.out.mono ?_
      rintro e w5 ⟨rfl, b5⟩
      go_wp2_with fail
      refine (CS.out w5 (below_seq b4 b5)).mono ?_
      rintro e w6 ⟨rfl, b6⟩
      have b46 := below_seq b5 b6
      go_wp2_with fail
      refine (CX.out w6 b46).mono ?_
      rintro e w7 ⟨rfl, b7⟩
      have b47 := below_seq b46 b7
      go_wp2_with fail
      refine (CY.out w7 b47).mono ?_
      rintro e w8 ⟨rfl, b8⟩
      go_wp2
      go_ret
      exact ⟨rfl, below_seq B1 (below_seq b4 (below_seq b47 b8))⟩
    · have hv' : fvB N L F = false := by simpa using hv
      have C1 := c_FringeFit a N cc V L F w1 (by omega) R1
      have C2 := fun w' hb => c_sFringeFit a N cc V L F w' (by omega) (R1.step hb)
      rw [fitV, if_neg hv] at C1 C2
      have D1 := Lib.hid C1
      have D2 := Lib.hid C2
      clear C1 C2 R1 hv hv'
      go_wp2_with fail
      refine D1.out.mono ?_
      rintro e w2 ⟨rfl, b2⟩
      go_wp2_with fail
      refine (D2.out w2 b2).mono ?_
      rintro e w3 ⟨rfl, m3, rfl⟩
      go_wp2
      go_ret
      exact ⟨rfl, below_drewN (below_seq B1 b2) m3⟩
  · go_enter Try.func17, Try.ntmps17
    go_wp2
    go_ret
    exact ⟨rfl, Below.refl _ _⟩
end Go.Proofs.Ytgfmhipfoaobgaa
