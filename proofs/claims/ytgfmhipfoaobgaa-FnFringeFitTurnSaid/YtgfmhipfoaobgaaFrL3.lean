/-
  The laws on fits, scores and turns of the fringes of three drawn numbers.
-/
import Derived.Test.YtgfmhipfoaobgaaFrDraw
import Derived.Test.YtgfmhipfoaobgaaFrRows
namespace Go.Proofs.Ytgfmhipfoaobgaa
open Go.RowKit

theorem c_FringeOf_bad (d r p ch ti : Int) (w : World) (h : frOk d r p ch ti = false) : Calls Try.prog 22 #[.int .i64 d, .int .i64 r, .int .i64 p, .int .i64 ch, .int .i64 ti] w
    fun e w' => ∃ a c, e = .returned (.tuple #[.slice a 0 c, .bool false]) ∧ Below w.heap.size w w' := by
  have C := c_FringeOf d r p ch ti w
  rw [h] at C
  exact C.mono fun e w' ⟨a, c, _, he, hb, _⟩ => ⟨a, c, he, hb⟩
theorem c_sFringeOf_bad (d r p ch ti : Int) (w : World) (h : frOk d r p ch ti = false) : Calls Try.prog 21 #[.int .i64 d, .int .i64 r, .int .i64 p, .int .i64 ch, .int .i64 ti] w
    fun e w' => ∃ a c, e = .returned (.tuple #[.slice a 0 c, .bool false]) ∧ Below w.heap.size w w' := by
  have C := c_sFringeOf d r p ch ti w
  rw [h] at C
  exact C.mono fun e w' ⟨a, c, _, he, hb, _⟩ => ⟨a, c, he, hb⟩
theorem c_sameRows0 (a a' : Option Addr) (c c' : Nat) (w : World) : Calls Try.prog 32 #[.slice a 0 c, .slice a' 0 c'] w fun e w' => e = .returned (.bool true) ∧ ∃ m, w' = w.drewN m := by
  have C := c_sameRows a a' 0 0 c c' (fun _ => .slice none 0 0) (fun _ => .slice none 0 0) (fun _ => 0) (fun _ => 0) (fun _ _ => 0) (fun _ _ => 0) w (by omega) (by omega) (fun r h => absurd h (by omega)) (fun r h => absurd h (by omega)) (RdR.nil _ _ _ _ _ _) (RdR.nil _ _ _ _ _ _)
  rw [eqR_refl] at C
  exact C
set_option maxHeartbeats 3000000 in
theorem l_FnFringeOfFit (A : Option Addr) (n c : Nat) (f : Nat → Int) (w : World) (h0 : Rd w w.heap.size A n (fun k => .int .u8 (f k))) (hb : ∀ i, 0 ≤ f i ∧ f i ≤ 255) (hnc : n ≤ c) :
    Calls Try.prog 10 #[.slice A n c] w fun e w' => e = .returned (.bool true) ∧ Below w.heap.size w w' := by
  by_cases hn : n ≤ 1048576
  · have h : Code8 w w.heap.size A n f := ⟨h0, hb⟩
    clear h0 hb
    go_enter Try.func10, Try.ntmps10
    go_wp2_with fail
    refine (c_DrawFringeOf A n c f _ hn hnc h).mono ?_
    rintro e w1 ⟨d, r, q, ch, ti, ⟨hd1, hd2⟩, ⟨hr1, hr2⟩, ⟨hq1, hq2⟩, ⟨hc1, hc2⟩, ⟨ht1, ht2⟩, rfl, B1⟩
    clear h
    by_cases ok : frOk d r q ch ti = true
    · obtain ⟨hq3, ⟨hch, hch'⟩, hti, hti'⟩ := frOk_true ok
      obtain ⟨N, rfl⟩ : ∃ N : Nat, ch = N := ⟨ch.toNat, by omega⟩
      obtain ⟨l, rfl⟩ : ∃ l : Nat, ti = l := ⟨ti.toNat, by omega⟩
      have hv : fvB N (fun _ => l) (frF d r q) = true := fvB_mk ⟨by omega, by omega⟩ ⟨by omega, by omega⟩ (fun _ _ => ⟨rfl, fun i _ => frF_bd d r q _ i⟩)
      obtain ⟨⟨D1, D2⟩, _⟩ := q3_true hq3
      have he := eqR_refl N (fun _ => l) (frF d r q)
      have HV := Lib.hid hv
      have HQ := Lib.hid hq3
      have HL : Hid (∀ k, k < N → (fun _ : Nat => l) k ≤ 1048576) := Lib.hid fun _ _ => by show l ≤ 1048576; omega
      clear ok hv hq3
      go_wp2_with fail
      refine (c_FringeOf_yes d r q N l _ HQ.out (by omega) (by omega) (by omega) (by omega)).mono ?_
      rintro e w2 ⟨a2, c2, V2, rfl, b2, M2⟩
      go_wp2_with fail
      refine (c_sFringeOf_yes d r q N l _ HQ.out (by omega) (by omega) (by omega) (by omega)).mono ?_
      rintro e w3 ⟨a3, c3, V3, rfl, b3, M3⟩
      have R3 := M2.rd.step b3
      have R3' := M3.rd
      have B3 := below_seq (below_seq B1 b2) b3
      clear M2 M3 b2 b3 B1
      go_wp2_with fail
      refine (c_sameRows _ _ N N _ _ V2 V3 _ _ (frF d r q) (frF d r q) _ (by omega) (by omega) HL.out HL.out R3 R3').mono ?_
      rintro e w4' ⟨rfl, m4, rfl⟩
      have R4 : RdR (w3.drewN m4) (w3.drewN m4).heap.size a2 N V2 (fun _ => l) (frF d r q) := R3.drewN m4
      have B4 := below_drewN B3 m4
      clear R3 R3' B3
      generalize w3.drewN m4 = w4 at R4 B4 ⊢
      have C := c_FringeFit_yes a2 N l c2 V2 (fun _ => l) (frF d r q) w4 R4 HV.out rfl
      by_cases k1 : N < 2
      · have CH := Lib.hid C
        clear C R4
        go_wp2_with (go_at_call 37; refine CH.out.mono ?_; rintro e w5 ⟨rfl, b5⟩)
        go_ret
        exact ⟨rfl, below_seq B4 b5⟩
      · by_cases k2 : l < 2
        · have CH := Lib.hid C
          clear C R4
          go_wp2_with (go_at_call 37; refine CH.out.mono ?_; rintro e w5 ⟨rfl, b5⟩)
          go_ret
          exact ⟨rfl, below_seq B4 b5⟩
        · obtain ⟨e1, e2, e3⟩ := fit_own (n := N) (l := l) HQ.out (by omega) (by omega)
          rw [e1, e2, e3] at C
          have CH := Lib.hid C
          clear C R4 e1 e2 e3
          go_wp2_with (go_at_call 37; refine CH.out.mono ?_; rintro e w5 ⟨rfl, b5⟩)
          go_ret
          exact ⟨rfl, below_seq B4 b5⟩
    · have ok' : frOk d r q ch ti = false := by simpa using ok
      have C1 := Lib.hid (fun w => c_FringeOf_bad d r q ch ti w ok')
      have C2 := Lib.hid (fun w => c_sFringeOf_bad d r q ch ti w ok')
      have he := eqR_refl 0 (fun _ => 0) (fun _ _ => 0)
      clear ok ok'
      go_wp2_with fail
      refine (C1.out _).mono ?_
      rintro e w2 ⟨a2, c2, rfl, b2⟩
      go_wp2_with fail
      refine (C2.out _).mono ?_
      rintro e w3 ⟨a3, c3, rfl, b3⟩
      have B3 := below_seq (below_seq B1 b2) b3
      clear b2 b3 B1
      go_wp2_with (go_at_call 32; refine (c_sameRows0 _ _ _ _ _).mono ?_; rintro e w' ⟨rfl, m, rfl⟩)
      go_ret
      exact ⟨rfl, by first | exact below_drewN B3 _ | (rw [← World.drewN_drewN]; exact below_drewN (below_drewN B3 _) _)⟩
  · go_enter Try.func10, Try.ntmps10
    go_wp2
    go_ret
    exact ⟨rfl, Below.refl _ _⟩
set_option maxHeartbeats 3000000 in
theorem l_FnFringeOfScore (A : Option Addr) (n c : Nat) (f : Nat → Int) (w : World) (h0 : Rd w w.heap.size A n (fun k => .int .u8 (f k))) (hb : ∀ i, 0 ≤ f i ∧ f i ≤ 255) (hnc : n ≤ c) :
    Calls Try.prog 11 #[.slice A n c] w fun e w' => e = .returned (.bool true) ∧ Below w.heap.size w w' := by
  by_cases hn : n ≤ 1048576
  · have h : Code8 w w.heap.size A n f := ⟨h0, hb⟩
    clear h0 hb
    go_enter Try.func11, Try.ntmps11
    go_wp2_with fail
    refine (c_DrawFringeOf A n c f _ hn hnc h).mono ?_
    rintro e w1 ⟨d, r, q, ch, ti, ⟨hd1, hd2⟩, ⟨hr1, hr2⟩, ⟨hq1, hq2⟩, ⟨hc1, hc2⟩, ⟨ht1, ht2⟩, rfl, B1⟩
    clear h
    by_cases ok : frOk d r q ch ti = true
    · obtain ⟨hq3, ⟨hch, hch'⟩, hti, hti'⟩ := frOk_true ok
      obtain ⟨N, rfl⟩ : ∃ N : Nat, ch = N := ⟨ch.toNat, by omega⟩
      obtain ⟨l, rfl⟩ : ∃ l : Nat, ti = l := ⟨ti.toNat, by omega⟩
      have hv : fvB N (fun _ => l) (frF d r q) = true := fvB_mk ⟨by omega, by omega⟩ ⟨by omega, by omega⟩ (fun _ _ => ⟨rfl, fun i _ => frF_bd d r q _ i⟩)
      obtain ⟨⟨D1, D2⟩, _⟩ := q3_true hq3
      have he := eqR_refl N (fun _ => l) (frF d r q)
      have HV := Lib.hid hv
      have HQ := Lib.hid hq3
      have HL : Hid (∀ k, k < N → (fun _ : Nat => l) k ≤ 1048576) := Lib.hid fun _ _ => by show l ≤ 1048576; omega
      clear ok hv hq3
      go_wp2_with fail
      refine (c_FringeOf_yes d r q N l _ HQ.out (by omega) (by omega) (by omega) (by omega)).mono ?_
      rintro e w2 ⟨a2, c2, V2, rfl, b2, M2⟩
      go_wp2_with fail
      refine (c_sFringeOf_yes d r q N l _ HQ.out (by omega) (by omega) (by omega) (by omega)).mono ?_
      rintro e w3 ⟨a3, c3, V3, rfl, b3, M3⟩
      have R3 := M2.rd.step b3
      have R3' := M3.rd
      have B3 := below_seq (below_seq B1 b2) b3
      clear M2 M3 b2 b3 B1
      go_wp2_with fail
      refine (c_sameRows _ _ N N _ _ V2 V3 _ _ (frF d r q) (frF d r q) _ (by omega) (by omega) HL.out HL.out R3 R3').mono ?_
      rintro e w4' ⟨rfl, m4, rfl⟩
      have R4 : RdR (w3.drewN m4) (w3.drewN m4).heap.size a2 N V2 (fun _ => l) (frF d r q) := R3.drewN m4
      have B4 := below_drewN B3 m4
      clear R3 R3' B3
      generalize w3.drewN m4 = w4 at R4 B4 ⊢
      have m1 : (0 : Int) ≤ (N : Int) * (l : Int) := Int.mul_nonneg (by omega) (by omega)
      have m2 : (N : Int) * (l : Int) ≤ 64 := by
        have : (N : Int) * (l : Int) ≤ 8 * 8 := Int.mul_le_mul (by omega) (by omega) (by omega) (by omega)
        omega
      have C := Lib.hid (c_FringeFit_yes a2 N l c2 V2 (fun _ => l) (frF d r q) w4 R4 HV.out rfl)
      have S1 : Hid (∀ w', Below w4.heap.size w4 w' → Calls Try.prog 36 #[.slice a2 N c2, .int .i64 d, .int .i64 r, .int .i64 q] w' fun e w'' => e = .returned (.int .i64 ((N : Int) * (l : Int))) ∧ Below w'.heap.size w' w'') := Lib.hid fun w' b => by
        have := c_FringeScore_yes a2 N l c2 V2 (fun _ => l) (frF d r q) d r q w' (R4.step b) HV.out HQ.out rfl
        rw [score_own] at this
        exact this
      have S2 : Hid (∀ w', Below w4.heap.size w4 w' → Calls Try.prog 36 #[.slice a2 N c2, .int .i64 (fd (fitN N l (frF d r q))), .int .i64 (fr (fitN N l (frF d r q))), .int .i64 (fp (fitN N l (frF d r q)))] w' fun e w'' => e = .returned (.int .i64 ((N : Int) * (l : Int))) ∧ Below w'.heap.size w' w'') := Lib.hid fun w' b => by
        have := c_FringeScore_yes a2 N l c2 V2 (fun _ => l) (frF d r q) _ _ _ w' (R4.step b) HV.out (f_q3 (fitN_lt N l (frF d r q))) rfl
        rw [top_fit, top_own HQ.out] at this
        exact this
      generalize fd (fitN N l (frF d r q)) = x at C S2
      generalize fr (fitN N l (frF d r q)) = y at C S2
      generalize fp (fitN N l (frF d r q)) = z at C S2
      clear R4
      go_wp2_with fail
      refine C.out.mono ?_
      rintro e w5 ⟨rfl, b5⟩
      go_wp2_with fail
      refine (S1.out w5 b5).mono ?_
      rintro e w6 ⟨rfl, b6⟩
      have b56 := below_seq b5 b6
      go_wp2_with fail
      refine (S2.out w6 b56).mono ?_
      rintro e w7 ⟨rfl, b7⟩
      go_wp2
      go_ret
      exact ⟨rfl, below_seq B4 (below_seq b56 b7)⟩
    · have ok' : frOk d r q ch ti = false := by simpa using ok
      have C1 := Lib.hid (fun w => c_FringeOf_bad d r q ch ti w ok')
      have C2 := Lib.hid (fun w => c_sFringeOf_bad d r q ch ti w ok')
      have he := eqR_refl 0 (fun _ => 0) (fun _ _ => 0)
      clear ok ok'
      go_wp2_with fail
      refine (C1.out _).mono ?_
      rintro e w2 ⟨a2, c2, rfl, b2⟩
      go_wp2_with fail
      refine (C2.out _).mono ?_
      rintro e w3 ⟨a3, c3, rfl, b3⟩
      have B3 := below_seq (below_seq B1 b2) b3
      clear b2 b3 B1
      go_wp2_with (go_at_call 32; refine (c_sameRows0 _ _ _ _ _).mono ?_; rintro e w' ⟨rfl, m, rfl⟩)
      go_ret
      exact ⟨rfl, by first | exact below_drewN B3 _ | (rw [← World.drewN_drewN]; exact below_drewN (below_drewN B3 _) _)⟩
  · go_enter Try.func11, Try.ntmps11
    go_wp2
    go_ret
    exact ⟨rfl, Below.refl _ _⟩
set_option maxHeartbeats 3000000 in
theorem l_FnFringeTurnOf (A : Option Addr) (n c : Nat) (f : Nat → Int) (w : World) (h0 : Rd w w.heap.size A n (fun k => .int .u8 (f k))) (hb : ∀ i, 0 ≤ f i ∧ f i ≤ 255) (hnc : n ≤ c) :
    Calls Try.prog 7 #[.slice A n c] w fun e w' => e = .returned (.bool true) ∧ Below w.heap.size w w' := by
  by_cases hn : n ≤ 1048576
  · have h : Code8 w w.heap.size A n f := ⟨h0, hb⟩
    clear h0 hb
    go_enter Try.func7, Try.ntmps7
    go_wp2_with fail
    refine (c_DrawFringeOf A n c f _ hn hnc h).mono ?_
    rintro e w1 ⟨d, r, q, ch, ti, ⟨hd1, hd2⟩, ⟨hr1, hr2⟩, ⟨hq1, hq2⟩, ⟨hc1, hc2⟩, ⟨ht1, ht2⟩, rfl, B1⟩
    clear h
    by_cases ok : frOk d r q ch ti = true
    · obtain ⟨hq3, ⟨hch, hch'⟩, hti, hti'⟩ := frOk_true ok
      obtain ⟨N, rfl⟩ : ∃ N : Nat, ch = N := ⟨ch.toNat, by omega⟩
      obtain ⟨l, rfl⟩ : ∃ l : Nat, ti = l := ⟨ti.toNat, by omega⟩
      have hv : fvB N (fun _ => l) (frF d r q) = true := fvB_mk ⟨by omega, by omega⟩ ⟨by omega, by omega⟩ (fun _ _ => ⟨rfl, fun i _ => frF_bd d r q _ i⟩)
      obtain ⟨⟨D1, D2⟩, _⟩ := q3_true hq3
      have he := eqR_refl N (fun _ => l) (frF d r q)
      have HV := Lib.hid hv
      have HQ := Lib.hid hq3
      have HL : Hid (∀ k, k < N → (fun _ : Nat => l) k ≤ 1048576) := Lib.hid fun _ _ => by show l ≤ 1048576; omega
      clear ok hv hq3
      go_wp2_with fail
      refine (c_FringeOf_yes d r q N l _ HQ.out (by omega) (by omega) (by omega) (by omega)).mono ?_
      rintro e w2 ⟨a2, c2, V2, rfl, b2, M2⟩
      go_wp2_with fail
      refine (c_sFringeOf_yes d r q N l _ HQ.out (by omega) (by omega) (by omega) (by omega)).mono ?_
      rintro e w3 ⟨a3, c3, V3, rfl, b3, M3⟩
      have R3 := M2.rd.step b3
      have R3' := M3.rd
      have B3 := below_seq (below_seq B1 b2) b3
      clear M2 M3 b2 b3 B1
      go_wp2_with fail
      refine (c_sameRows _ _ N N _ _ V2 V3 _ _ (frF d r q) (frF d r q) _ (by omega) (by omega) HL.out HL.out R3 R3').mono ?_
      rintro e w4' ⟨rfl, m4, rfl⟩
      have R4 : RdR (w3.drewN m4) (w3.drewN m4).heap.size a2 N V2 (fun _ => l) (frF d r q) := R3.drewN m4
      have B4 := below_drewN B3 m4
      clear R3 R3' B3
      generalize w3.drewN m4 = w4 at R4 B4 ⊢
      have T1 := Lib.hid (c_FringeTurn_yes a2 N l c2 V2 (fun _ => l) (frF d r q) d r q w4 R4 HV.out HQ.out rfl)
      go_wp2_with fail
      refine T1.out.mono ?_
      rintro e w5 ⟨a5, c5, V5, rfl, b5, M5⟩
      clear T1
      go_wp2_with fail
      refine (c_FringeTurn_yes a2 N l c2 V2 (fun _ => l) (frF d r q) 0 0 0 w5 (R4.step b5) HV.out (q3_mk (by omega) (by omega) (by omega)) rfl).mono ?_
      rintro e w6 ⟨a6, c6, V6, rfl, b6, M6⟩
      have X : RdR w6 w6.heap.size a5 N V5 (fun _ => l) (fun _ _ => 0) := (M5.rd.step b6).congr (fun _ _ _ _ => tn_fr _ _ _ _ _)
      have Y : RdR w6 w6.heap.size a6 N V6 (fun _ => l) (frF d r q) := M6.rd.congr (fun _ _ _ _ => tn_none (frF_bd _ _ _ _ _) rfl rfl rfl)
      have O := (R4.step b5).step b6
      have B6 := below_seq (below_seq B4 b5) b6
      clear M5 M6 R4 b5 b6 B4
      go_wp2
      go_loop [16] (fun i => ∃ k : Nat, k ≤ N ∧ i = .int .i64 k) (fun i => N - (intOf i).toNat)
      case atStart => exact ⟨0, Nat.zero_le _, rfl⟩
      case round =>
        obtain ⟨k, hk, rfl⟩ := hrel
        by_cases hlt : k < N
        · obtain ⟨ad, Ar, cc, rfl, _, _, hk1, hA⟩ := X.cell hlt
          clear X Y O
          go_wp2
          go_loop [17] (fun i => ∃ j : Nat, j ≤ l ∧ i = .int .i64 j) (fun i => l - (intOf i).toNat)
          case atStart => exact ⟨0, Nat.zero_le _, rfl⟩
          case round =>
            obtain ⟨j, hj, rfl⟩ := hrel
            by_cases hjt : j < l
            · obtain ⟨ad2, rfl, _, hc⟩ := hA.at_ hjt
              have hj1 : w6.cell? (ad2.add j) = some (.int .i64 0) := hc j hjt
              clear hc hA
              go_wp2
              go_round
              case rel => exact ⟨j + 1, by omega, by go_num⟩
              case measure => simp [intOf]; omega
            · go_wp2
              go_round
              case rel => exact ⟨k + 1, by omega, by go_num⟩
              case measure => simp [intOf]; omega
        · go_wp2_with (go_at_call 32; refine (c_sameRows _ _ N N _ _ V6 V2 _ _ (frF d r q) (frF d r q) _ (by omega) (by omega) HL.out HL.out Y O).mono ?_; rintro e w' ⟨rfl, m, rfl⟩)
          go_ret
          exact ⟨rfl, below_drewN B6 _⟩
    · have ok' : frOk d r q ch ti = false := by simpa using ok
      have C1 := Lib.hid (fun w => c_FringeOf_bad d r q ch ti w ok')
      have C2 := Lib.hid (fun w => c_sFringeOf_bad d r q ch ti w ok')
      have he := eqR_refl 0 (fun _ => 0) (fun _ _ => 0)
      clear ok ok'
      go_wp2_with fail
      refine (C1.out _).mono ?_
      rintro e w2 ⟨a2, c2, rfl, b2⟩
      go_wp2_with fail
      refine (C2.out _).mono ?_
      rintro e w3 ⟨a3, c3, rfl, b3⟩
      have B3 := below_seq (below_seq B1 b2) b3
      clear b2 b3 B1
      go_wp2_with (go_at_call 32; refine (c_sameRows0 _ _ _ _ _).mono ?_; rintro e w' ⟨rfl, m, rfl⟩)
      go_ret
      exact ⟨rfl, by first | exact below_drewN B3 _ | (rw [← World.drewN_drewN]; exact below_drewN (below_drewN B3 _) _)⟩
  · go_enter Try.func7, Try.ntmps7
    go_wp2
    go_ret
    exact ⟨rfl, Below.refl _ _⟩
end Go.Proofs.Ytgfmhipfoaobgaa
