/-
  The law on the fringes of three drawn numbers: they go on evenly.
-/
import Derived.Test.YtgfmhipfoaobgaaFrDraw
import Derived.Test.YtgfmhipfoaobgaaFrRows
import Derived.Test.YtgfmhipfoaobgaaFrL3
namespace Go.Proofs.Ytgfmhipfoaobgaa
open Go.RowKit

theorem of_down (d r q : Int) (k k1 j : Nat) (d1 : 0 ≤ d) (d2 : d ≤ 3) (h : k = k1 + 1) : wrap64 (wrap64 (frF d r q k j - frF d r q k1 j) - d) % 4 = 0 := by
  have h1 := frF_bd d r q k j
  have h2 := frF_bd d r q k1 j
  rw [IntWalk.wrap64_in (frF d r q k j - frF d r q k1 j) ⟨by omega, by omega⟩, IntWalk.wrap64_in (frF d r q k j - frF d r q k1 j - d) ⟨by omega, by omega⟩]
  subst h
  have e : d * ((k1 + 1 : Nat) : Int) = d * (k1 : Int) + d := by rw [Int.natCast_add, Int.mul_add]; simp
  unfold frF
  rw [e]
  generalize d * (k1 : Int) = x
  generalize r * (j : Int) = y
  omega
theorem of_right (d r q : Int) (k j j1 : Nat) (r1 : 0 ≤ r) (r2 : r ≤ 3) (h : j = j1 + 1) : wrap64 (wrap64 (frF d r q k j - frF d r q k j1) - r) % 4 = 0 := by
  have h1 := frF_bd d r q k j
  have h2 := frF_bd d r q k j1
  rw [IntWalk.wrap64_in (frF d r q k j - frF d r q k j1) ⟨by omega, by omega⟩, IntWalk.wrap64_in (frF d r q k j - frF d r q k j1 - r) ⟨by omega, by omega⟩]
  subst h
  have e : r * ((j1 + 1 : Nat) : Int) = r * (j1 : Int) + r := by rw [Int.natCast_add, Int.mul_add]; simp
  unfold frF
  rw [e]
  generalize d * (k : Int) = x
  generalize r * (j1 : Int) = y
  omega
theorem c_rest0 (n : Int) (h : n % 4 = 0) (w : World) : Calls Try.prog 33 #[.int .i64 n, .int .i64 4] w fun e w' => e = .returned (.int .i64 0) ∧ w = w' := by
  have := c_rest n w
  rw [h] at this
  exact this
set_option maxRecDepth 100000 in
set_option maxHeartbeats 4000000 in
theorem l_FnFringeOf (A : Option Addr) (n c : Nat) (f : Nat → Int) (w : World) (h0 : Rd w w.heap.size A n (fun k => .int .u8 (f k))) (hb : ∀ i, 0 ≤ f i ∧ f i ≤ 255) (hnc : n ≤ c) :
    Calls Try.prog 6 #[.slice A n c] w fun e w' => e = .returned (.bool true) ∧ Below w.heap.size w w' := by
  by_cases hn : n ≤ 1048576
  · have h : Code8 w w.heap.size A n f := ⟨h0, hb⟩
    clear h0 hb
    go_enter Try.func6, Try.ntmps6
    go_wp2_with fail
    refine (c_DrawFringeOf A n c f _ hn hnc h).mono ?_
    rintro e w1 ⟨d, r, q, ch, ti, ⟨hd1, hd2⟩, ⟨hr1, hr2⟩, ⟨hq1, hq2⟩, ⟨hc1, hc2⟩, ⟨ht1, ht2⟩, rfl, B1⟩
    clear h
    by_cases ok : frOk d r q ch ti = true
    · obtain ⟨hq3, ⟨hch, hch'⟩, hti, hti'⟩ := frOk_true ok
      obtain ⟨N, rfl⟩ : ∃ N : Nat, ch = N := ⟨ch.toNat, by omega⟩
      obtain ⟨l, rfl⟩ : ∃ l : Nat, ti = l := ⟨ti.toNat, by omega⟩
      have hv : fvB N (fun _ => l) (frF d r q) = true := fvB_mk ⟨by omega, by omega⟩ ⟨by omega, by omega⟩ (fun _ _ => ⟨rfl, fun i _ => frF_bd d r q _ i⟩)
      obtain ⟨⟨D1, D2⟩, _⟩ := q3_true hq3
      have he := eqR_refl N (fun _ => l) (frF d r q)
      have HV := Lib.hid hv
      have HQ := Lib.hid hq3
      have HL : Hid (∀ k, k < N → (fun _ : Nat => l) k ≤ 1048576) := Lib.hid fun _ _ => by show l ≤ 1048576; omega
      clear ok hv hq3
      go_wp2_with fail
      refine (c_FringeOf_yes d r q N l _ HQ.out (by omega) (by omega) (by omega) (by omega)).mono ?_
      rintro e w2 ⟨a2, c2, V2, rfl, b2, M2⟩
      go_wp2_with fail
      refine (c_sFringeOf_yes d r q N l _ HQ.out (by omega) (by omega) (by omega) (by omega)).mono ?_
      rintro e w3 ⟨a3, c3, V3, rfl, b3, M3⟩
      have R3 := M2.rd.step b3
      have R3' := M3.rd
      have B3 := below_seq (below_seq B1 b2) b3
      clear M2 M3 b2 b3 B1
      go_wp2_with fail
      refine (c_sameRows _ _ N N _ _ V2 V3 _ _ (frF d r q) (frF d r q) _ (by omega) (by omega) HL.out HL.out R3 R3').mono ?_
      rintro e w4' ⟨rfl, m4, rfl⟩
      have R4 : RdR (w3.drewN m4) (w3.drewN m4).heap.size a2 N V2 (fun _ => l) (frF d r q) := R3.drewN m4
      have B4 := below_drewN B3 m4
      clear R3 R3' B3
      generalize w3.drewN m4 = w4 at R4 B4 ⊢
      have hp0 : frF d r q 0 0 = q := by unfold frF; simp; omega
      go_wp2
      go_loopw [12] (fun i wr => ∃ k m : Nat, k ≤ N ∧ i = .int .i64 k ∧ wr = w4.drewN m) (fun i _ => N - (intOf i).toNat)
      case atStart => exact ⟨0, 0, Nat.zero_le _, rfl, rfl⟩
      case round =>
        obtain ⟨k, m, hk, rfl, rfl⟩ := hrel
        by_cases hlt : k < N
        · obtain ⟨ad, Ar, cc, rfl, _, _, hk1, hA⟩ := R4.cell hlt
          have iN : (k : Int) < (N : Int) := by omega
          have HP0 := Lib.hid hp0
          clear hp0
          go_wp2
          go_loopw [13] (fun i wr => ∃ j m : Nat, j ≤ l ∧ i = .int .i64 j ∧ wr = w4.drewN m) (fun i _ => l - (intOf i).toNat)
          case atStart => exact ⟨0, m, Nat.zero_le _, rfl, rfl⟩
          case round =>
            obtain ⟨j, mj, hj, rfl, rfl⟩ := hrel
            by_cases hjt : j < l
            · obtain ⟨ad2, rfl, _, hc⟩ := hA.at_ hjt
              have hj1 : w4.cell? (ad2.add j) = some (.int .i64 (frF d r q k j)) := hc j hjt
              have jN : (j : Int) < (l : Int) := by omega
              have HC := Lib.hid hc
              have HR := Lib.hid R4
              clear hA hc R4
              by_cases k0 : k = 0
              · by_cases j0 : j = 0
                · have g1 : decide ((0 : Int) < (k : Int)) = false := by simpa using (by omega : ¬ (0 : Int) < (k : Int))
                  have g1' : decide (0 < k) = false := by simpa using (by omega : ¬ 0 < k)
                  have g2 : decide ((0 : Int) < (j : Int)) = false := by simpa using (by omega : ¬ (0 : Int) < (j : Int))
                  have g2' : decide (0 < j) = false := by simpa using (by omega : ¬ 0 < j)
                  clear k0 j0
                  go_wp2
                  go_quiet (fail)
                  go_wp2
                  go_roundw
                  case rel => exact ⟨j + 1, _, by omega, by go_num, rfl⟩
                  case measure => simp [intOf]; omega
                · have g1 : decide ((0 : Int) < (k : Int)) = false := by simpa using (by omega : ¬ (0 : Int) < (k : Int))
                  have g1' : decide (0 < k) = false := by simpa using (by omega : ¬ 0 < k)
                  have g2 : (0 : Int) < (j : Int) := by omega
                  have g2' : decide (0 < j) = true := by simpa using (by omega : 0 < j)
                  obtain ⟨j1, ej⟩ : ∃ j1, j = j1 + 1 := ⟨j - 1, by omega⟩
                  have hm2 : w4.cell? (ad2.add j1) = some (.int .i64 (frF d r q k j1)) := HC.out j1 (by omega)
                  have jM : (j1 : Int) < (l : Int) := by omega
                  have H2 := Lib.hid (of_right d r q k j j1 hr1 hr2 ej)
                  have W2 := Lib.hid (show IntKind.i64.wrap ((j : Int) - 1) = (j1 : Int) from by rw [IntWalk.i64_in _ (by omega)]; omega)
                  have W2' := W2.out
                  clear W2 ej
                  clear k0 j0
                  go_wp2
                  go_quiet (first | (go_at_call 33; exact qsa (c_rest0 _ (by with_reducible exact H2.out) _)))
                  clear W2'
                  go_wp2
                  go_roundw
                  case rel => exact ⟨j + 1, _, by omega, by go_num, rfl⟩
                  case measure => simp [intOf]; omega
              · by_cases j0 : j = 0
                · have g1 : (0 : Int) < (k : Int) := by omega
                  have g1' : decide (0 < k) = true := by simpa using (by omega : 0 < k)
                  obtain ⟨k1, ek⟩ : ∃ k1, k = k1 + 1 := ⟨k - 1, by omega⟩
                  obtain ⟨ad', Am, cm, ea, _, _, hkm, hAm⟩ := HR.out.cell (r := k1) (by omega)
                  injection ea with ea
                  subst ea
                  obtain ⟨ad3, rfl, _, hcm⟩ := hAm.at_ hjt
                  have hm1 : w4.cell? (ad3.add j) = some (.int .i64 (frF d r q k1 j)) := hcm j hjt
                  have iM : (k1 : Int) < (N : Int) := by omega
                  have H1 := Lib.hid (of_down d r q k k1 j D1 D2 ek)
                  have W1 := Lib.hid (show IntKind.i64.wrap ((k : Int) - 1) = (k1 : Int) from by rw [IntWalk.i64_in _ (by omega)]; omega)
                  clear hAm hcm
                  have g2 : decide ((0 : Int) < (j : Int)) = false := by simpa using (by omega : ¬ (0 : Int) < (j : Int))
                  have g2' : decide (0 < j) = false := by simpa using (by omega : ¬ 0 < j)
                  have W1' := W1.out
                  clear W1 ek
                  clear k0 j0
                  go_wp2
                  go_quiet (first | (go_at_call 33; exact qsa (c_rest0 _ (by with_reducible exact H1.out) _)))
                  clear W1'
                  go_wp2
                  go_roundw
                  case rel => exact ⟨j + 1, _, by omega, by go_num, rfl⟩
                  case measure => simp [intOf]; omega
                · have g1 : (0 : Int) < (k : Int) := by omega
                  have g1' : decide (0 < k) = true := by simpa using (by omega : 0 < k)
                  obtain ⟨k1, ek⟩ : ∃ k1, k = k1 + 1 := ⟨k - 1, by omega⟩
                  obtain ⟨ad', Am, cm, ea, _, _, hkm, hAm⟩ := HR.out.cell (r := k1) (by omega)
                  injection ea with ea
                  subst ea
                  obtain ⟨ad3, rfl, _, hcm⟩ := hAm.at_ hjt
                  have hm1 : w4.cell? (ad3.add j) = some (.int .i64 (frF d r q k1 j)) := hcm j hjt
                  have iM : (k1 : Int) < (N : Int) := by omega
                  have H1 := Lib.hid (of_down d r q k k1 j D1 D2 ek)
                  have W1 := Lib.hid (show IntKind.i64.wrap ((k : Int) - 1) = (k1 : Int) from by rw [IntWalk.i64_in _ (by omega)]; omega)
                  clear hAm hcm
                  have g2 : (0 : Int) < (j : Int) := by omega
                  have g2' : decide (0 < j) = true := by simpa using (by omega : 0 < j)
                  obtain ⟨j1, ej⟩ : ∃ j1, j = j1 + 1 := ⟨j - 1, by omega⟩
                  have hm2 : w4.cell? (ad2.add j1) = some (.int .i64 (frF d r q k j1)) := HC.out j1 (by omega)
                  have jM : (j1 : Int) < (l : Int) := by omega
                  have H2 := Lib.hid (of_right d r q k j j1 hr1 hr2 ej)
                  have W2 := Lib.hid (show IntKind.i64.wrap ((j : Int) - 1) = (j1 : Int) from by rw [IntWalk.i64_in _ (by omega)]; omega)
                  have W1' := W1.out
                  clear W1 ek
                  have W2' := W2.out
                  clear W2 ej
                  clear k0 j0
                  go_wp2
                  go_quiet (first | (go_at_call 33; exact qsa (c_rest0 _ (by with_reducible exact H1.out) _)) | (go_at_call 33; exact qsa (c_rest0 _ (by with_reducible exact H2.out) _)))
                  clear W1'
                  clear W2'
                  go_wp2
                  go_roundw
                  case rel => exact ⟨j + 1, _, by omega, by go_num, rfl⟩
                  case measure => simp [intOf]; omega
            · go_wp2
              go_roundw
              case rel => exact ⟨k + 1, mj, by omega, by go_num, rfl⟩
              case measure => simp [intOf]; omega
        · obtain ⟨ad, Ar, cc, rfl, _, _, hk1, hA⟩ := R4.cell (r := 0) (by omega)
          obtain ⟨ad2, rfl, _, hc⟩ := hA.at_ (k := 0) (by omega)
          have hj1 : w4.cell? (ad2.add 0) = some (.int .i64 q) := by rw [hc 0 (by omega), hp0]
          rw [add_zero] at hk1 hj1
          have CV := Lib.hid (fun m => c_FringeValid (some ad) N c2 V2 (fun _ => l) (frF d r q) (w4.drewN m) (by omega) (R4.drewN m))
          have HV' := HV.out
          clear hc hA R4 hp0
          go_wp2_with (go_at_call 29; refine (CV.out m).mono ?_; rintro e w' ⟨rfl, rfl⟩)
          go_ret
          exact ⟨rfl, below_drewN B4 _⟩
    · have ok' : frOk d r q ch ti = false := by simpa using ok
      have C1 := Lib.hid (fun w => c_FringeOf_bad d r q ch ti w ok')
      have C2 := Lib.hid (fun w => c_sFringeOf_bad d r q ch ti w ok')
      have he := eqR_refl 0 (fun _ => 0) (fun _ _ => 0)
      clear ok ok'
      go_wp2_with fail
      refine (C1.out _).mono ?_
      rintro e w2 ⟨a2, c2, rfl, b2⟩
      go_wp2_with fail
      refine (C2.out _).mono ?_
      rintro e w3 ⟨a3, c3, rfl, b3⟩
      have B3 := below_seq (below_seq B1 b2) b3
      clear b2 b3 B1
      go_wp2_with (go_at_call 32; refine (c_sameRows0 _ _ _ _ _).mono ?_; rintro e w' ⟨rfl, m, rfl⟩)
      go_ret
      exact ⟨rfl, by first | exact below_drewN B3 _ | (rw [← World.drewN_drewN]; exact below_drewN (below_drewN B3 _) _)⟩
  · go_enter Try.func6, Try.ntmps6
    go_wp2
    go_ret
    exact ⟨rfl, Below.refl _ _⟩
end Go.Proofs.Ytgfmhipfoaobgaa
