/-
  The laws on scores and turns of drawn fringes.
-/
import Derived.Test.YtgfmhipfoaobgaaFrDrawF
import Derived.Test.YtgfmhipfoaobgaaFrL3
namespace Go.Proofs.Ytgfmhipfoaobgaa
open Go.RowKit

theorem tn_valid {N l : Nat} (F : Nat → Nat → Int) (d r q : Int) (h1 : 1 ≤ N) (h2 : N ≤ 8) (h3 : 1 ≤ l) (h4 : l ≤ 8) : fvB N (fun _ => l) (tnF F d r q) = true :=
  fvB_mk ⟨h1, h2⟩ ⟨h3, h4⟩ fun _ _ => ⟨rfl, fun i _ => tnF_bd F d r q _ i⟩
theorem nl_bd {N l : Nat} (h2 : N ≤ 8) (h4 : l ≤ 8) : (0 : Int) ≤ (N : Int) * (l : Int) ∧ (N : Int) * (l : Int) ≤ 64 := by
  have h : (N : Int) * (l : Int) ≤ 8 * 8 := Int.mul_le_mul (by omega) (by omega) (by omega) (by omega)
  exact ⟨Int.mul_nonneg (by omega) (by omega), by omega⟩
theorem c_FringeTurn_bad {a : Option Addr} {n c : Nat} {V : Nat → Value} {L : Nat → Nat} {f : Nat → Nat → Int} {d r p : Int} {w : World} (hn : n ≤ 1048576) (h : RdR w w.heap.size a n V L f) (ht : tnOk n L f d r p = false) :
    Calls Try.prog 34 #[.slice a n c, .int .i64 d, .int .i64 r, .int .i64 p] w fun e w' => ∃ a c, e = .returned (.tuple #[.slice a 0 c, .bool false]) ∧ Below w.heap.size w w' := by
  have C := c_FringeTurn a n c V L f d r p w hn h
  rw [ht] at C
  exact C.mono fun e w' ⟨a, c, _, he, hb, _⟩ => ⟨a, c, he, hb⟩
theorem c_sFringeTurn_bad {a : Option Addr} {n c : Nat} {V : Nat → Value} {L : Nat → Nat} {f : Nat → Nat → Int} {d r p : Int} {w : World} (hn : n ≤ 1048576) (h : RdR w w.heap.size a n V L f) (ht : tnOk n L f d r p = false) :
    Calls Try.prog 41 #[.slice a n c, .int .i64 d, .int .i64 r, .int .i64 p] w fun e w' => ∃ a c, e = .returned (.tuple #[.slice a 0 c, .bool false]) ∧ Below w.heap.size w w' := by
  have C := c_sFringeTurn a n c V L f d r p w hn h
  rw [ht] at C
  exact C.mono fun e w' ⟨a, c, _, he, hb, _⟩ => ⟨a, c, he, hb⟩
/-- Sums of scores over the starts. -/
def psum (N l : Nat) (F : Nat → Nat → Int) (d r : Int) : Nat → Int := sumN (fun k => score N l F d r k)
theorem psum_bd {N l : Nat} (F : Nat → Nat → Int) (d r : Int) (h2 : N ≤ 8) (h4 : l ≤ 8) {k : Nat} (hk : k ≤ 4) : 0 ≤ psum N l F d r k ∧ psum N l F d r k ≤ 256 := by
  have := sumN_bd (f := fun k : Nat => score N l F d r k) (M := 64) (n := 4) (fun k _ => by
    have h1 := score_bd N l F d r (k : Int)
    have h2 := (nl_bd h2 h4).2
    show 0 ≤ score N l F d r (k : Int) ∧ score N l F d r (k : Int) ≤ 64
    omega) k hk
  unfold psum
  omega
theorem psum_four {N l : Nat} {F : Nat → Nat → Int} (d r : Int) (hf : Q4 N l F) : psum N l F d r 4 = (N : Int) * (l : Int) := by
  have := score_four d r hf
  rw [← this]
  simp [psum, sumN]
theorem fit_num (k : Nat) : 16 * fd k + 4 * fr k + fp k = (k : Int) := by unfold fd fr fp; omega
set_option maxHeartbeats 4000000 in
theorem l_FnFringeScore (A : Option Addr) (n c : Nat) (f : Nat → Int) (w : World) (h0 : Rd w w.heap.size A n (fun k => .int .u8 (f k))) (hb : ∀ i, 0 ≤ f i ∧ f i ≤ 255) (hnc : n ≤ c) :
    Calls Try.prog 12 #[.slice A n c] w fun e w' => e = .returned (.bool true) ∧ Below w.heap.size w w' := by
  by_cases hn : n ≤ 1048576
  · have h : Code8 w w.heap.size A n f := ⟨h0, hb⟩
    clear h0 hb
    go_enter Try.func12, Try.ntmps12
    go_wp2_with fail
    refine (c_DrawFringeScore A n c f _ hn hnc h).mono ?_
    rintro e w1 ⟨a, N, cc, V, L, F, d, r, q, rfl, hN, hL, R1, B1, ⟨hd1, hd2⟩, ⟨hr1, hr2⟩, hq1, hq2⟩
    have HL := Lib.hid hL
    clear h hL
    have C1 := c_FringeScore a N cc V L F d r q w1 (by omega) R1
    by_cases ht : tnOk N L F d r q = true
    · rw [fsc, if_pos ht] at C1
      obtain ⟨hv, hq⟩ := tnOk_true ht
      obtain ⟨⟨n1, n8⟩, ⟨l1, l8⟩, hrow⟩ := fvB_true hv
      have Q := fvB_Q4 hv
      obtain ⟨⟨D1, D2⟩, _⟩ := q3_true hq
      have HV := Lib.hid hv
      have HQ := Lib.hid hq
      have HR := Lib.hid hrow
      have H4 := Lib.hid Q
      obtain ⟨l, el⟩ : ∃ l, L 0 = l := ⟨_, rfl⟩
      have EL := Lib.hid el
      rw [el] at l1 l8
      obtain ⟨m1, m2⟩ := nl_bd n8 l8
      clear el hv hq Q hrow
      have H4' : Hid (Q4 N l F) := Lib.hid (EL.out ▸ H4.out)
      have C2 := fun w' hb => c_sFringeScore a N cc V L F d r q w' (by omega) (R1.step hb)
      rw [fsc, if_pos ht, EL.out] at C2
      rw [EL.out] at C1
      have S1 := Lib.hid C1
      have S2 := Lib.hid C2
      have s0 := score_bd N l F d r q
      obtain ⟨s1, s2⟩ := s0
      have hs0 : decide (score N l F d r q < 0) = false := by simpa using (by omega : ¬ score N l F d r q < 0)
      clear ht C1 C2
      go_wp2_with fail
      refine S1.out.mono ?_
      rintro e w2 ⟨rfl, b2⟩
      go_wp2_with fail
      refine (S2.out w2 b2).mono ?_
      rintro e w3 ⟨rfl, m3, rfl⟩
      have b3 := below_drewN b2 m3
      generalize w2.drewN m3 = w3 at b3 ⊢
      clear b2 S1 S2
      go_wp2
      go_loopw [9, 10] (fun s i wr => ∃ k : Nat, k ≤ 4 ∧ s = .int .i64 (psum N l F d r k) ∧ i = .int .i64 k ∧ Below w1.heap.size w1 wr) (fun _ i _ => 4 - (intOf i).toNat)
      case atStart => exact ⟨0, Nat.zero_le _, rfl, rfl, b3⟩
      case round =>
        obtain ⟨k, hk, rfl, rfl, b4⟩ := hrel
        obtain ⟨t1, t2⟩ := psum_bd F d r n8 l8 hk
        clear b3
        by_cases hlt : k < 4
        · have s3 := score_bd N l F d r (k : Int)
          obtain ⟨s31, s32⟩ := s3
          have C := Lib.hid (c_FringeScore_yes a N l cc V L F d r (k : Int) wr (R1.step b4) HV.out (q3_mk ⟨D1, D2⟩ ⟨hr1, hr2⟩ ⟨by omega, by omega⟩) EL.out)
          clear R1
          go_wp2_with (go_at_call 36; refine C.out.mono ?_; rintro e w5 ⟨rfl, b5⟩)
          go_roundw
          case rel => exact ⟨k + 1, by omega, rfl, by go_num, below_seq b4 b5⟩
          case measure => simp [intOf]; omega
        · obtain rfl : k = 4 := by omega
          rw [psum_four d r H4'.out]
          obtain ⟨ad, Ar, c0, rfl, _, _, hk1, _⟩ := (R1.step b4).cell (r := 0) (by omega)
          rw [add_zero, EL.out] at hk1
          have n0 : (0 : Int) < (N : Int) := by omega
          clear R1
          go_wp2
          go_ret
          exact ⟨rfl, below_seq B1 b4⟩
    · rw [fsc, if_neg ht] at C1
      have C2 := fun w' hb => c_sFringeScore a N cc V L F d r q w' (by omega) (R1.step hb)
      rw [fsc, if_neg ht] at C2
      have S1 := Lib.hid C1
      have S2 := Lib.hid C2
      clear ht C1 C2 R1
      go_wp2_with fail
      refine S1.out.mono ?_
      rintro e w2 ⟨rfl, b2⟩
      go_wp2_with fail
      refine (S2.out w2 b2).mono ?_
      rintro e w3 ⟨rfl, m3, rfl⟩
      go_wp2
      go_ret
      exact ⟨rfl, below_drewN (below_seq B1 b2) m3⟩
  · go_enter Try.func12, Try.ntmps12
    go_wp2
    go_ret
    exact ⟨rfl, Below.refl _ _⟩
set_option maxHeartbeats 4000000 in
theorem l_FnFringeScoreTurn (A : Option Addr) (n c : Nat) (f : Nat → Int) (w : World) (h0 : Rd w w.heap.size A n (fun k => .int .u8 (f k))) (hb : ∀ i, 0 ≤ f i ∧ f i ≤ 255) (hnc : n ≤ c) :
    Calls Try.prog 13 #[.slice A n c] w fun e w' => e = .returned (.bool true) ∧ Below w.heap.size w w' := by
  by_cases hn : n ≤ 1048576
  · have h : Code8 w w.heap.size A n f := ⟨h0, hb⟩
    clear h0 hb
    go_enter Try.func13, Try.ntmps13
    go_wp2_with fail
    refine (c_DrawFringeScore A n c f _ hn hnc h).mono ?_
    rintro e w1 ⟨a, N, cc, V, L, F, d, r, q, rfl, hN, hL, R1, B1, ⟨hd1, hd2⟩, ⟨hr1, hr2⟩, hq1, hq2⟩
    have HL := Lib.hid hL
    clear h hL
    have C1 := c_FringeScore a N cc V L F d r q w1 (by omega) R1
    by_cases ht : tnOk N L F d r q = true
    · rw [fsc, if_pos ht] at C1
      obtain ⟨hv, hq⟩ := tnOk_true ht
      obtain ⟨⟨n1, n8⟩, ⟨l1, l8⟩, hrow⟩ := fvB_true hv
      have Q := fvB_Q4 hv
      obtain ⟨⟨D1, D2⟩, _⟩ := q3_true hq
      have HV := Lib.hid hv
      have HQ := Lib.hid hq
      have HR := Lib.hid hrow
      have H4 := Lib.hid Q
      obtain ⟨l, el⟩ : ∃ l, L 0 = l := ⟨_, rfl⟩
      have EL := Lib.hid el
      rw [el] at l1 l8
      obtain ⟨m1, m2⟩ := nl_bd n8 l8
      clear el hv hq Q hrow
      have H4' : Hid (Q4 N l F) := Lib.hid (EL.out ▸ H4.out)
      have C2 := fun w' hb => c_sFringeScore a N cc V L F d r q w' (by omega) (R1.step hb)
      rw [fsc, if_pos ht, EL.out] at C2
      rw [EL.out] at C1
      have S1 := Lib.hid C1
      have S2 := Lib.hid C2
      have s0 := score_bd N l F d r q
      obtain ⟨s1, s2⟩ := s0
      have hs0 : decide (score N l F d r q < 0) = false := by simpa using (by omega : ¬ score N l F d r q < 0)
      have et := Lib.hid (score_tn (n := N) (l := l) (f := F) (d := d) (r := r) (p := q) (a := 0) (b := 0) (e := 0) (D := d) (R := r) (P := q) H4'.out (by omega) (by omega) (by omega))
      clear ht C1 C2
      go_wp2_with fail
      refine S1.out.mono ?_
      rintro e w2 ⟨rfl, b2⟩
      go_wp2_with fail
      refine (S2.out w2 b2).mono ?_
      rintro e w3 ⟨rfl, m3, rfl⟩
      have b3 := below_drewN b2 m3
      generalize w2.drewN m3 = w3 at b3 ⊢
      clear b2 S1 S2
      go_wp2_with fail
      refine (c_FringeTurn_yes a N l cc V L F d r q w3 (R1.step b3) HV.out HQ.out EL.out).mono ?_
      rintro e w4 ⟨a4, c4, V4, rfl, b4, M4⟩
      have C := c_FringeScore_yes a4 N l c4 V4 (fun _ => l) (tnF F d r q) 0 0 0 w4 M4.rd (tn_valid F d r q n1 n8 l1 l8) (q3_mk ⟨by omega, by omega⟩ ⟨by omega, by omega⟩ ⟨by omega, by omega⟩) rfl
      rw [et.out] at C
      have CH := Lib.hid C
      clear C M4 R1
      go_wp2_with (go_at_call 36; refine CH.out.mono ?_; rintro e w5 ⟨rfl, b5⟩)
      go_ret
      exact ⟨rfl, below_seq B1 (below_seq (below_seq b3 b4) b5)⟩
    · rw [fsc, if_neg ht] at C1
      have C2 := fun w' hb => c_sFringeScore a N cc V L F d r q w' (by omega) (R1.step hb)
      rw [fsc, if_neg ht] at C2
      have S1 := Lib.hid C1
      have S2 := Lib.hid C2
      clear ht C1 C2 R1
      go_wp2_with fail
      refine S1.out.mono ?_
      rintro e w2 ⟨rfl, b2⟩
      go_wp2_with fail
      refine (S2.out w2 b2).mono ?_
      rintro e w3 ⟨rfl, m3, rfl⟩
      go_wp2
      go_ret
      exact ⟨rfl, below_drewN (below_seq B1 b2) m3⟩
  · go_enter Try.func13, Try.ntmps13
    go_wp2
    go_ret
    exact ⟨rfl, Below.refl _ _⟩
set_option maxHeartbeats 4000000 in
theorem l_FnFringeTurnAdd (A : Option Addr) (n c : Nat) (f : Nat → Int) (w : World) (h0 : Rd w w.heap.size A n (fun k => .int .u8 (f k))) (hb : ∀ i, 0 ≤ f i ∧ f i ≤ 255) (hnc : n ≤ c) :
    Calls Try.prog 19 #[.slice A n c] w fun e w' => e = .returned (.bool true) ∧ Below w.heap.size w w' := by
  by_cases hn : n ≤ 1048576
  · have h : Code8 w w.heap.size A n f := ⟨h0, hb⟩
    clear h0 hb
    go_enter Try.func19, Try.ntmps19
    go_wp2_with fail
    refine (c_DrawFringeTurn A n c f _ hn hnc h).mono ?_
    rintro e w1 ⟨a, N, cc, V, L, F, d, r, q, rfl, hN, hL, R1, B1, ⟨hd1, hd2⟩, ⟨hr1, hr2⟩, hq1, hq2⟩
    have HL := Lib.hid hL
    clear h hL
    by_cases ht : tnOk N L F d r q = true
    · obtain ⟨hv, hq⟩ := tnOk_true ht
      obtain ⟨⟨n1, n8⟩, ⟨l1, l8⟩, hrow⟩ := fvB_true hv
      have Q := fvB_Q4 hv
      obtain ⟨⟨D1, D2⟩, _⟩ := q3_true hq
      have HV := Lib.hid hv
      have HQ := Lib.hid hq
      have HR := Lib.hid hrow
      have H4 := Lib.hid Q
      obtain ⟨l, el⟩ : ∃ l, L 0 = l := ⟨_, rfl⟩
      have EL := Lib.hid el
      rw [el] at l1 l8
      obtain ⟨m1, m2⟩ := nl_bd n8 l8
      clear el hv hq Q hrow
      have H4' : Hid (Q4 N l F) := Lib.hid (EL.out ▸ H4.out)
      have HLl : Hid (∀ k, k < N → (fun _ : Nat => l) k ≤ 1048576) := Lib.hid fun _ _ => by show l ≤ 1048576; omega
      clear ht
      go_wp2_with fail
      refine (c_FringeTurn_yes a N l cc V L F d r q w1 R1 HV.out HQ.out EL.out).mono ?_
      rintro e w2 ⟨a2, c2, V2, rfl, b2, M2⟩
      go_wp2_with fail
      refine (c_sFringeTurn_yes a N l cc V L F d r q w2 (R1.step b2) HV.out HQ.out EL.out).mono ?_
      rintro e w3 ⟨a3, c3, V3, rfl, b3, M3⟩
      have X3 := M2.rd.step b3
      have he0 : eqR N N (fun _ => l) (fun _ => l) (tnF F d r q) (tnF F d r q) = true := eqR_refl _ _ _
      go_wp2_with fail
      refine (c_sameRows _ _ N N _ _ V2 V3 _ _ (tnF F d r q) (tnF F d r q) _ (by omega) (by omega) HLl.out HLl.out X3 M3.rd).mono ?_
      rintro e w4' ⟨rfl, m4, rfl⟩
      have X4 : RdR (w3.drewN m4) (w3.drewN m4).heap.size a2 N V2 (fun _ => l) (tnF F d r q) := X3.drewN m4
      have b4 := below_drewN (below_seq b2 b3) m4
      clear b2 b3 M2 M3 X3
      generalize w3.drewN m4 = w4 at X4 b4 ⊢
      go_wp2_with fail
      refine (c_FringeTurn_yes a2 N l c2 V2 (fun _ => l) (tnF F d r q) 1 2 3 w4 X4 (tn_valid F d r q n1 n8 l1 l8) (q3_mk ⟨by omega, by omega⟩ ⟨by omega, by omega⟩ ⟨by omega, by omega⟩) rfl).mono ?_
      rintro e w5 ⟨a5, c5, V5, rfl, b5, M5⟩
      have b45 := below_seq b4 b5
      go_wp2_with fail
      refine (c_FringeTurn_yes a N l cc V L F ((d + 1) % 4) ((r + 2) % 4) ((q + 3) % 4) w5 (R1.step b45) HV.out (q3_mk ⟨by omega, by omega⟩ ⟨by omega, by omega⟩ ⟨by omega, by omega⟩) EL.out).mono ?_
      rintro e w6 ⟨a6, c6, V6, rfl, b6, M6⟩
      have he : eqR N N (fun _ => l) (fun _ => l) (tnF (tnF F d r q) 1 2 3) (tnF F ((d + 1) % 4) ((r + 2) % 4) ((q + 3) % 4)) = true := eqR_mk (fun _ _ => rfl) (fun k _ i _ => tn_tn F d r q 1 2 3 _ _ _ (by omega) (by omega) (by omega) k i)
      have C := c_sameRows a5 a6 N N c5 c6 V5 V6 _ _ _ _ w6 (by omega) (by omega) HLl.out HLl.out (M5.rd.step b6) M6.rd
      rw [he] at C
      have CH := Lib.hid C
      clear C he M5 M6 X4 R1
      go_wp2_with (go_at_call 32; refine CH.out.mono ?_; rintro e w' ⟨rfl, m, rfl⟩)
      go_ret
      exact ⟨rfl, below_drewN (below_seq B1 (below_seq b45 b6)) _⟩
    · have ht' : tnOk N L F d r q = false := by simpa using ht
      go_wp2_with fail
      refine (c_FringeTurn_bad (by omega) R1 ht').mono ?_
      rintro e w2 ⟨a2, c2, rfl, b2⟩
      go_wp2_with fail
      refine (c_sFringeTurn_bad (by omega) (R1.step b2) ht').mono ?_
      rintro e w3 ⟨a3, c3, rfl, b3⟩
      have B3 := below_seq (below_seq B1 b2) b3
      clear b2 b3 B1 R1 ht ht'
      go_wp2_with (go_at_call 32; refine (c_sameRows0 _ _ _ _ _).mono ?_; rintro e w' ⟨rfl, m, rfl⟩)
      go_ret
      exact ⟨rfl, by first | exact below_drewN B3 _ | (rw [← World.drewN_drewN]; exact below_drewN (below_drewN B3 _) _)⟩
  · go_enter Try.func19, Try.ntmps19
    go_wp2
    go_ret
    exact ⟨rfl, Below.refl _ _⟩
set_option maxHeartbeats 4000000 in
theorem l_FnFringeTurn (A : Option Addr) (n c : Nat) (f : Nat → Int) (w : World) (h0 : Rd w w.heap.size A n (fun k => .int .u8 (f k))) (hb : ∀ i, 0 ≤ f i ∧ f i ≤ 255) (hnc : n ≤ c) :
    Calls Try.prog 20 #[.slice A n c] w fun e w' => e = .returned (.bool true) ∧ Below w.heap.size w w' := by
  by_cases hn : n ≤ 1048576
  · have h : Code8 w w.heap.size A n f := ⟨h0, hb⟩
    clear h0 hb
    go_enter Try.func20, Try.ntmps20
    go_wp2_with fail
    refine (c_DrawFringeTurn A n c f _ hn hnc h).mono ?_
    rintro e w1 ⟨a, N, cc, V, L, F, d, r, q, rfl, hN, hL, R1, B1, ⟨hd1, hd2⟩, ⟨hr1, hr2⟩, hq1, hq2⟩
    have HL := Lib.hid hL
    clear h hL
    by_cases ht : tnOk N L F d r q = true
    · obtain ⟨hv, hq⟩ := tnOk_true ht
      obtain ⟨⟨n1, n8⟩, ⟨l1, l8⟩, hrow⟩ := fvB_true hv
      have Q := fvB_Q4 hv
      obtain ⟨⟨D1, D2⟩, _⟩ := q3_true hq
      have HV := Lib.hid hv
      have HQ := Lib.hid hq
      have HR := Lib.hid hrow
      have H4 := Lib.hid Q
      obtain ⟨l, el⟩ : ∃ l, L 0 = l := ⟨_, rfl⟩
      have EL := Lib.hid el
      rw [el] at l1 l8
      obtain ⟨m1, m2⟩ := nl_bd n8 l8
      clear el hv hq Q hrow
      have H4' : Hid (Q4 N l F) := Lib.hid (EL.out ▸ H4.out)
      have HLl : Hid (∀ k, k < N → (fun _ : Nat => l) k ≤ 1048576) := Lib.hid fun _ _ => by show l ≤ 1048576; omega
      clear ht
      go_wp2_with fail
      refine (c_FringeTurn_yes a N l cc V L F d r q w1 R1 HV.out HQ.out EL.out).mono ?_
      rintro e w2 ⟨a2, c2, V2, rfl, b2, M2⟩
      go_wp2_with fail
      refine (c_sFringeTurn_yes a N l cc V L F d r q w2 (R1.step b2) HV.out HQ.out EL.out).mono ?_
      rintro e w3 ⟨a3, c3, V3, rfl, b3, M3⟩
      have X3 := M2.rd.step b3
      have he0 : eqR N N (fun _ => l) (fun _ => l) (tnF F d r q) (tnF F d r q) = true := eqR_refl _ _ _
      go_wp2_with fail
      refine (c_sameRows _ _ N N _ _ V2 V3 _ _ (tnF F d r q) (tnF F d r q) _ (by omega) (by omega) HLl.out HLl.out X3 M3.rd).mono ?_
      rintro e w4' ⟨rfl, m4, rfl⟩
      have X4 : RdR (w3.drewN m4) (w3.drewN m4).heap.size a2 N V2 (fun _ => l) (tnF F d r q) := X3.drewN m4
      have b4 := below_drewN (below_seq b2 b3) m4
      clear b2 b3 M2 M3 X3
      generalize w3.drewN m4 = w4 at X4 b4 ⊢
      go_wp2_with (go_at_call 33; refine (c_rest _ _).mono ?_; rintro e w' ⟨rfl, rfl⟩)
      refine (c_FringeTurn_yes a2 N l c2 V2 (fun _ => l) (tnF F d r q) _ _ _ w4 X4 (tn_valid F d r q n1 n8 l1 l8) (q3_mk ⟨by omega, by omega⟩ ⟨by omega, by omega⟩ ⟨by omega, by omega⟩) rfl).mono ?_
      rintro e w5 ⟨a5, c5, V5, rfl, b5, M5⟩
      have X5 : RdR w5 w5.heap.size a5 N V5 (fun _ => l) F := M5.rd.congr fun k hk i hi => by
        rw [tn_tn F d r q _ _ _ 0 0 0 (by omega) (by omega) (by omega) k i]
        exact tn_none (H4'.out k hk i hi) rfl rfl rfl
      have b45 := below_seq b4 b5
      have he : eqR N N (fun _ => l) L F F = true := eqR_mk (fun k hk => by rw [(HR.out k hk).1, EL.out]) (fun k _ i _ => rfl)
      have C := c_sameRows a5 a N N c5 cc V5 V _ L F F w5 (by omega) (by omega) HLl.out (fun k hk => by have := HL.out k hk; omega) X5 (R1.step b45)
      rw [he] at C
      have CH := Lib.hid C
      have CV := Lib.hid (fun m => c_FringeValid a2 N c2 V2 (fun _ => l) (tnF F d r q) (w5.drewN m) (by omega) ((X4.step b5).drewN m))
      have hv2 := tn_valid F d r q n1 n8 l1 l8
      clear C he M5 X4 R1 X5
      go_wp2_with (first | (go_at_call 32; refine CH.out.mono ?_; rintro e w' ⟨rfl, m, rfl⟩) | (go_at_call 29; refine (CV.out m).mono ?_; rintro e w' ⟨rfl, rfl⟩))
      go_ret
      exact ⟨rfl, below_drewN (below_seq B1 b45) _⟩
    · have ht' : tnOk N L F d r q = false := by simpa using ht
      go_wp2_with fail
      refine (c_FringeTurn_bad (by omega) R1 ht').mono ?_
      rintro e w2 ⟨a2, c2, rfl, b2⟩
      go_wp2_with fail
      refine (c_sFringeTurn_bad (by omega) (R1.step b2) ht').mono ?_
      rintro e w3 ⟨a3, c3, rfl, b3⟩
      have B3 := below_seq (below_seq B1 b2) b3
      clear b2 b3 B1 R1 ht ht'
      go_wp2_with (go_at_call 32; refine (c_sameRows0 _ _ _ _ _).mono ?_; rintro e w' ⟨rfl, m, rfl⟩)
      go_ret
      exact ⟨rfl, by first | exact below_drewN B3 _ | (rw [← World.drewN_drewN]; exact below_drewN (below_drewN B3 _) _)⟩
  · go_enter Try.func20, Try.ntmps20
    go_wp2
    go_ret
    exact ⟨rfl, Below.refl _ _⟩
end Go.Proofs.Ytgfmhipfoaobgaa
