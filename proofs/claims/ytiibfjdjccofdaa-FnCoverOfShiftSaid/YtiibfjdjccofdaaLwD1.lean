/-
  Laws over drawn arrays: opposite factors, turned coverages, shifted arrays.
-/
import Derived.Test.YtiibfjdjccofdaaLwLib
namespace Go.Proofs.Ytiibfjdjccofdaa
open Go.RowKit Go.Deep

set_option maxHeartbeats 2000000 in
theorem l_FnScaleOpposite (A : Option Addr) (n c : Nat) (f : Nat → Int) (w : World) (h0 : Rd w w.heap.size A n (fun k => .int .u8 (f k))) (hb : ∀ i, 0 ≤ f i ∧ f i ≤ 255) (hnc : n ≤ c) :
    Calls Try.prog 9 #[.slice A n c] w fun e w' => e = .returned (.bool true) ∧ Below w.heap.size w w' := by
  by_cases hn : n ≤ 1048576
  · go_enter Try.func9, Try.ntmps9
    go_wp2_with fail
    refine (c_DrawTrackScale A n c f _ hn hnc ⟨h0, hb⟩).mono ?_
    rintro e w0 ⟨v, k, rfl, hk0, hk1, ⟨b, m, cc, X, Y, hbb, rfl, h1, h6, hcc, hR⟩, B⟩
    have hA : RdA w0 w0.heap.size (some ⟨b, 0, none⟩) m X Y := hR.rd hR.lt
    clear hR h0 hb hbb
    go_wp2_with fail
    refine (c_TrackScale (some ⟨b, 0, none⟩) m cc X Y k _ (by omega) hcc hA).mono ?_
    rintro e w1 ⟨A1, c1, rfl, b1, M1⟩
    have hA := hA.step b1
    have B := below_seq B b1
    have D := M1.rd
    go_wp2_with fail
    refine (c_sTrackScale (some ⟨b, 0, none⟩) m cc X Y k _ (by omega) hA).mono ?_
    rintro e w2 ⟨A2, c2, rfl, b2, M2⟩
    have hA := hA.step b2
    have D := D.step b2
    have B := below_seq B b2
    have E := M2.rd
    have hl := len16_le (tsOk X Y m k)
    have hqq : (tsOk X Y m k == tsOk X Y m k) = true := by simp
    obtain ⟨ok, hok⟩ : ∃ ok, tsOk X Y m k = ok := ⟨_, rfl⟩
    rw [hok] at D E hl hqq ⊢
    cases ok with
    | true =>
      rw [show len16 true = 16 from rfl] at D E hl ⊢
      go_wp2_with fail
      refine (c_flags_yes _ _ 16 _ _ (trB k X Y m) (trB k X Y m) _ hl D E (fun _ _ => rfl)).mono ?_
      rintro e w3' ⟨rfl, m3, rfl⟩
      have hA := hA.dr m3
      have D := D.dr m3
      have E := E.dr m3
      have B := below_drewN B m3
      generalize w2.drewN m3 = w3 at hA D E B ⊢
      obtain ⟨hv, k1, k2⟩ := tsOk_true hok
      obtain ⟨⟨h2, h7⟩, hXY, -⟩ := avB_true hv
      have HXY := Lib.hid hXY
      clear hXY hok E hqq hl hk0 hk1
      by_cases k4 : 4 ≤ k
      · have hk4 : (4 : Int) ≤ k := k4
        go_wp2_with fail
        refine (c_valid_tr _ _ k X Y m _ D).mono ?_
        rintro e w4' ⟨rfl, m4, rfl⟩
        have hA := hA.dr m4
        have D := D.dr m4
        have B := below_drewN B m4
        generalize w3.drewN m4 = w4 at hA D B ⊢
        go_wp2
        go_ret
        exact ⟨rfl, B⟩
      · have hk4 : k < 4 := by omega
        have w4' : IntKind.i64.wrap (4 - k) = 4 - k := IntWalk.i64_in _ (by omega)
        have C := c_TrackScale (some ⟨b, 0, none⟩) m cc X Y (4 - k) w3 (by omega) hcc hA
        rw [tsOk_mk hv (by omega) (by omega)] at C
        go_wp2_with fail
        refine C.mono ?_
        rintro e w5 ⟨A5, c5, rfl, b5, M5⟩
        have hA := hA.step b5
        have D := D.step b5
        have B := below_seq B b5
        have F := M5.rd
        clear C
        rw [show len16 true = 16 from rfl] at F ⊢
        go_wp2_with fail
        refine (c_flags_yes _ _ 16 _ _ (trB (4 - k) X Y m) (trB k X Y m) _ (by omega) F D (fun c _ => trB_neg k X Y m c)).mono ?_
        rintro e w6' ⟨rfl, m6, rfl⟩
        have hA := hA.dr m6
        have D := D.dr m6
        have F := F.dr m6
        have B := below_drewN B m6
        generalize w5.drewN m6 = w6 at hA D F B ⊢
        go_wp2
        go_ret
        exact ⟨rfl, B⟩
    | false =>
      rw [show len16 false = 0 from rfl] at D E hl ⊢
      go_wp2_with fail
      refine (c_flags_yes _ _ 0 _ _ (trB k X Y m) (trB k X Y m) _ hl D E (fun _ _ => rfl)).mono ?_
      rintro e w7' ⟨rfl, m7, rfl⟩
      have D := D.dr m7
      have E := E.dr m7
      have B := below_drewN B m7
      generalize w2.drewN m7 = w7 at D E B ⊢
      go_wp2_with fail
      refine (c_flags_yes _ _ 0 _ _ (trB k X Y m) (trB k X Y m) _ hl D E (fun _ _ => rfl)).mono ?_
      rintro e w8' ⟨rfl, m8, rfl⟩
      have D := D.dr m8
      have E := E.dr m8
      have B := below_drewN B m8
      generalize w7.drewN m8 = w8 at D E B ⊢
      go_wp2
      go_ret
      exact ⟨rfl, B⟩
  · go_enter Try.func9, Try.ntmps9
    go_wp2
    go_ret
    exact ⟨rfl, Below.refl _ _⟩
set_option maxHeartbeats 2000000 in
theorem l_FnCoverOfTurn (A : Option Addr) (n c : Nat) (f : Nat → Int) (w : World) (h0 : Rd w w.heap.size A n (fun k => .int .u8 (f k))) (hb : ∀ i, 0 ≤ f i ∧ f i ≤ 255) (hnc : n ≤ c) :
    Calls Try.prog 13 #[.slice A n c] w fun e w' => e = .returned (.bool true) ∧ Below w.heap.size w w' := by
  by_cases hn : n ≤ 1048576
  · go_enter Try.func13, Try.ntmps13
    go_wp2_with fail
    refine (c_DrawCoverOf A n c f _ hn hnc ⟨h0, hb⟩).mono ?_
    rintro e w0 ⟨v, rfl, ⟨b, m, cc, X, Y, hbb, rfl, h1, h6, hcc, hR⟩, B⟩
    have hA : RdA w0 w0.heap.size (some ⟨b, 0, none⟩) m X Y := hR.rd hR.lt
    clear hR h0 hb hbb
    go_wp2_with fail
    refine (c_CoverOf (some ⟨b, 0, none⟩) m cc X Y _ (by omega) hcc hA).mono ?_
    rintro e w1 ⟨A1, c1, rfl, b1, M1⟩
    have hA := hA.step b1
    have B := below_seq B b1
    have D := M1.rd
    go_wp2_with fail
    refine (c_sCoverOf (some ⟨b, 0, none⟩) m cc X Y _ (by omega) hA).mono ?_
    rintro e w2 ⟨A2, c2, rfl, b2, M2⟩
    have hA := hA.step b2
    have D := D.step b2
    have B := below_seq B b2
    have E := M2.rd
    have hl := len16_le (avB X Y m)
    have hqq : (avB X Y m == avB X Y m) = true := by simp
    obtain ⟨ok, hok⟩ : ∃ ok, avB X Y m = ok := ⟨_, rfl⟩
    rw [hok] at D E hl hqq ⊢
    cases ok with
    | true =>
      rw [show len16 true = 16 from rfl] at D E hl ⊢
      go_wp2_with fail
      refine (c_flags_yes _ _ 16 _ _ (trB 1 X Y m) (trB 1 X Y m) _ hl D E (fun _ _ => rfl)).mono ?_
      rintro e w3' ⟨rfl, m3, rfl⟩
      have hA := hA.dr m3
      have D := D.dr m3
      have E := E.dr m3
      have B := below_drewN B m3
      generalize w2.drewN m3 = w3 at hA D E B ⊢
      have hv := hok
      obtain ⟨⟨h2, h7⟩, hXY, -⟩ := avB_true hv
      have HXY := Lib.hid hXY
      clear hXY hok E hqq hl
      go_wp2_with fail
      refine (c_ArrayTurn ⟨b, 0, none⟩ m cc X Y 1 _ hcc hv (by omega) hA).mono ?_
      rintro e w4 ⟨A4, c4, rfl, hc9, b4, M4⟩
      have hA := hA.step b4
      have D := D.step b4
      have B := below_seq B b4
      have F := M4.rd
      have C := c_CoverOf A4 m c4 (tnX X Y 1).1 (tnX X Y 1).2 w4 (by omega) hc9 F
      rw [av_tn hv 1] at C
      go_wp2_with fail
      refine C.mono ?_
      rintro e w5 ⟨A5, c5, rfl, b5, M5⟩
      have hA := hA.step b5
      have D := D.step b5
      have F := F.step b5
      have B := below_seq B b5
      have H := M5.rd
      clear C
      rw [show len16 true = 16 from rfl] at H ⊢
      have C := c_CoverTurn _ 16 c1 (trB 1 X Y m) w5 (by omega) D
      rw [cv_tr] at C
      go_wp2_with fail
      refine C.mono ?_
      rintro e w6 ⟨A6, c6, rfl, b6, M6⟩
      have hA := hA.step b6
      have D := D.step b6
      have F := F.step b6
      have H := H.step b6
      have B := below_seq B b6
      have I := M6.rd
      clear C
      rw [show len16 true = 16 from rfl] at I ⊢
      go_wp2_with fail
      refine (c_flags_yes _ _ 16 _ _ (trB 1 (tnX X Y 1).1 (tnX X Y 1).2 m) (fun c => trB 1 X Y m (tornN c)) _ (by omega) H I (fun c hc => trB_turn 1 X Y m hc)).mono ?_
      rintro e w7' ⟨rfl, m7, rfl⟩
      have hA := hA.dr m7
      have D := D.dr m7
      have F := F.dr m7
      have H := H.dr m7
      have I := I.dr m7
      have B := below_drewN B m7
      generalize w6.drewN m7 = w7 at hA D F H I B ⊢
      go_wp2
      go_ret
      exact ⟨rfl, B⟩
    | false =>
      rw [show len16 false = 0 from rfl] at D E hl ⊢
      go_wp2_with fail
      refine (c_flags_yes _ _ 0 _ _ (trB 1 X Y m) (trB 1 X Y m) _ hl D E (fun _ _ => rfl)).mono ?_
      rintro e w8' ⟨rfl, m8, rfl⟩
      have D := D.dr m8
      have E := E.dr m8
      have B := below_drewN B m8
      generalize w2.drewN m8 = w8 at D E B ⊢
      go_wp2_with fail
      refine (c_flags_yes _ _ 0 _ _ (trB 1 X Y m) (trB 1 X Y m) _ hl D E (fun _ _ => rfl)).mono ?_
      rintro e w9' ⟨rfl, m9, rfl⟩
      have D := D.dr m9
      have E := E.dr m9
      have B := below_drewN B m9
      generalize w8.drewN m9 = w9 at D E B ⊢
      go_wp2
      go_ret
      exact ⟨rfl, B⟩
  · go_enter Try.func13, Try.ntmps13
    go_wp2
    go_ret
    exact ⟨rfl, Below.refl _ _⟩
set_option maxHeartbeats 2000000 in
theorem l_FnCoverOfShift (A : Option Addr) (n c : Nat) (f : Nat → Int) (w : World) (h0 : Rd w w.heap.size A n (fun k => .int .u8 (f k))) (hb : ∀ i, 0 ≤ f i ∧ f i ≤ 255) (hnc : n ≤ c) :
    Calls Try.prog 11 #[.slice A n c] w fun e w' => e = .returned (.bool true) ∧ Below w.heap.size w w' := by
  by_cases hn : n ≤ 1048576
  · go_enter Try.func11, Try.ntmps11
    go_wp2_with fail
    refine (c_DrawCoverOf A n c f _ hn hnc ⟨h0, hb⟩).mono ?_
    rintro e w0 ⟨v, rfl, ⟨b, m, cc, X, Y, hbb, rfl, h1, h6, hcc, hR⟩, B⟩
    have hA : RdA w0 w0.heap.size (some ⟨b, 0, none⟩) m X Y := hR.rd hR.lt
    clear hR h0 hb hbb
    go_wp2_with fail
    refine (c_CoverOf (some ⟨b, 0, none⟩) m cc X Y _ (by omega) hcc hA).mono ?_
    rintro e w1 ⟨A1, c1, rfl, b1, M1⟩
    have hA := hA.step b1
    have B := below_seq B b1
    have D := M1.rd
    go_wp2_with fail
    refine (c_sCoverOf (some ⟨b, 0, none⟩) m cc X Y _ (by omega) hA).mono ?_
    rintro e w2 ⟨A2, c2, rfl, b2, M2⟩
    have hA := hA.step b2
    have D := D.step b2
    have B := below_seq B b2
    have E := M2.rd
    have hl := len16_le (avB X Y m)
    have hqq : (avB X Y m == avB X Y m) = true := by simp
    obtain ⟨ok, hok⟩ : ∃ ok, avB X Y m = ok := ⟨_, rfl⟩
    rw [hok] at D E hl hqq ⊢
    cases ok with
    | true =>
      rw [show len16 true = 16 from rfl] at D E hl ⊢
      go_wp2_with fail
      refine (c_flags_yes _ _ 16 _ _ (trB 1 X Y m) (trB 1 X Y m) _ hl D E (fun _ _ => rfl)).mono ?_
      rintro e w3' ⟨rfl, m3, rfl⟩
      have hA := hA.dr m3
      have D := D.dr m3
      have E := E.dr m3
      have B := below_drewN B m3
      generalize w2.drewN m3 = w3 at hA D E B ⊢
      have hv := hok
      obtain ⟨⟨h2, h7⟩, hXY, -⟩ := avB_true hv
      have HXY := Lib.hid hXY
      clear hXY hok E hqq hl
      obtain ⟨ok2, hok2⟩ : ∃ ok2, avB (fun i => X i + 1) (fun i => Y i + 3) m = ok2 := ⟨_, rfl⟩
      have C := c_ArrayShift ⟨b, 0, none⟩ m cc X Y 1 3 w3 hcc hv (by omega) (by omega) hA
      rw [hok2] at C
      go_wp2_with fail
      refine C.mono ?_
      rintro e w4 ⟨A4, c4, rfl, hc9, b4, M4⟩
      have hA := hA.step b4
      have D := D.step b4
      have B := below_seq B b4
      have F := M4.rd
      clear C
      cases ok2 with
      | true =>
        rw [show lenIf true m = m from rfl] at F hc9 ⊢
        have C := c_CoverOf A4 m c4 (fun i => X i + 1) (fun i => Y i + 3) w4 (by omega) hc9 F
        rw [hok2] at C
        go_wp2_with fail
        refine C.mono ?_
        rintro e w5 ⟨A5, c5, rfl, b5, M5⟩
        have hA := hA.step b5
        have D := D.step b5
        have F := F.step b5
        have B := below_seq B b5
        have H := M5.rd
        clear C
        rw [show len16 true = 16 from rfl] at H ⊢
        go_wp2_with fail
        refine (c_ArrayTurn ⟨b, 0, none⟩ m cc X Y 2 _ hcc hv (by omega) hA).mono ?_
        rintro e w6 ⟨A6, c6, rfl, hc8, b6, M6⟩
        have hA := hA.step b6
        have D := D.step b6
        have F := F.step b6
        have H := H.step b6
        have B := below_seq B b6
        have I := M6.rd
        have C := c_CoverOf A6 m c6 (tnX X Y 2).1 (tnX X Y 2).2 w6 (by omega) hc8 I
        rw [av_tn hv 2] at C
        go_wp2_with fail
        refine C.mono ?_
        rintro e w7 ⟨A7, c7, rfl, b7, M7⟩
        have hA := hA.step b7
        have D := D.step b7
        have F := F.step b7
        have H := H.step b7
        have I := I.step b7
        have B := below_seq B b7
        have J := M7.rd
        clear C
        rw [show len16 true = 16 from rfl] at J ⊢
        go_wp2_with fail
        refine (c_flags_yes _ _ 16 _ _ (trB 1 (tnX X Y 2).1 (tnX X Y 2).2 m) (trB 1 X Y m) _ (by omega) J D (fun c _ => trB_turn2 1 X Y m c)).mono ?_
        rintro e w8' ⟨rfl, m8, rfl⟩
        have hA := hA.dr m8
        have D := D.dr m8
        have F := F.dr m8
        have H := H.dr m8
        have I := I.dr m8
        have J := J.dr m8
        have B := below_drewN B m8
        generalize w7.drewN m8 = w8 at hA D F H I J B ⊢
        go_wp2_with fail
        refine (c_flags_yes _ _ 16 _ _ (trB 1 (fun i => X i + 1) (fun i => Y i + 3) m) (trB 1 X Y m) _ (by omega) H D (fun c _ => trB_shift 1 1 3 X Y m c)).mono ?_
        rintro e w9' ⟨rfl, m9, rfl⟩
        have hA := hA.dr m9
        have D := D.dr m9
        have F := F.dr m9
        have H := H.dr m9
        have I := I.dr m9
        have J := J.dr m9
        have B := below_drewN B m9
        generalize w8.drewN m9 = w9 at hA D F H I J B ⊢
        go_wp2
        go_ret
        exact ⟨rfl, B⟩
      | false =>
        rw [show lenIf false m = 0 from rfl] at F hc9 ⊢
        have C := c_CoverOf A4 0 c4 (fun i => X i + 1) (fun i => Y i + 3) w4 (by omega) hc9 F
        rw [avB_len (n := 0) (.inl (by omega))] at C
        go_wp2_with fail
        refine C.mono ?_
        rintro e w10 ⟨A10, c10, rfl, b10, M10⟩
        have hA := hA.step b10
        have D := D.step b10
        have F := F.step b10
        have B := below_seq B b10
        have H := M10.rd
        clear C
        rw [show len16 false = 0 from rfl] at H ⊢
        go_wp2_with fail
        refine (c_ArrayTurn ⟨b, 0, none⟩ m cc X Y 2 _ hcc hv (by omega) hA).mono ?_
        rintro e w11 ⟨A11, c11, rfl, hc8, b11, M11⟩
        have hA := hA.step b11
        have D := D.step b11
        have F := F.step b11
        have H := H.step b11
        have B := below_seq B b11
        have I := M11.rd
        have C := c_CoverOf A11 m c11 (tnX X Y 2).1 (tnX X Y 2).2 w11 (by omega) hc8 I
        rw [av_tn hv 2] at C
        go_wp2_with fail
        refine C.mono ?_
        rintro e w12 ⟨A12, c12, rfl, b12, M12⟩
        have hA := hA.step b12
        have D := D.step b12
        have F := F.step b12
        have H := H.step b12
        have I := I.step b12
        have B := below_seq B b12
        have J := M12.rd
        clear C
        rw [show len16 true = 16 from rfl] at J ⊢
        go_wp2_with fail
        refine (c_flags_yes _ _ 16 _ _ (trB 1 (tnX X Y 2).1 (tnX X Y 2).2 m) (trB 1 X Y m) _ (by omega) J D (fun c _ => trB_turn2 1 X Y m c)).mono ?_
        rintro e w13' ⟨rfl, m13, rfl⟩
        have hA := hA.dr m13
        have D := D.dr m13
        have F := F.dr m13
        have H := H.dr m13
        have I := I.dr m13
        have J := J.dr m13
        have B := below_drewN B m13
        generalize w12.drewN m13 = w13 at hA D F H I J B ⊢
        go_wp2
        go_ret
        exact ⟨rfl, B⟩
    | false =>
      rw [show len16 false = 0 from rfl] at D E hl ⊢
      go_wp2_with fail
      refine (c_flags_yes _ _ 0 _ _ (trB 1 X Y m) (trB 1 X Y m) _ hl D E (fun _ _ => rfl)).mono ?_
      rintro e w14' ⟨rfl, m14, rfl⟩
      have D := D.dr m14
      have E := E.dr m14
      have B := below_drewN B m14
      generalize w2.drewN m14 = w14 at D E B ⊢
      go_wp2_with fail
      refine (c_flags_yes _ _ 0 _ _ (trB 1 X Y m) (trB 1 X Y m) _ hl D E (fun _ _ => rfl)).mono ?_
      rintro e w15' ⟨rfl, m15, rfl⟩
      have D := D.dr m15
      have E := E.dr m15
      have B := below_drewN B m15
      generalize w14.drewN m15 = w15 at D E B ⊢
      go_wp2
      go_ret
      exact ⟨rfl, B⟩
  · go_enter Try.func11, Try.ntmps11
    go_wp2
    go_ret
    exact ⟨rfl, Below.refl _ _⟩
end Go.Proofs.Ytiibfjdjccofdaa
