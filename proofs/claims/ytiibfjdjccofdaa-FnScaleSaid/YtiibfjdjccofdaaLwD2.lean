/-
  Laws over drawn arrays: factors modulo Side.
-/
import Derived.Test.YtiibfjdjccofdaaLwLib
namespace Go.Proofs.Ytiibfjdjccofdaa
open Go.RowKit Go.Deep

set_option maxHeartbeats 2000000 in
theorem l_FnScale (A : Option Addr) (n c : Nat) (f : Nat → Int) (w : World) (h0 : Rd w w.heap.size A n (fun k => .int .u8 (f k))) (hb : ∀ i, 0 ≤ f i ∧ f i ≤ 255) (hnc : n ≤ c) :
    Calls Try.prog 10 #[.slice A n c] w fun e w' => e = .returned (.bool true) ∧ Below w.heap.size w w' := by
  by_cases hn : n ≤ 1048576
  · go_enter Try.func10, Try.ntmps10
    go_wp2_with fail
    refine (c_DrawTrackScale A n c f _ hn hnc ⟨h0, hb⟩).mono ?_
    rintro e w0 ⟨v, k, rfl, hk0, hk1, ⟨b, m, cc, X, Y, hbb, rfl, h1, h6, hcc, hR⟩, B⟩
    have hA : RdA w0 w0.heap.size (some ⟨b, 0, none⟩) m X Y := hR.rd hR.lt
    clear hR h0 hb hbb
    go_wp2_with fail
    refine (c_TrackScale (some ⟨b, 0, none⟩) m cc X Y k _ (by omega) hcc hA).mono ?_
    rintro e w1 ⟨A1, c1, rfl, b1, M1⟩
    have hA := hA.step b1
    have B := below_seq B b1
    have D := M1.rd
    go_wp2_with fail
    refine (c_sTrackScale (some ⟨b, 0, none⟩) m cc X Y k _ (by omega) hA).mono ?_
    rintro e w2 ⟨A2, c2, rfl, b2, M2⟩
    have hA := hA.step b2
    have D := D.step b2
    have B := below_seq B b2
    have E := M2.rd
    have hl := len16_le (tsOk X Y m k)
    have hqq : (tsOk X Y m k == tsOk X Y m k) = true := by simp
    obtain ⟨ok, hok⟩ : ∃ ok, tsOk X Y m k = ok := ⟨_, rfl⟩
    rw [hok] at D E hl hqq ⊢
    cases ok with
    | true =>
      rw [show len16 true = 16 from rfl] at D E hl ⊢
      go_wp2_with fail
      refine (c_flags_yes _ _ 16 _ _ (trB k X Y m) (trB k X Y m) _ hl D E (fun _ _ => rfl)).mono ?_
      rintro e w3' ⟨rfl, m3, rfl⟩
      have hA := hA.dr m3
      have D := D.dr m3
      have E := E.dr m3
      have B := below_drewN B m3
      generalize w2.drewN m3 = w3 at hA D E B ⊢
      obtain ⟨hv, k1, k2⟩ := tsOk_true hok
      obtain ⟨⟨h2, h7⟩, hXY, -⟩ := avB_true hv
      have HXY := Lib.hid hXY
      clear hXY hok E hqq hl hk0 hk1
      by_cases kb : k + 4 ≤ 100
      · have kb' : k + 4 ≤ 100 := kb
        have C := c_TrackScale (some ⟨b, 0, none⟩) m cc X Y (k + 4) w3 (by omega) hcc hA
        rw [tsOk_mk hv (by omega) (by omega)] at C
        go_wp2_with fail
        refine C.mono ?_
        rintro e w4 ⟨A4, c4, rfl, b4, M4⟩
        have hA := hA.step b4
        have D := D.step b4
        have B := below_seq B b4
        have F := M4.rd
        clear C
        rw [show len16 true = 16 from rfl] at F ⊢
        have C := c_TrackScale (some ⟨b, 0, none⟩) m cc X Y (1) w4 (by omega) hcc hA
        rw [tsOk_mk hv (by omega) (by omega)] at C
        go_wp2_with fail
        refine C.mono ?_
        rintro e w5 ⟨A5, c5, rfl, b5, M5⟩
        have hA := hA.step b5
        have D := D.step b5
        have F := F.step b5
        have B := below_seq B b5
        have H := M5.rd
        clear C
        rw [show len16 true = 16 from rfl] at H ⊢
        have C := c_CoverOf (some ⟨b, 0, none⟩) m cc X Y w5 (by omega) hcc hA
        rw [hv] at C
        go_wp2_with fail
        refine C.mono ?_
        rintro e w6 ⟨A6, c6, rfl, b6, M6⟩
        have hA := hA.step b6
        have D := D.step b6
        have F := F.step b6
        have H := H.step b6
        have B := below_seq B b6
        have I := M6.rd
        clear C
        rw [show len16 true = 16 from rfl] at I ⊢
        have C := c_TrackScale (some ⟨b, 0, none⟩) m cc X Y (4) w6 (by omega) hcc hA
        rw [tsOk_mk hv (by omega) (by omega)] at C
        go_wp2_with fail
        refine C.mono ?_
        rintro e w7 ⟨A7, c7, rfl, b7, M7⟩
        have hA := hA.step b7
        have D := D.step b7
        have F := F.step b7
        have H := H.step b7
        have I := I.step b7
        have B := below_seq B b7
        have J := M7.rd
        clear C
        rw [show len16 true = 16 from rfl] at J ⊢
        go_wp2_with fail
        refine (c_flags_yes _ _ 16 _ _ (trB 1 X Y m) (trB 1 X Y m) _ (by omega) H I (fun _ _ => rfl)).mono ?_
        rintro e w8' ⟨rfl, m8, rfl⟩
        have hA := hA.dr m8
        have D := D.dr m8
        have F := F.dr m8
        have H := H.dr m8
        have I := I.dr m8
        have J := J.dr m8
        have B := below_drewN B m8
        generalize w7.drewN m8 = w8 at hA D F H I J B ⊢
        go_wp2_with fail
        refine (c_flags_yes _ _ 16 _ _ (trB (k + 4) X Y m) (trB k X Y m) _ (by omega) F D (fun c _ => trB_side k X Y m c)).mono ?_
        rintro e w9' ⟨rfl, m9, rfl⟩
        have hA := hA.dr m9
        have D := D.dr m9
        have F := F.dr m9
        have H := H.dr m9
        have I := I.dr m9
        have J := J.dr m9
        have B := below_drewN B m9
        generalize w8.drewN m9 = w9 at hA D F H I J B ⊢
        have CM := c_many_tr A7 c7 4 X Y m w9 J
        rw [cmany_four h2] at CM
        go_wp2_with fail
        refine (CM).mono ?_
        rintro e w10' ⟨rfl, m10, rfl⟩
        have hA := hA.dr m10
        have D := D.dr m10
        have F := F.dr m10
        have H := H.dr m10
        have I := I.dr m10
        have J := J.dr m10
        have B := below_drewN B m10
        generalize w9.drewN m10 = w10 at hA D F H I J B ⊢
        obtain ⟨ad4, rfl, hb4, q4⟩ := J.at_ (k := 0) (by omega)
        have q0 := q4 0 (by omega)
        rw [trB_four h2] at q0
        have q1 := q0
        rw [show ad4.add 0 = ad4 from rfl] at q1
        clear q4
        go_wp2
        go_ret
        exact ⟨rfl, B⟩
      · have kb' : 100 < k + 4 := by omega
        have C := c_TrackScale (some ⟨b, 0, none⟩) m cc X Y (k + 4) w3 (by omega) hcc hA
        rw [tsOk_over (by omega)] at C
        go_wp2_with fail
        refine C.mono ?_
        rintro e w11 ⟨A11, c11, rfl, b11, M11⟩
        have hA := hA.step b11
        have D := D.step b11
        have B := below_seq B b11
        have F := M11.rd
        clear C
        rw [show len16 false = 0 from rfl] at F ⊢
        have C := c_TrackScale (some ⟨b, 0, none⟩) m cc X Y (1) w11 (by omega) hcc hA
        rw [tsOk_mk hv (by omega) (by omega)] at C
        go_wp2_with fail
        refine C.mono ?_
        rintro e w12 ⟨A12, c12, rfl, b12, M12⟩
        have hA := hA.step b12
        have D := D.step b12
        have F := F.step b12
        have B := below_seq B b12
        have H := M12.rd
        clear C
        rw [show len16 true = 16 from rfl] at H ⊢
        have C := c_CoverOf (some ⟨b, 0, none⟩) m cc X Y w12 (by omega) hcc hA
        rw [hv] at C
        go_wp2_with fail
        refine C.mono ?_
        rintro e w13 ⟨A13, c13, rfl, b13, M13⟩
        have hA := hA.step b13
        have D := D.step b13
        have F := F.step b13
        have H := H.step b13
        have B := below_seq B b13
        have I := M13.rd
        clear C
        rw [show len16 true = 16 from rfl] at I ⊢
        have C := c_TrackScale (some ⟨b, 0, none⟩) m cc X Y (4) w13 (by omega) hcc hA
        rw [tsOk_mk hv (by omega) (by omega)] at C
        go_wp2_with fail
        refine C.mono ?_
        rintro e w14 ⟨A14, c14, rfl, b14, M14⟩
        have hA := hA.step b14
        have D := D.step b14
        have F := F.step b14
        have H := H.step b14
        have I := I.step b14
        have B := below_seq B b14
        have J := M14.rd
        clear C
        rw [show len16 true = 16 from rfl] at J ⊢
        go_wp2_with fail
        refine (c_flags_yes _ _ 16 _ _ (trB 1 X Y m) (trB 1 X Y m) _ (by omega) H I (fun _ _ => rfl)).mono ?_
        rintro e w15' ⟨rfl, m15, rfl⟩
        have hA := hA.dr m15
        have D := D.dr m15
        have F := F.dr m15
        have H := H.dr m15
        have I := I.dr m15
        have J := J.dr m15
        have B := below_drewN B m15
        generalize w14.drewN m15 = w15 at hA D F H I J B ⊢
        have CM := c_many_tr A14 c14 4 X Y m w15 J
        rw [cmany_four h2] at CM
        go_wp2_with fail
        refine (CM).mono ?_
        rintro e w16' ⟨rfl, m16, rfl⟩
        have hA := hA.dr m16
        have D := D.dr m16
        have F := F.dr m16
        have H := H.dr m16
        have I := I.dr m16
        have J := J.dr m16
        have B := below_drewN B m16
        generalize w15.drewN m16 = w16 at hA D F H I J B ⊢
        obtain ⟨ad4, rfl, hb4, q4⟩ := J.at_ (k := 0) (by omega)
        have q0 := q4 0 (by omega)
        rw [trB_four h2] at q0
        have q1 := q0
        rw [show ad4.add 0 = ad4 from rfl] at q1
        clear q4
        go_wp2
        go_ret
        exact ⟨rfl, B⟩
    | false =>
      rw [show len16 false = 0 from rfl] at D E hl ⊢
      go_wp2_with fail
      refine (c_flags_yes _ _ 0 _ _ (trB k X Y m) (trB k X Y m) _ hl D E (fun _ _ => rfl)).mono ?_
      rintro e w17' ⟨rfl, m17, rfl⟩
      have D := D.dr m17
      have E := E.dr m17
      have B := below_drewN B m17
      generalize w2.drewN m17 = w17 at D E B ⊢
      go_wp2_with fail
      refine (c_flags_yes _ _ 0 _ _ (trB k X Y m) (trB k X Y m) _ hl D E (fun _ _ => rfl)).mono ?_
      rintro e w18' ⟨rfl, m18, rfl⟩
      have D := D.dr m18
      have E := E.dr m18
      have B := below_drewN B m18
      generalize w17.drewN m18 = w18 at D E B ⊢
      go_wp2
      go_ret
      exact ⟨rfl, B⟩
  · go_enter Try.func10, Try.ntmps10
    go_wp2
    go_ret
    exact ⟨rfl, Below.refl _ _⟩
end Go.Proofs.Ytiibfjdjccofdaa
