/-
  Laws over drawn arrays: tracks.
-/
import Derived.Test.YtpabcpiiolfakaaDrawE
namespace Go.Proofs.Ytpabcpiiolfakaa
open Go.RowKit Go.Deep

set_option maxHeartbeats 2000000 in
theorem l_FnTrack (A : Option Addr) (n c : Nat) (f : Nat → Int) (A' : Option Addr) (n' c' : Nat) (f' : Nat → Int) (w : World) (h0 : Rd w w.heap.size A n (fun k => .int .u8 (f k))) (hb : ∀ i, 0 ≤ f i ∧ f i ≤ 255) (hnc : n ≤ c) (_h0' : Rd w w.heap.size A' n' (fun k => .int .u8 (f' k))) (_hb' : ∀ i, 0 ≤ f' i ∧ f' i ≤ 255) (_hnc' : n' ≤ c') :
    Calls Try.prog 4 #[.slice A n c, .slice A' n' c'] w fun e w' => e = .returned (.bool true) ∧ Below w.heap.size w w' := by
  clear _h0' _hb' _hnc'
  by_cases hn' : n' ≤ 1048576
  case neg =>
    by_cases hn : n ≤ 1048576
    all_goals
      go_enter Try.func4, Try.ntmps4
      go_wp2
      go_ret
      exact ⟨rfl, Below.refl _ _⟩
  by_cases hn : n ≤ 1048576
  · go_enter Try.func4, Try.ntmps4
    go_wp2_with fail
    refine (c_DrawTrackCover A n c f _ hn hnc ⟨h0, hb⟩).mono ?_
    rintro e w0 ⟨v, rfl, ⟨b, m, cc, X, Y, hbb, rfl, h1, h6, hcc, hR⟩, B⟩
    have hA : RdA w0 w0.heap.size (some ⟨b, 0, none⟩) m X Y := hR.rd hR.lt
    clear hR h0 hb hbb
    go_wp2_with fail
    refine (c_TrackCover (some ⟨b, 0, none⟩) m cc X Y _ (by omega) hcc hA).mono ?_
    rintro e w1 ⟨A1, c1, rfl, b1, M1⟩
    have hA := hA.step b1
    have B := below_seq B b1
    have D := M1.rd
    go_wp2_with fail
    refine (c_sTrackCover (some ⟨b, 0, none⟩) m cc X Y _ (by omega) hA).mono ?_
    rintro e w2 ⟨A2, c2, rfl, b2, M2⟩
    have hA := hA.step b2
    have D := D.step b2
    have B := below_seq B b2
    have E := M2.rd
    have hl := len16_le (avB X Y m)
    have hqq : (avB X Y m == avB X Y m) = true := by simp
    obtain ⟨ok, hok⟩ : ∃ ok, avB X Y m = ok := ⟨_, rfl⟩
    rw [hok] at D E hl hqq ⊢
    cases ok with
    | true =>
      rw [show len16 true = 16 from rfl] at D E hl ⊢
      go_wp2_with fail
      refine (c_flags_yes _ _ 16 _ _ (kvB X Y m) (kvB X Y m) _ hl D E (fun _ _ => rfl)).mono ?_
      rintro e w3' ⟨rfl, m3, rfl⟩
      have hA := hA.dr m3
      have D := D.dr m3
      have E := E.dr m3
      have B := below_drewN B m3
      generalize w2.drewN m3 = w3 at hA D E B ⊢
      have hv := hok
      obtain ⟨⟨h2, h7⟩, hXY, -⟩ := avB_true hv
      have HXY := Lib.hid hXY
      clear hXY hok E hqq hl
      obtain ⟨K, EK, hK⟩ : ∃ K : Nat, (n' : Int) % 4 = (K : Int) ∧ K ≤ 3 := ⟨n' % 4, by omega, by omega⟩
      go_wp2_with fail
      refine (c_turn_sym A1 c1 (kvB X Y m) w3 (SymB.kv X Y m) D).mono ?_
      rintro e w4 ⟨A4, c4, rfl, b4, M4⟩
      have hA := hA.step b4
      have D := D.step b4
      have B := below_seq B b4
      have F := M4.rd
      have C := c_CoverOf (some ⟨b, 0, none⟩) m cc X Y w4 (by omega) hcc hA
      rw [hv] at C
      go_wp2_with fail
      refine C.mono ?_
      rintro e w5 ⟨A5, c5, rfl, b5, M5⟩
      have hA := hA.step b5
      have D := D.step b5
      have F := F.step b5
      have B := below_seq B b5
      have H := M5.rd
      clear C
      rw [show len16 true = 16 from rfl] at H ⊢
      go_wp2_with fail
      refine (c_join_sym A1 A5 c1 c5 (kvB X Y m) (trB 1 X Y m) w5 (SymB.kv X Y m) (SymB.tr 1 X Y m) D H).mono ?_
      rintro e w6 ⟨A6, c6, rfl, b6, M6⟩
      have hA := hA.step b6
      have D := D.step b6
      have F := F.step b6
      have H := H.step b6
      have B := below_seq B b6
      have I := M6.rd
      go_wp2_with fail
      refine (c_ArrayTurn ⟨b, 0, none⟩ m cc X Y K _ hcc hv hK hA).mono ?_
      rintro e w7 ⟨A7, c7, rfl, hc9, b7, M7⟩
      have hA := hA.step b7
      have D := D.step b7
      have F := F.step b7
      have H := H.step b7
      have I := I.step b7
      have B := below_seq B b7
      have J := M7.rd
      have C := c_TrackCover A7 m c7 (tnX X Y K).1 (tnX X Y K).2 w7 (by omega) hc9 J
      rw [av_tn hv K] at C
      go_wp2_with fail
      refine (C).mono ?_
      rintro e w8 ⟨A8, c8, rfl, b8, M8⟩
      have hA := hA.step b8
      have D := D.step b8
      have F := F.step b8
      have H := H.step b8
      have I := I.step b8
      have J := J.step b8
      have B := below_seq B b8
      have Z := M8.rd
      clear C
      rw [show len16 true = 16 from rfl] at Z ⊢
      go_wp2_with fail
      refine (c_flags_yes _ _ 16 _ _ (fun c => kvB X Y m (tornN c)) (kvB X Y m) _ (by omega) F D (fun c hc => kvB_torn X Y m hc)).mono ?_
      rintro e w9' ⟨rfl, m9, rfl⟩
      have hA := hA.dr m9
      have D := D.dr m9
      have F := F.dr m9
      have H := H.dr m9
      have I := I.dr m9
      have J := J.dr m9
      have Z := Z.dr m9
      have B := below_drewN B m9
      generalize w8.drewN m9 = w9 at hA D F H I J Z B ⊢
      go_wp2_with fail
      refine (c_flags_yes _ _ 16 _ _ (fun c => kvB X Y m c || trB 1 X Y m c) (kvB X Y m) _ (by omega) I D (fun c _ => kv_tr X Y m c)).mono ?_
      rintro e w10' ⟨rfl, m10, rfl⟩
      have hA := hA.dr m10
      have D := D.dr m10
      have F := F.dr m10
      have H := H.dr m10
      have I := I.dr m10
      have J := J.dr m10
      have Z := Z.dr m10
      have B := below_drewN B m10
      generalize w9.drewN m10 = w10 at hA D F H I J Z B ⊢
      go_wp2_with fail
      refine (c_flags_yes _ _ 16 _ _ (kvB (tnX X Y K).1 (tnX X Y K).2 m) (kvB X Y m) _ (by omega) Z D (fun c hc => kvB_tn X Y m K hc)).mono ?_
      rintro e w11' ⟨rfl, m11, rfl⟩
      have hA := hA.dr m11
      have D := D.dr m11
      have F := F.dr m11
      have H := H.dr m11
      have I := I.dr m11
      have J := J.dr m11
      have Z := Z.dr m11
      have B := below_drewN B m11
      generalize w10.drewN m11 = w11 at hA D F H I J Z B ⊢
      go_wp2
      go_ret
      exact ⟨rfl, B⟩
    | false =>
      rw [show len16 false = 0 from rfl] at D E hl ⊢
      go_wp2_with fail
      refine (c_flags_yes _ _ 0 _ _ (kvB X Y m) (kvB X Y m) _ hl D E (fun _ _ => rfl)).mono ?_
      rintro e w12' ⟨rfl, m12, rfl⟩
      have D := D.dr m12
      have E := E.dr m12
      have B := below_drewN B m12
      generalize w2.drewN m12 = w12 at D E B ⊢
      go_wp2_with fail
      refine (c_flags_yes _ _ 0 _ _ (kvB X Y m) (kvB X Y m) _ hl D E (fun _ _ => rfl)).mono ?_
      rintro e w13' ⟨rfl, m13, rfl⟩
      have D := D.dr m13
      have E := E.dr m13
      have B := below_drewN B m13
      generalize w12.drewN m13 = w13 at D E B ⊢
      go_wp2
      go_ret
      exact ⟨rfl, B⟩
  · go_enter Try.func4, Try.ntmps4
    go_wp2
    go_ret
    exact ⟨rfl, Below.refl _ _⟩
set_option maxHeartbeats 2000000 in
theorem l_FnTrackShift (A : Option Addr) (n c : Nat) (f : Nat → Int) (w : World) (h0 : Rd w w.heap.size A n (fun k => .int .u8 (f k))) (hb : ∀ i, 0 ≤ f i ∧ f i ≤ 255) (hnc : n ≤ c) :
    Calls Try.prog 5 #[.slice A n c] w fun e w' => e = .returned (.bool true) ∧ Below w.heap.size w w' := by
  by_cases hn : n ≤ 1048576
  · go_enter Try.func5, Try.ntmps5
    go_wp2_with fail
    refine (c_DrawTrackCover A n c f _ hn hnc ⟨h0, hb⟩).mono ?_
    rintro e w0 ⟨v, rfl, ⟨b, m, cc, X, Y, hbb, rfl, h1, h6, hcc, hR⟩, B⟩
    have hA : RdA w0 w0.heap.size (some ⟨b, 0, none⟩) m X Y := hR.rd hR.lt
    clear hR h0 hb hbb
    go_wp2_with fail
    refine (c_TrackCover (some ⟨b, 0, none⟩) m cc X Y _ (by omega) hcc hA).mono ?_
    rintro e w1 ⟨A1, c1, rfl, b1, M1⟩
    have hA := hA.step b1
    have B := below_seq B b1
    have D := M1.rd
    go_wp2_with fail
    refine (c_sTrackCover (some ⟨b, 0, none⟩) m cc X Y _ (by omega) hA).mono ?_
    rintro e w2 ⟨A2, c2, rfl, b2, M2⟩
    have hA := hA.step b2
    have D := D.step b2
    have B := below_seq B b2
    have E := M2.rd
    have hl := len16_le (avB X Y m)
    have hqq : (avB X Y m == avB X Y m) = true := by simp
    obtain ⟨ok, hok⟩ : ∃ ok, avB X Y m = ok := ⟨_, rfl⟩
    rw [hok] at D E hl hqq ⊢
    cases ok with
    | true =>
      rw [show len16 true = 16 from rfl] at D E hl ⊢
      go_wp2_with fail
      refine (c_flags_yes _ _ 16 _ _ (kvB X Y m) (kvB X Y m) _ hl D E (fun _ _ => rfl)).mono ?_
      rintro e w3' ⟨rfl, m3, rfl⟩
      have hA := hA.dr m3
      have D := D.dr m3
      have E := E.dr m3
      have B := below_drewN B m3
      generalize w2.drewN m3 = w3 at hA D E B ⊢
      have hv := hok
      obtain ⟨⟨h2, h7⟩, hXY, -⟩ := avB_true hv
      have HXY := Lib.hid hXY
      clear hXY hok E hqq hl
      obtain ⟨ok2, hok2⟩ : ∃ ok2, avB (fun i => X i + 1) (fun i => Y i + 1) m = ok2 := ⟨_, rfl⟩
      have C := c_ArrayShift ⟨b, 0, none⟩ m cc X Y 1 1 w3 hcc hv (by omega) (by omega) hA
      rw [hok2] at C
      go_wp2_with fail
      refine C.mono ?_
      rintro e w4 ⟨A4, c4, rfl, hc9, b4, M4⟩
      have hA := hA.step b4
      have D := D.step b4
      have B := below_seq B b4
      have F := M4.rd
      clear C
      have hcm := cmany_kv_pos X Y h2
      have hcb := cmany_bd (kvB X Y m)
      cases ok2 with
      | true =>
        rw [show lenIf true m = m from rfl] at F hc9 ⊢
        have C := c_TrackCover A4 m c4 (fun i => X i + 1) (fun i => Y i + 1) w4 (by omega) hc9 F
        rw [hok2] at C
        go_wp2_with fail
        refine (C).mono ?_
        rintro e w5 ⟨A5, c5, rfl, b5, M5⟩
        have hA := hA.step b5
        have D := D.step b5
        have F := F.step b5
        have B := below_seq B b5
        have H := M5.rd
        clear C
        rw [show len16 true = 16 from rfl] at H ⊢
        go_wp2_with fail
        refine (c_flags_yes _ _ 16 _ _ (kvB (fun i => X i + 1) (fun i => Y i + 1) m) (kvB X Y m) _ (by omega) H D (fun c _ => kvB_shift 1 1 X Y m c)).mono ?_
        rintro e w6' ⟨rfl, m6, rfl⟩
        have hA := hA.dr m6
        have D := D.dr m6
        have F := F.dr m6
        have H := H.dr m6
        have B := below_drewN B m6
        generalize w5.drewN m6 = w6 at hA D F H B ⊢
        go_wp2_with fail
        refine (c_valid_sym A1 c1 (kvB X Y m) _ (SymB.kv X Y m) D).mono ?_
        rintro e w7' ⟨rfl, m7, rfl⟩
        have hA := hA.dr m7
        have D := D.dr m7
        have F := F.dr m7
        have H := H.dr m7
        have B := below_drewN B m7
        generalize w6.drewN m7 = w7 at hA D F H B ⊢
        have CM := c_many_sym A1 c1 (kvB X Y m) w7 (SymB.kv X Y m) D
        generalize cmany (kvB X Y m) = CC at hcm hcb CM
        obtain ⟨hcb1, hcb2⟩ := hcb
        go_wp2_with fail
        refine (CM).mono ?_
        rintro e w8' ⟨rfl, m8, rfl⟩
        have hA := hA.dr m8
        have D := D.dr m8
        have F := F.dr m8
        have H := H.dr m8
        have B := below_drewN B m8
        generalize w7.drewN m8 = w8 at hA D F H B ⊢
        go_wp2
        go_ret
        exact ⟨ret_bool (by first | (simp; done) | (simp; omega)), B⟩
      | false =>
        rw [show lenIf false m = 0 from rfl] at F hc9 ⊢
        have C := c_TrackCover A4 0 c4 (fun i => X i + 1) (fun i => Y i + 1) w4 (by omega) hc9 F
        rw [avB_len (n := 0) (.inl (by omega))] at C
        go_wp2_with fail
        refine (C).mono ?_
        rintro e w9 ⟨A9, c9, rfl, b9, M9⟩
        have hA := hA.step b9
        have D := D.step b9
        have F := F.step b9
        have B := below_seq B b9
        have H := M9.rd
        clear C
        rw [show len16 false = 0 from rfl] at H ⊢
        go_wp2_with fail
        refine (c_valid_sym A1 c1 (kvB X Y m) _ (SymB.kv X Y m) D).mono ?_
        rintro e w10' ⟨rfl, m10, rfl⟩
        have hA := hA.dr m10
        have D := D.dr m10
        have F := F.dr m10
        have H := H.dr m10
        have B := below_drewN B m10
        generalize w9.drewN m10 = w10 at hA D F H B ⊢
        have CM := c_many_sym A1 c1 (kvB X Y m) w10 (SymB.kv X Y m) D
        generalize cmany (kvB X Y m) = CC at hcm hcb CM
        obtain ⟨hcb1, hcb2⟩ := hcb
        go_wp2_with fail
        refine (CM).mono ?_
        rintro e w11' ⟨rfl, m11, rfl⟩
        have hA := hA.dr m11
        have D := D.dr m11
        have F := F.dr m11
        have H := H.dr m11
        have B := below_drewN B m11
        generalize w10.drewN m11 = w11 at hA D F H B ⊢
        go_wp2
        go_ret
        exact ⟨ret_bool (by first | (simp; done) | (simp; omega)), B⟩
    | false =>
      rw [show len16 false = 0 from rfl] at D E hl ⊢
      go_wp2_with fail
      refine (c_flags_yes _ _ 0 _ _ (kvB X Y m) (kvB X Y m) _ hl D E (fun _ _ => rfl)).mono ?_
      rintro e w12' ⟨rfl, m12, rfl⟩
      have D := D.dr m12
      have E := E.dr m12
      have B := below_drewN B m12
      generalize w2.drewN m12 = w12 at D E B ⊢
      go_wp2_with fail
      refine (c_flags_yes _ _ 0 _ _ (kvB X Y m) (kvB X Y m) _ hl D E (fun _ _ => rfl)).mono ?_
      rintro e w13' ⟨rfl, m13, rfl⟩
      have D := D.dr m13
      have E := E.dr m13
      have B := below_drewN B m13
      generalize w12.drewN m13 = w13 at D E B ⊢
      go_wp2
      go_ret
      exact ⟨rfl, B⟩
  · go_enter Try.func5, Try.ntmps5
    go_wp2
    go_ret
    exact ⟨rfl, Below.refl _ _⟩
set_option maxHeartbeats 2000000 in
theorem l_FnTrackMany (A : Option Addr) (n c : Nat) (f : Nat → Int) (w : World) (h0 : Rd w w.heap.size A n (fun k => .int .u8 (f k))) (hb : ∀ i, 0 ≤ f i ∧ f i ≤ 255) (hnc : n ≤ c) :
    Calls Try.prog 10 #[.slice A n c] w fun e w' => e = .returned (.bool true) ∧ Below w.heap.size w w' := by
  by_cases hn : n ≤ 1048576
  · go_enter Try.func10, Try.ntmps10
    go_wp2_with fail
    refine (c_DrawTrackCover A n c f _ hn hnc ⟨h0, hb⟩).mono ?_
    rintro e w0 ⟨v, rfl, ⟨b, m, cc, X, Y, hbb, rfl, h1, h6, hcc, hR⟩, B⟩
    have hA : RdA w0 w0.heap.size (some ⟨b, 0, none⟩) m X Y := hR.rd hR.lt
    clear hR h0 hb hbb
    go_wp2_with fail
    refine (c_TrackCover (some ⟨b, 0, none⟩) m cc X Y _ (by omega) hcc hA).mono ?_
    rintro e w1 ⟨A1, c1, rfl, b1, M1⟩
    have hA := hA.step b1
    have B := below_seq B b1
    have D := M1.rd
    go_wp2_with fail
    refine (c_sTrackCover (some ⟨b, 0, none⟩) m cc X Y _ (by omega) hA).mono ?_
    rintro e w2 ⟨A2, c2, rfl, b2, M2⟩
    have hA := hA.step b2
    have D := D.step b2
    have B := below_seq B b2
    have E := M2.rd
    have hl := len16_le (avB X Y m)
    have hqq : (avB X Y m == avB X Y m) = true := by simp
    obtain ⟨ok, hok⟩ : ∃ ok, avB X Y m = ok := ⟨_, rfl⟩
    rw [hok] at D E hl hqq ⊢
    cases ok with
    | true =>
      rw [show len16 true = 16 from rfl] at D E hl ⊢
      go_wp2_with fail
      refine (c_flags_yes _ _ 16 _ _ (kvB X Y m) (kvB X Y m) _ hl D E (fun _ _ => rfl)).mono ?_
      rintro e w3' ⟨rfl, m3, rfl⟩
      have hA := hA.dr m3
      have D := D.dr m3
      have E := E.dr m3
      have B := below_drewN B m3
      generalize w2.drewN m3 = w3 at hA D E B ⊢
      have hv := hok
      obtain ⟨⟨h2, h7⟩, hXY, -⟩ := avB_true hv
      have HXY := Lib.hid hXY
      clear hXY hok E hqq hl
      have C := c_CoverOf (some ⟨b, 0, none⟩) m cc X Y w3 (by omega) hcc hA
      rw [hv] at C
      go_wp2_with fail
      refine C.mono ?_
      rintro e w4 ⟨A4, c4, rfl, b4, M4⟩
      have hA := hA.step b4
      have D := D.step b4
      have B := below_seq B b4
      have F := M4.rd
      clear C
      rw [show len16 true = 16 from rfl] at F ⊢
      go_wp2_with fail
      refine (c_turn_sym A4 c4 (trB 1 X Y m) w4 (SymB.tr 1 X Y m) F).mono ?_
      rintro e w5 ⟨A5, c5, rfl, b5, M5⟩
      have hA := hA.step b5
      have D := D.step b5
      have F := F.step b5
      have B := below_seq B b5
      have H := M5.rd
      go_wp2_with fail
      refine (c_join_sym A4 A5 c4 c5 (trB 1 X Y m) (fun c => trB 1 X Y m (tornN c)) w5 (SymB.tr 1 X Y m) (SymB.torn (SymB.tr 1 X Y m)) F H).mono ?_
      rintro e w6 ⟨A6, c6, rfl, b6, M6⟩
      have hA := hA.step b6
      have D := D.step b6
      have F := F.step b6
      have H := H.step b6
      have B := below_seq B b6
      have I := M6.rd
      go_wp2_with fail
      refine (c_flags_yes _ _ 16 _ _ (fun c => trB 1 X Y m c || trB 1 X Y m (tornN c)) (kvB X Y m) _ (by omega) I D (fun c _ => rfl)).mono ?_
      rintro e w7' ⟨rfl, m7, rfl⟩
      have hA := hA.dr m7
      have D := D.dr m7
      have F := F.dr m7
      have H := H.dr m7
      have I := I.dr m7
      have B := below_drewN B m7
      generalize w6.drewN m7 = w7 at hA D F H I B ⊢
      have hcm := cmany_kv X Y m
      have hcb := cmany_bd (kvB X Y m)
      have hcd := cmany_bd (trB 1 X Y m)
      have CM := c_many_sym A1 c1 (kvB X Y m) w7 (SymB.kv X Y m) D
      have CN := Lib.hid (fun i => c_many_sym A4 c4 (trB 1 X Y m) (w7.drewN i) (SymB.tr 1 X Y m) (F.dr i))
      generalize cmany (kvB X Y m) = CC at hcm hcb CM
      generalize cmany (trB 1 X Y m) = CD at hcm hcd CN
      obtain ⟨hcb1, hcb2⟩ := hcb
      obtain ⟨hcd1, hcd2⟩ := hcd
      go_wp2_with fail
      refine CM.mono ?_
      rintro e w' ⟨rfl, m8, rfl⟩
      go_wp2_with fail
      refine (CN.out _).mono ?_
      rintro e w' ⟨rfl, m9, rfl⟩
      go_wp2
      go_ret
      exact ⟨ret_bool (by first | (simp; done) | (simp; omega)), below_drewN B _⟩
    | false =>
      rw [show len16 false = 0 from rfl] at D E hl ⊢
      go_wp2_with fail
      refine (c_flags_yes _ _ 0 _ _ (kvB X Y m) (kvB X Y m) _ hl D E (fun _ _ => rfl)).mono ?_
      rintro e w8' ⟨rfl, m8, rfl⟩
      have D := D.dr m8
      have E := E.dr m8
      have B := below_drewN B m8
      generalize w2.drewN m8 = w8 at D E B ⊢
      go_wp2_with fail
      refine (c_flags_yes _ _ 0 _ _ (kvB X Y m) (kvB X Y m) _ hl D E (fun _ _ => rfl)).mono ?_
      rintro e w9' ⟨rfl, m9, rfl⟩
      have D := D.dr m9
      have E := E.dr m9
      have B := below_drewN B m9
      generalize w8.drewN m9 = w9 at D E B ⊢
      go_wp2
      go_ret
      exact ⟨rfl, B⟩
  · go_enter Try.func10, Try.ntmps10
    go_wp2
    go_ret
    exact ⟨rfl, Below.refl _ _⟩
end Go.Proofs.Ytpabcpiiolfakaa
