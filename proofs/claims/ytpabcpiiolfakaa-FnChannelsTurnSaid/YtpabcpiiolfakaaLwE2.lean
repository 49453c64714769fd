/-
  Laws over drawn arrays: channels.
-/
import Derived.Test.YtpabcpiiolfakaaDrawE
namespace Go.Proofs.Ytpabcpiiolfakaa
open Go.RowKit Go.Deep

theorem ch_join (X Y : Nat → Int) (m K c : Nat) : (chB X Y m 4 c || chB X Y m K c) = chB X Y m 4 c := by
  cases h : chB X Y m K c with
  | false => simp
  | true => rw [chB_four h]; rfl
theorem ch_same (X Y : Nat → Int) (m : Nat) {K : Nat} (hK : 4 ≤ K) (c : Nat) : chB X Y m 4 c = chB X Y m K c := bool_ext ⟨fun h => chB_mono hK h, fun h => chB_four h⟩
set_option maxHeartbeats 2000000 in
theorem l_FnChannels (A : Option Addr) (n c : Nat) (f : Nat → Int) (w : World) (h0 : Rd w w.heap.size A n (fun k => .int .u8 (f k))) (hb : ∀ i, 0 ≤ f i ∧ f i ≤ 255) (hnc : n ≤ c) :
    Calls Try.prog 6 #[.slice A n c] w fun e w' => e = .returned (.bool true) ∧ Below w.heap.size w w' := by
  by_cases hn : n ≤ 1048576
  · go_enter Try.func6, Try.ntmps6
    go_wp2_with fail
    refine (c_DrawTrackChannels A n c f _ hn hnc ⟨h0, hb⟩).mono ?_
    rintro e w0 ⟨v, k, rfl, hk0, hk1, ⟨b, m, cc, X, Y, hbb, rfl, h1, h6, hcc, hR⟩, B⟩
    have hA : RdA w0 w0.heap.size (some ⟨b, 0, none⟩) m X Y := hR.rd hR.lt
    clear hR h0 hb hbb
    go_wp2_with fail
    refine (c_TrackChannels (some ⟨b, 0, none⟩) m cc X Y k _ (by omega) hcc hA).mono ?_
    rintro e w1 ⟨A1, c1, rfl, b1, M1⟩
    have hA := hA.step b1
    have B := below_seq B b1
    have D := M1.rd
    go_wp2_with fail
    refine (c_sTrackChannels (some ⟨b, 0, none⟩) m cc X Y k _ (by omega) hA).mono ?_
    rintro e w2 ⟨A2, c2, rfl, b2, M2⟩
    have hA := hA.step b2
    have D := D.step b2
    have B := below_seq B b2
    have E := M2.rd
    have hl := len16_le (tsOk X Y m k)
    have hqq : (tsOk X Y m k == tsOk X Y m k) = true := by simp
    obtain ⟨ok, hok⟩ : ∃ ok, tsOk X Y m k = ok := ⟨_, rfl⟩
    rw [hok] at D E hl hqq ⊢
    cases ok with
    | true =>
      rw [show len16 true = 16 from rfl] at D E hl ⊢
      go_wp2_with fail
      refine (c_flags_yes _ _ 16 _ _ (chB X Y m k.toNat) (chB X Y m k.toNat) _ hl D E (fun _ _ => rfl)).mono ?_
      rintro e w3' ⟨rfl, m3, rfl⟩
      have hA := hA.dr m3
      have D := D.dr m3
      have E := E.dr m3
      have B := below_drewN B m3
      generalize w2.drewN m3 = w3 at hA D E B ⊢
      obtain ⟨hv, k1, k2⟩ := tsOk_true hok
      obtain ⟨⟨h2, h7⟩, hXY, -⟩ := avB_true hv
      have HXY := Lib.hid hXY
      clear hXY hok E hqq hl hk0 hk1
      obtain ⟨K, rfl⟩ : ∃ K : Nat, k = K := ⟨k.toNat, by omega⟩
      simp only [Int.toNat_natCast] at D
      have kn1 : 1 ≤ K := by omega
      have kn2 : K ≤ 100 := by omega
      by_cases K1 : K = 1
      · subst K1
        have C := c_TrackChannels (some ⟨b, 0, none⟩) m cc X Y (0) w3 (by omega) hcc hA
        rw [show tsOk X Y m 0 = false by simp [tsOk, inB]] at C
        go_wp2_with fail
        refine (C).mono ?_
        rintro e w4 ⟨A4, c4, rfl, b4, M4⟩
        have hA := hA.step b4
        have D := D.step b4
        have B := below_seq B b4
        have F := M4.rd
        clear C
        rw [show len16 false = 0 from rfl] at F ⊢
        have C := c_TrackScale (some ⟨b, 0, none⟩) m cc X Y (1) w4 (by omega) hcc hA
        rw [tsOk_mk hv (by omega) (by omega)] at C
        go_wp2_with fail
        refine C.mono ?_
        rintro e w5 ⟨A5, c5, rfl, b5, M5⟩
        have hA := hA.step b5
        have D := D.step b5
        have F := F.step b5
        have B := below_seq B b5
        have H := M5.rd
        clear C
        rw [show len16 true = 16 from rfl] at H ⊢
        go_wp2_with fail
        refine (c_join_no A4 A5 c4 c5 (chB X Y m (0 : Int).toNat) (trB 1 X Y m) w5 F H).mono ?_
        rintro e w6 ⟨A6, c6, rfl, b6, M6⟩
        have hA := hA.step b6
        have D := D.step b6
        have F := F.step b6
        have H := H.step b6
        have B := below_seq B b6
        have I := M6.rd
        go_wp2_with fail
        refine (c_flags_yes _ _ 16 _ _ (trB 1 X Y m) (chB X Y m 1) _ (by omega) H D (fun c _ => (chB_one X Y m c).symm)).mono ?_
        rintro e w7' ⟨rfl, m7, rfl⟩
        have hA := hA.dr m7
        have D := D.dr m7
        have F := F.dr m7
        have H := H.dr m7
        have I := I.dr m7
        have B := below_drewN B m7
        generalize w6.drewN m7 = w7 at hA D F H I B ⊢
        go_wp2
        go_ret
        exact ⟨rfl, B⟩
      · obtain ⟨L, rfl⟩ : ∃ L, K = L + 1 := ⟨K - 1, by omega⟩
        have hL : 1 ≤ L := by omega
        have hLi : (1 : Int) ≤ (L : Int) := by omega
        have hLb : (L : Int) ≤ 99 := by omega
        have hL1 : (((L + 1 : Nat) : Int) == 1) = false := by simpa using (by omega : ((L + 1 : Nat) : Int) ≠ 1)
        have hL2 : (((L : Int) + 1) == 1) = false := by simpa using (by omega : ((L : Int) + 1) ≠ 1)
        have C := c_TrackChannels (some ⟨b, 0, none⟩) m cc X Y ((L : Int)) w3 (by omega) hcc hA
        rw [tsOk_mk hv (by omega) (by omega)] at C
        go_wp2_with fail
        refine (C).mono ?_
        rintro e w8 ⟨A8, c8, rfl, b8, M8⟩
        have hA := hA.step b8
        have D := D.step b8
        have B := below_seq B b8
        have F := M8.rd
        clear C
        rw [show len16 true = 16 from rfl] at F ⊢
        simp only [Int.toNat_natCast] at F
        have C := c_TrackScale (some ⟨b, 0, none⟩) m cc X Y (((L + 1 : Nat) : Int)) w8 (by omega) hcc hA
        rw [tsOk_mk hv (by omega) (by omega)] at C
        go_wp2_with fail
        refine C.mono ?_
        rintro e w9 ⟨A9, c9, rfl, b9, M9⟩
        have hA := hA.step b9
        have D := D.step b9
        have F := F.step b9
        have B := below_seq B b9
        have H := M9.rd
        clear C
        rw [show len16 true = 16 from rfl] at H ⊢
        go_wp2_with fail
        refine (c_join_sym A8 A9 c8 c9 (chB X Y m L) (trB ((L + 1 : Nat) : Int) X Y m) w9 (SymB.ch X Y m L) (SymB.tr _ X Y m) F H).mono ?_
        rintro e w10 ⟨A10, c10, rfl, b10, M10⟩
        have hA := hA.step b10
        have D := D.step b10
        have F := F.step b10
        have H := H.step b10
        have B := below_seq B b10
        have I := M10.rd
        go_wp2_with fail
        refine (c_flags_yes _ _ 16 _ _ (fun c => chB X Y m L c || trB ((L + 1 : Nat) : Int) X Y m c) (chB X Y m (L + 1)) _ (by omega) I D (fun c _ => (chB_succ X Y m L c).symm)).mono ?_
        rintro e w11' ⟨rfl, m11, rfl⟩
        have hA := hA.dr m11
        have D := D.dr m11
        have F := F.dr m11
        have H := H.dr m11
        have I := I.dr m11
        have B := below_drewN B m11
        generalize w10.drewN m11 = w11 at hA D F H I B ⊢
        go_wp2
        go_ret
        exact ⟨rfl, B⟩
    | false =>
      rw [show len16 false = 0 from rfl] at D E hl ⊢
      go_wp2_with fail
      refine (c_flags_yes _ _ 0 _ _ (chB X Y m k.toNat) (chB X Y m k.toNat) _ hl D E (fun _ _ => rfl)).mono ?_
      rintro e w12' ⟨rfl, m12, rfl⟩
      have D := D.dr m12
      have E := E.dr m12
      have B := below_drewN B m12
      generalize w2.drewN m12 = w12 at D E B ⊢
      go_wp2_with fail
      refine (c_flags_yes _ _ 0 _ _ (chB X Y m k.toNat) (chB X Y m k.toNat) _ hl D E (fun _ _ => rfl)).mono ?_
      rintro e w13' ⟨rfl, m13, rfl⟩
      have D := D.dr m13
      have E := E.dr m13
      have B := below_drewN B m13
      generalize w12.drewN m13 = w13 at D E B ⊢
      go_wp2
      go_ret
      exact ⟨rfl, B⟩
  · go_enter Try.func6, Try.ntmps6
    go_wp2
    go_ret
    exact ⟨rfl, Below.refl _ _⟩
set_option maxHeartbeats 2000000 in
theorem l_FnChannelsMore (A : Option Addr) (n c : Nat) (f : Nat → Int) (w : World) (h0 : Rd w w.heap.size A n (fun k => .int .u8 (f k))) (hb : ∀ i, 0 ≤ f i ∧ f i ≤ 255) (hnc : n ≤ c) :
    Calls Try.prog 7 #[.slice A n c] w fun e w' => e = .returned (.bool true) ∧ Below w.heap.size w w' := by
  by_cases hn : n ≤ 1048576
  · go_enter Try.func7, Try.ntmps7
    go_wp2_with fail
    refine (c_DrawTrackChannels A n c f _ hn hnc ⟨h0, hb⟩).mono ?_
    rintro e w0 ⟨v, k, rfl, hk0, hk1, ⟨b, m, cc, X, Y, hbb, rfl, h1, h6, hcc, hR⟩, B⟩
    have hA : RdA w0 w0.heap.size (some ⟨b, 0, none⟩) m X Y := hR.rd hR.lt
    clear hR h0 hb hbb
    go_wp2_with fail
    refine (c_TrackChannels (some ⟨b, 0, none⟩) m cc X Y k _ (by omega) hcc hA).mono ?_
    rintro e w1 ⟨A1, c1, rfl, b1, M1⟩
    have hA := hA.step b1
    have B := below_seq B b1
    have D := M1.rd
    go_wp2_with fail
    refine (c_sTrackChannels (some ⟨b, 0, none⟩) m cc X Y k _ (by omega) hA).mono ?_
    rintro e w2 ⟨A2, c2, rfl, b2, M2⟩
    have hA := hA.step b2
    have D := D.step b2
    have B := below_seq B b2
    have E := M2.rd
    have hl := len16_le (tsOk X Y m k)
    have hqq : (tsOk X Y m k == tsOk X Y m k) = true := by simp
    obtain ⟨ok, hok⟩ : ∃ ok, tsOk X Y m k = ok := ⟨_, rfl⟩
    rw [hok] at D E hl hqq ⊢
    cases ok with
    | true =>
      rw [show len16 true = 16 from rfl] at D E hl ⊢
      go_wp2_with fail
      refine (c_flags_yes _ _ 16 _ _ (chB X Y m k.toNat) (chB X Y m k.toNat) _ hl D E (fun _ _ => rfl)).mono ?_
      rintro e w3' ⟨rfl, m3, rfl⟩
      have hA := hA.dr m3
      have D := D.dr m3
      have E := E.dr m3
      have B := below_drewN B m3
      generalize w2.drewN m3 = w3 at hA D E B ⊢
      obtain ⟨hv, k1, k2⟩ := tsOk_true hok
      obtain ⟨⟨h2, h7⟩, hXY, -⟩ := avB_true hv
      have HXY := Lib.hid hXY
      clear hXY hok E hqq hl hk0 hk1
      obtain ⟨K, rfl⟩ : ∃ K : Nat, k = K := ⟨k.toNat, by omega⟩
      simp only [Int.toNat_natCast] at D
      have kn1 : 1 ≤ K := by omega
      have kn2 : K ≤ 100 := by omega
      have C := c_TrackChannels (some ⟨b, 0, none⟩) m cc X Y (4) w3 (by omega) hcc hA
      rw [tsOk_mk hv (by omega) (by omega)] at C
      go_wp2_with fail
      refine (C).mono ?_
      rintro e w4 ⟨A4, c4, rfl, b4, M4⟩
      have hA := hA.step b4
      have D := D.step b4
      have B := below_seq B b4
      have F := M4.rd
      clear C
      rw [show len16 true = 16 from rfl] at F ⊢
      have e4 : (4 : Int).toNat = 4 := rfl
      simp only [e4] at F
      go_wp2_with fail
      refine (c_join_sym A4 A1 c4 c1 (chB X Y m 4) (chB X Y m K) w4 (SymB.ch X Y m 4) (SymB.ch X Y m K) F D).mono ?_
      rintro e w5 ⟨A5, c5, rfl, b5, M5⟩
      have hA := hA.step b5
      have D := D.step b5
      have F := F.step b5
      have B := below_seq B b5
      have I := M5.rd
      go_wp2_with fail
      refine (c_flags_yes _ _ 16 _ _ (fun c => chB X Y m 4 c || chB X Y m K c) (chB X Y m 4) _ (by omega) I F (fun c _ => ch_join X Y m K c)).mono ?_
      rintro e w6' ⟨rfl, m6, rfl⟩
      have hA := hA.dr m6
      have D := D.dr m6
      have F := F.dr m6
      have I := I.dr m6
      have B := below_drewN B m6
      generalize w5.drewN m6 = w6 at hA D F I B ⊢
      by_cases K4 : K < 4
      · have hz : (K : Int) < 4 := by omega
        go_wp2
        go_ret
        exact ⟨rfl, B⟩
      · have hz : (4 : Int) ≤ (K : Int) := by omega
        go_wp2_with fail
        refine (c_flags_yes _ _ 16 _ _ (chB X Y m 4) (chB X Y m K) _ (by omega) F D (fun c _ => ch_same X Y m (by omega) c)).mono ?_
        rintro e w7' ⟨rfl, m7, rfl⟩
        have hA := hA.dr m7
        have D := D.dr m7
        have F := F.dr m7
        have I := I.dr m7
        have B := below_drewN B m7
        generalize w6.drewN m7 = w7 at hA D F I B ⊢
        go_wp2
        go_ret
        exact ⟨rfl, B⟩
    | false =>
      rw [show len16 false = 0 from rfl] at D E hl ⊢
      go_wp2_with fail
      refine (c_flags_yes _ _ 0 _ _ (chB X Y m k.toNat) (chB X Y m k.toNat) _ hl D E (fun _ _ => rfl)).mono ?_
      rintro e w8' ⟨rfl, m8, rfl⟩
      have D := D.dr m8
      have E := E.dr m8
      have B := below_drewN B m8
      generalize w2.drewN m8 = w8 at D E B ⊢
      go_wp2_with fail
      refine (c_flags_yes _ _ 0 _ _ (chB X Y m k.toNat) (chB X Y m k.toNat) _ hl D E (fun _ _ => rfl)).mono ?_
      rintro e w9' ⟨rfl, m9, rfl⟩
      have D := D.dr m9
      have E := E.dr m9
      have B := below_drewN B m9
      generalize w8.drewN m9 = w9 at D E B ⊢
      go_wp2
      go_ret
      exact ⟨rfl, B⟩
  · go_enter Try.func7, Try.ntmps7
    go_wp2
    go_ret
    exact ⟨rfl, Below.refl _ _⟩
set_option maxHeartbeats 2000000 in
theorem l_FnChannelsTurn (A : Option Addr) (n c : Nat) (f : Nat → Int) (w : World) (h0 : Rd w w.heap.size A n (fun k => .int .u8 (f k))) (hb : ∀ i, 0 ≤ f i ∧ f i ≤ 255) (hnc : n ≤ c) :
    Calls Try.prog 12 #[.slice A n c] w fun e w' => e = .returned (.bool true) ∧ Below w.heap.size w w' := by
  by_cases hn : n ≤ 1048576
  · go_enter Try.func12, Try.ntmps12
    go_wp2_with fail
    refine (c_DrawTrackChannels A n c f _ hn hnc ⟨h0, hb⟩).mono ?_
    rintro e w0 ⟨v, k, rfl, hk0, hk1, ⟨b, m, cc, X, Y, hbb, rfl, h1, h6, hcc, hR⟩, B⟩
    have hA : RdA w0 w0.heap.size (some ⟨b, 0, none⟩) m X Y := hR.rd hR.lt
    clear hR h0 hb hbb
    go_wp2_with fail
    refine (c_TrackChannels (some ⟨b, 0, none⟩) m cc X Y k _ (by omega) hcc hA).mono ?_
    rintro e w1 ⟨A1, c1, rfl, b1, M1⟩
    have hA := hA.step b1
    have B := below_seq B b1
    have D := M1.rd
    go_wp2_with fail
    refine (c_sTrackChannels (some ⟨b, 0, none⟩) m cc X Y k _ (by omega) hA).mono ?_
    rintro e w2 ⟨A2, c2, rfl, b2, M2⟩
    have hA := hA.step b2
    have D := D.step b2
    have B := below_seq B b2
    have E := M2.rd
    have hl := len16_le (tsOk X Y m k)
    have hqq : (tsOk X Y m k == tsOk X Y m k) = true := by simp
    obtain ⟨ok, hok⟩ : ∃ ok, tsOk X Y m k = ok := ⟨_, rfl⟩
    rw [hok] at D E hl hqq ⊢
    cases ok with
    | true =>
      rw [show len16 true = 16 from rfl] at D E hl ⊢
      go_wp2_with fail
      refine (c_flags_yes _ _ 16 _ _ (chB X Y m k.toNat) (chB X Y m k.toNat) _ hl D E (fun _ _ => rfl)).mono ?_
      rintro e w3' ⟨rfl, m3, rfl⟩
      have hA := hA.dr m3
      have D := D.dr m3
      have E := E.dr m3
      have B := below_drewN B m3
      generalize w2.drewN m3 = w3 at hA D E B ⊢
      obtain ⟨hv, k1, k2⟩ := tsOk_true hok
      obtain ⟨⟨h2, h7⟩, hXY, -⟩ := avB_true hv
      have HXY := Lib.hid hXY
      clear hXY hok E hqq hl hk0 hk1
      obtain ⟨K, rfl⟩ : ∃ K : Nat, k = K := ⟨k.toNat, by omega⟩
      simp only [Int.toNat_natCast] at D
      have kn1 : 1 ≤ K := by omega
      have kn2 : K ≤ 100 := by omega
      go_wp2_with fail
      refine (c_ArrayTurn ⟨b, 0, none⟩ m cc X Y 1 _ hcc hv (by omega) hA).mono ?_
      rintro e w4 ⟨A4, c4, rfl, hc9, b4, M4⟩
      have hA := hA.step b4
      have D := D.step b4
      have B := below_seq B b4
      have F := M4.rd
      have C := c_TrackChannels A4 m c4 (tnX X Y 1).1 (tnX X Y 1).2 ((K : Int)) w4 (by omega) hc9 F
      rw [tsOk_mk (av_tn hv 1) (by omega) (by omega)] at C
      go_wp2_with fail
      refine (C).mono ?_
      rintro e w5 ⟨A5, c5, rfl, b5, M5⟩
      have hA := hA.step b5
      have D := D.step b5
      have F := F.step b5
      have B := below_seq B b5
      have H := M5.rd
      clear C
      rw [show len16 true = 16 from rfl] at H ⊢
      simp only [Int.toNat_natCast] at H
      go_wp2_with fail
      refine (c_turn_sym A1 c1 (chB X Y m K) w5 (SymB.ch X Y m K) D).mono ?_
      rintro e w6 ⟨A6, c6, rfl, b6, M6⟩
      have hA := hA.step b6
      have D := D.step b6
      have F := F.step b6
      have H := H.step b6
      have B := below_seq B b6
      have I := M6.rd
      go_wp2_with fail
      refine (c_flags_yes _ _ 16 _ _ (chB (tnX X Y 1).1 (tnX X Y 1).2 m K) (fun c => chB X Y m K (tornN c)) _ (by omega) H I (fun c hc => chB_turn X Y m K hc)).mono ?_
      rintro e w7' ⟨rfl, m7, rfl⟩
      have hA := hA.dr m7
      have D := D.dr m7
      have F := F.dr m7
      have H := H.dr m7
      have I := I.dr m7
      have B := below_drewN B m7
      generalize w6.drewN m7 = w7 at hA D F H I B ⊢
      go_wp2
      go_ret
      exact ⟨rfl, B⟩
    | false =>
      rw [show len16 false = 0 from rfl] at D E hl ⊢
      go_wp2_with fail
      refine (c_flags_yes _ _ 0 _ _ (chB X Y m k.toNat) (chB X Y m k.toNat) _ hl D E (fun _ _ => rfl)).mono ?_
      rintro e w8' ⟨rfl, m8, rfl⟩
      have D := D.dr m8
      have E := E.dr m8
      have B := below_drewN B m8
      generalize w2.drewN m8 = w8 at D E B ⊢
      go_wp2_with fail
      refine (c_flags_yes _ _ 0 _ _ (chB X Y m k.toNat) (chB X Y m k.toNat) _ hl D E (fun _ _ => rfl)).mono ?_
      rintro e w9' ⟨rfl, m9, rfl⟩
      have D := D.dr m9
      have E := E.dr m9
      have B := below_drewN B m9
      generalize w8.drewN m9 = w9 at D E B ⊢
      go_wp2
      go_ret
      exact ⟨rfl, B⟩
  · go_enter Try.func12, Try.ntmps12
    go_wp2
    go_ret
    exact ⟨rfl, Below.refl _ _⟩
end Go.Proofs.Ytpabcpiiolfakaa
