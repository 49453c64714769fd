/-
  Laws over drawn arrays: factors' images.
-/
import Derived.Test.YtiibfjdjccofdaaLwLib
namespace Go.Proofs.Ytiibfjdjccofdaa
open Go.RowKit Go.Deep

set_option maxHeartbeats 2000000 in
theorem l_FnScaleCells (A : Option Addr) (n c : Nat) (f : Nat → Int) (w : World) (h0 : Rd w w.heap.size A n (fun k => .int .u8 (f k))) (hb : ∀ i, 0 ≤ f i ∧ f i ≤ 255) (hnc : n ≤ c) :
    Calls Try.prog 6 #[.slice A n c] w fun e w' => e = .returned (.bool true) ∧ Below w.heap.size w w' := by
  by_cases hn : n ≤ 1048576
  · go_enter Try.func6, Try.ntmps6
    go_wp2_with fail
    refine (c_DrawTrackScale A n c f _ hn hnc ⟨h0, hb⟩).mono ?_
    rintro e w0 ⟨v, k, rfl, hk0, hk1, ⟨b, m, cc, X, Y, hbb, rfl, h1, h6, hcc, hR⟩, B⟩
    have hA : RdA w0 w0.heap.size (some ⟨b, 0, none⟩) m X Y := hR.rd hR.lt
    clear hR h0 hb hbb
    go_wp2_with fail
    refine (c_TrackScale (some ⟨b, 0, none⟩) m cc X Y k _ (by omega) hcc hA).mono ?_
    rintro e w1 ⟨A1, c1, rfl, b1, M1⟩
    have hA := hA.step b1
    have B := below_seq B b1
    have D := M1.rd
    go_wp2_with fail
    refine (c_sTrackScale (some ⟨b, 0, none⟩) m cc X Y k _ (by omega) hA).mono ?_
    rintro e w2 ⟨A2, c2, rfl, b2, M2⟩
    have hA := hA.step b2
    have D := D.step b2
    have B := below_seq B b2
    have E := M2.rd
    have hl := len16_le (tsOk X Y m k)
    have hqq : (tsOk X Y m k == tsOk X Y m k) = true := by simp
    obtain ⟨ok, hok⟩ : ∃ ok, tsOk X Y m k = ok := ⟨_, rfl⟩
    rw [hok] at D E hl hqq ⊢
    cases ok with
    | true =>
      rw [show len16 true = 16 from rfl] at D E hl ⊢
      go_wp2_with fail
      refine (c_flags_yes _ _ 16 _ _ (trB k X Y m) (trB k X Y m) _ hl D E (fun _ _ => rfl)).mono ?_
      rintro e w3' ⟨rfl, m3, rfl⟩
      have hA := hA.dr m3
      have D := D.dr m3
      have E := E.dr m3
      have B := below_drewN B m3
      generalize w2.drewN m3 = w3 at hA D E B ⊢
      obtain ⟨hv, k1, k2⟩ := tsOk_true hok
      obtain ⟨⟨h2, h7⟩, hXY, -⟩ := avB_true hv
      have HXY := Lib.hid hXY
      clear hXY hok E hqq hl hk0 hk1
      have C := c_CoverOf (some ⟨b, 0, none⟩) m cc X Y w3 (by omega) hcc hA
      rw [hv] at C
      go_wp2_with fail
      refine C.mono ?_
      rintro e w4 ⟨A4, c4, rfl, b4, M4⟩
      have hA := hA.step b4
      have D := D.step b4
      have B := below_seq B b4
      have F := M4.rd
      clear C
      rw [show len16 true = 16 from rfl] at F ⊢
      have hmk := mk_bools16
      go_wp2
      clear hmk
      go_loopw [12] (fun i wr => ∃ l : Nat, l ≤ 16 ∧ i = .int .i64 l ∧ Below w4.heap.size w4 wr ∧ Row wr w4.heap.size 4 16 (fun c => .bool (imgB k (trB 1 X Y m) l c))) (fun i _ => 16 - (intOf i).toNat)
      case atStart => exact ⟨0, Nat.zero_le _, rfl, (Below.refl _ _).alloc (Nat.le_refl _) _, (Row.made _ (.bool false) 16 4).congr (fun _ _ => rfl)⟩
      case round =>
        obtain ⟨l, hl16, rfl, hbl, hr⟩ := hrel
        by_cases hlt : l < 16
        · obtain ⟨ad, rfl, hab, hc⟩ := F.at_ hlt
          have h1 := (hbl.cell (p := ad.add l) (by rw [block_add]; exact hab)).trans (hc l hlt)
          have hz : (l : Int) < 16 := by omega
          obtain ⟨q, hq, lq⟩ : ∃ q, timesN (k) l = q ∧ q < 16 := ⟨_, rfl, timesN_lt _ _⟩
          have CL := Lib.hid (fun x y (hx : x = k * ((l : Int) % 4)) (hy : y = k * ((l : Int) / 4)) w => c_lcell x y q (by rw [hx, hy]; exact hq) w)
          have iq : (q : Int) < 16 := by omega
          have h3 := hr.cell lq
          have h4 := hr.frozen q
          obtain ⟨d, hd⟩ : ∃ d, (trB 1 X Y m) l = d := ⟨_, rfl⟩
          have R := hr.set q (.bool true)
          have HD := Lib.hid hd
          rw [hd] at h1
          have HQ := Lib.hid hq
          have HR := Lib.hid R
          have HR0 := Lib.hid hr
          clear hc hr R hd hq
          cases d with
          | true =>
            have e1 : IntKind.i64.wrap (k * ((l : Int) % 4)) = k * ((l : Int) % 4) := IntWalk.i64_in _ (by have := mul_bd ⟨k1, k2⟩ (d := (l : Int) % 4) (by omega); omega)
            have e2 : IntKind.i64.wrap (k * ((l : Int) / 4)) = k * ((l : Int) / 4) := IntWalk.i64_in _ (by have := mul_bd ⟨k1, k2⟩ (d := (l : Int) / 4) (by omega); omega)
            go_wp2_with (go_at_call 19; refine (CL.out _ _ (by first | rfl | omega | exact e1) (by first | rfl | omega | exact e2) _).mono ?_; rintro e w' ⟨rfl, rfl⟩)
            go_roundw
            case rel => exact ⟨l + 1, by omega, by go_num, hbl.setCell (Nat.le_refl _) _, HR.out.congr (fun c _ => by rw [imgB_yes HD.out, HQ.out]; by_cases e : c = q <;> simp [e])⟩
            case measure => simp [intOf]; omega
          | false =>
            go_wp2
            go_roundw
            case rel => exact ⟨l + 1, by omega, by go_num, hbl, HR0.out.congr (fun c _ => by rw [imgB_no HD.out])⟩
            case measure => simp [intOf]; omega
        · have e : l = 16 := by omega
          have hA := hA.step hbl
          have D := D.step hbl
          have F := F.step hbl
          have B := below_seq B hbl
          have Z := (hr.congr (f' := fun c => .bool (imgB k (trB 1 X Y m) 16 c)) (fun c _ => by rw [e])).rd hr.lt
          go_wp2_with fail
          refine (c_flags_yes _ _ 16 _ _ (imgB k (trB 1 X Y m) 16) (trB k X Y m) _ (by omega) Z D (fun c _ => by rw [imgB_tr, Int.mul_one])).mono ?_
          rintro e w5' ⟨rfl, m5, rfl⟩
          have hA := hA.dr m5
          have D := D.dr m5
          have F := F.dr m5
          have Z := Z.dr m5
          have B := below_drewN B m5
          generalize wr.drewN m5 = w5 at hA D F Z B ⊢
          go_wp2
          go_ret
          exact ⟨rfl, B⟩
    | false =>
      rw [show len16 false = 0 from rfl] at D E hl ⊢
      go_wp2_with fail
      refine (c_flags_yes _ _ 0 _ _ (trB k X Y m) (trB k X Y m) _ hl D E (fun _ _ => rfl)).mono ?_
      rintro e w6' ⟨rfl, m6, rfl⟩
      have D := D.dr m6
      have E := E.dr m6
      have B := below_drewN B m6
      generalize w2.drewN m6 = w6 at D E B ⊢
      go_wp2_with fail
      refine (c_flags_yes _ _ 0 _ _ (trB k X Y m) (trB k X Y m) _ hl D E (fun _ _ => rfl)).mono ?_
      rintro e w7' ⟨rfl, m7, rfl⟩
      have D := D.dr m7
      have E := E.dr m7
      have B := below_drewN B m7
      generalize w6.drewN m7 = w7 at D E B ⊢
      go_wp2
      go_ret
      exact ⟨rfl, B⟩
  · go_enter Try.func6, Try.ntmps6
    go_wp2
    go_ret
    exact ⟨rfl, Below.refl _ _⟩
set_option maxHeartbeats 2000000 in
theorem l_FnScaleTwice (A : Option Addr) (n c : Nat) (f : Nat → Int) (w : World) (h0 : Rd w w.heap.size A n (fun k => .int .u8 (f k))) (hb : ∀ i, 0 ≤ f i ∧ f i ≤ 255) (hnc : n ≤ c) :
    Calls Try.prog 3 #[.slice A n c] w fun e w' => e = .returned (.bool true) ∧ Below w.heap.size w w' := by
  by_cases hn : n ≤ 1048576
  · go_enter Try.func3, Try.ntmps3
    go_wp2_with fail
    refine (c_DrawTrackScale A n c f _ hn hnc ⟨h0, hb⟩).mono ?_
    rintro e w0 ⟨v, k, rfl, hk0, hk1, ⟨b, m, cc, X, Y, hbb, rfl, h1, h6, hcc, hR⟩, B⟩
    have hA : RdA w0 w0.heap.size (some ⟨b, 0, none⟩) m X Y := hR.rd hR.lt
    clear hR h0 hb hbb
    go_wp2_with fail
    refine (c_TrackScale (some ⟨b, 0, none⟩) m cc X Y k _ (by omega) hcc hA).mono ?_
    rintro e w1 ⟨A1, c1, rfl, b1, M1⟩
    have hA := hA.step b1
    have B := below_seq B b1
    have D := M1.rd
    go_wp2_with fail
    refine (c_sTrackScale (some ⟨b, 0, none⟩) m cc X Y k _ (by omega) hA).mono ?_
    rintro e w2 ⟨A2, c2, rfl, b2, M2⟩
    have hA := hA.step b2
    have D := D.step b2
    have B := below_seq B b2
    have E := M2.rd
    have hl := len16_le (tsOk X Y m k)
    have hqq : (tsOk X Y m k == tsOk X Y m k) = true := by simp
    obtain ⟨ok, hok⟩ : ∃ ok, tsOk X Y m k = ok := ⟨_, rfl⟩
    rw [hok] at D E hl hqq ⊢
    cases ok with
    | true =>
      rw [show len16 true = 16 from rfl] at D E hl ⊢
      go_wp2_with fail
      refine (c_flags_yes _ _ 16 _ _ (trB k X Y m) (trB k X Y m) _ hl D E (fun _ _ => rfl)).mono ?_
      rintro e w3' ⟨rfl, m3, rfl⟩
      have hA := hA.dr m3
      have D := D.dr m3
      have E := E.dr m3
      have B := below_drewN B m3
      generalize w2.drewN m3 = w3 at hA D E B ⊢
      obtain ⟨hv, k1, k2⟩ := tsOk_true hok
      obtain ⟨⟨h2, h7⟩, hXY, -⟩ := avB_true hv
      have HXY := Lib.hid hXY
      clear hXY hok E hqq hl hk0 hk1
      by_cases kb : k ≤ 50
      · have kb' : k ≤ 50 := kb
        have C := c_TrackScale (some ⟨b, 0, none⟩) m cc X Y (2 * k) w3 (by omega) hcc hA
        rw [tsOk_mk hv (by omega) (by omega)] at C
        go_wp2_with fail
        refine C.mono ?_
        rintro e w4 ⟨A4, c4, rfl, b4, M4⟩
        have hA := hA.step b4
        have D := D.step b4
        have B := below_seq B b4
        have F := M4.rd
        clear C
        rw [show len16 true = 16 from rfl] at F ⊢
        have hmk := mk_bools16
        go_wp2
        clear hmk
        go_loopw [12] (fun i wr => ∃ l : Nat, l ≤ 16 ∧ i = .int .i64 l ∧ Below w4.heap.size w4 wr ∧ Row wr w4.heap.size 4 16 (fun c => .bool (imgB 2 (trB k X Y m) l c))) (fun i _ => 16 - (intOf i).toNat)
        case atStart => exact ⟨0, Nat.zero_le _, rfl, (Below.refl _ _).alloc (Nat.le_refl _) _, (Row.made _ (.bool false) 16 4).congr (fun _ _ => rfl)⟩
        case round =>
          obtain ⟨l, hl16, rfl, hbl, hr⟩ := hrel
          by_cases hlt : l < 16
          · obtain ⟨ad, rfl, hab, hc⟩ := D.at_ hlt
            have h1 := (hbl.cell (p := ad.add l) (by rw [block_add]; exact hab)).trans (hc l hlt)
            have hz : (l : Int) < 16 := by omega
            obtain ⟨q, hq, lq⟩ : ∃ q, timesN (2) l = q ∧ q < 16 := ⟨_, rfl, timesN_lt _ _⟩
            have CL := Lib.hid (fun x y (hx : x = 2 * ((l : Int) % 4)) (hy : y = 2 * ((l : Int) / 4)) w => c_lcell x y q (by rw [hx, hy]; exact hq) w)
            have iq : (q : Int) < 16 := by omega
            have h3 := hr.cell lq
            have h4 := hr.frozen q
            obtain ⟨d, hd⟩ : ∃ d, (trB k X Y m) l = d := ⟨_, rfl⟩
            have R := hr.set q (.bool true)
            have HD := Lib.hid hd
            rw [hd] at h1
            have HQ := Lib.hid hq
            have HR := Lib.hid R
            have HR0 := Lib.hid hr
            clear hc hr R hd hq
            cases d with
            | true =>
              go_wp2_with (go_at_call 19; refine (CL.out _ _ (by first | rfl | omega | exact e1) (by first | rfl | omega | exact e2) _).mono ?_; rintro e w' ⟨rfl, rfl⟩)
              go_roundw
              case rel => exact ⟨l + 1, by omega, by go_num, hbl.setCell (Nat.le_refl _) _, HR.out.congr (fun c _ => by rw [imgB_yes HD.out, HQ.out]; by_cases e : c = q <;> simp [e])⟩
              case measure => simp [intOf]; omega
            | false =>
              go_wp2
              go_roundw
              case rel => exact ⟨l + 1, by omega, by go_num, hbl, HR0.out.congr (fun c _ => by rw [imgB_no HD.out])⟩
              case measure => simp [intOf]; omega
          · have e : l = 16 := by omega
            have hA := hA.step hbl
            have D := D.step hbl
            have F := F.step hbl
            have B := below_seq B hbl
            have Z := (hr.congr (f' := fun c => .bool (imgB 2 (trB k X Y m) 16 c)) (fun c _ => by rw [e])).rd hr.lt
            go_wp2_with fail
            refine (c_flags_yes _ _ 16 _ _ (trB (2 * k) X Y m) (imgB 2 (trB k X Y m) 16) _ (by omega) F Z (fun c _ => by rw [imgB_tr])).mono ?_
            rintro e w5' ⟨rfl, m5, rfl⟩
            have hA := hA.dr m5
            have D := D.dr m5
            have F := F.dr m5
            have Z := Z.dr m5
            have B := below_drewN B m5
            generalize wr.drewN m5 = w5 at hA D F Z B ⊢
            go_wp2
            go_ret
            exact ⟨rfl, B⟩
      · have kb' : 50 < k := by omega
        have C := c_TrackScale (some ⟨b, 0, none⟩) m cc X Y (2 * k) w3 (by omega) hcc hA
        rw [tsOk_over (by omega)] at C
        go_wp2_with fail
        refine C.mono ?_
        rintro e w6 ⟨A6, c6, rfl, b6, M6⟩
        have hA := hA.step b6
        have D := D.step b6
        have B := below_seq B b6
        have F := M6.rd
        clear C
        rw [show len16 false = 0 from rfl] at F ⊢
        have hmk := mk_bools16
        go_wp2
        clear hmk
        go_loopw [12] (fun i wr => ∃ l : Nat, l ≤ 16 ∧ i = .int .i64 l ∧ Below w6.heap.size w6 wr ∧ Row wr w6.heap.size 4 16 (fun c => .bool (imgB 2 (trB k X Y m) l c))) (fun i _ => 16 - (intOf i).toNat)
        case atStart => exact ⟨0, Nat.zero_le _, rfl, (Below.refl _ _).alloc (Nat.le_refl _) _, (Row.made _ (.bool false) 16 4).congr (fun _ _ => rfl)⟩
        case round =>
          obtain ⟨l, hl16, rfl, hbl, hr⟩ := hrel
          by_cases hlt : l < 16
          · obtain ⟨ad, rfl, hab, hc⟩ := D.at_ hlt
            have h1 := (hbl.cell (p := ad.add l) (by rw [block_add]; exact hab)).trans (hc l hlt)
            have hz : (l : Int) < 16 := by omega
            obtain ⟨q, hq, lq⟩ : ∃ q, timesN (2) l = q ∧ q < 16 := ⟨_, rfl, timesN_lt _ _⟩
            have CL := Lib.hid (fun x y (hx : x = 2 * ((l : Int) % 4)) (hy : y = 2 * ((l : Int) / 4)) w => c_lcell x y q (by rw [hx, hy]; exact hq) w)
            have iq : (q : Int) < 16 := by omega
            have h3 := hr.cell lq
            have h4 := hr.frozen q
            obtain ⟨d, hd⟩ : ∃ d, (trB k X Y m) l = d := ⟨_, rfl⟩
            have R := hr.set q (.bool true)
            have HD := Lib.hid hd
            rw [hd] at h1
            have HQ := Lib.hid hq
            have HR := Lib.hid R
            have HR0 := Lib.hid hr
            clear hc hr R hd hq
            cases d with
            | true =>
              go_wp2_with (go_at_call 19; refine (CL.out _ _ (by first | rfl | omega | exact e1) (by first | rfl | omega | exact e2) _).mono ?_; rintro e w' ⟨rfl, rfl⟩)
              go_roundw
              case rel => exact ⟨l + 1, by omega, by go_num, hbl.setCell (Nat.le_refl _) _, HR.out.congr (fun c _ => by rw [imgB_yes HD.out, HQ.out]; by_cases e : c = q <;> simp [e])⟩
              case measure => simp [intOf]; omega
            | false =>
              go_wp2
              go_roundw
              case rel => exact ⟨l + 1, by omega, by go_num, hbl, HR0.out.congr (fun c _ => by rw [imgB_no HD.out])⟩
              case measure => simp [intOf]; omega
          · have e : l = 16 := by omega
            have hA := hA.step hbl
            have D := D.step hbl
            have F := F.step hbl
            have B := below_seq B hbl
            have Z := (hr.congr (f' := fun c => .bool (imgB 2 (trB k X Y m) 16 c)) (fun c _ => by rw [e])).rd hr.lt
            go_wp2
            go_ret
            exact ⟨rfl, B⟩
    | false =>
      rw [show len16 false = 0 from rfl] at D E hl ⊢
      go_wp2_with fail
      refine (c_flags_yes _ _ 0 _ _ (trB k X Y m) (trB k X Y m) _ hl D E (fun _ _ => rfl)).mono ?_
      rintro e w7' ⟨rfl, m7, rfl⟩
      have D := D.dr m7
      have E := E.dr m7
      have B := below_drewN B m7
      generalize w2.drewN m7 = w7 at D E B ⊢
      go_wp2_with fail
      refine (c_flags_yes _ _ 0 _ _ (trB k X Y m) (trB k X Y m) _ hl D E (fun _ _ => rfl)).mono ?_
      rintro e w8' ⟨rfl, m8, rfl⟩
      have D := D.dr m8
      have E := E.dr m8
      have B := below_drewN B m8
      generalize w7.drewN m8 = w8 at D E B ⊢
      go_wp2
      go_ret
      exact ⟨rfl, B⟩
  · go_enter Try.func3, Try.ntmps3
    go_wp2
    go_ret
    exact ⟨rfl, Below.refl _ _⟩
end Go.Proofs.Ytiibfjdjccofdaa
