/-
  Laws over drawn arrays: baselines cover cells; fewer antennas.
-/
import Derived.Test.YtiibfjdjccofdaaLwLib
namespace Go.Proofs.Ytiibfjdjccofdaa
open Go.RowKit Go.Deep

set_option maxHeartbeats 2000000 in
theorem l_FnCoverOf (A : Option Addr) (n c : Nat) (f : Nat → Int) (A' : Option Addr) (n' c' : Nat) (f' : Nat → Int) (w : World) (h0 : Rd w w.heap.size A n (fun k => .int .u8 (f k))) (hb : ∀ i, 0 ≤ f i ∧ f i ≤ 255) (hnc : n ≤ c) (_h0' : Rd w w.heap.size A' n' (fun k => .int .u8 (f' k))) (_hb' : ∀ i, 0 ≤ f' i ∧ f' i ≤ 255) (_hnc' : n' ≤ c') :
    Calls Try.prog 14 #[.slice A n c, .slice A' n' c'] w fun e w' => e = .returned (.bool true) ∧ Below w.heap.size w w' := by
  clear _h0' _hb' _hnc'
  by_cases hn' : n' ≤ 1048576
  case neg =>
    by_cases hn : n ≤ 1048576
    all_goals
      go_enter Try.func14, Try.ntmps14
      go_wp2
      go_ret
      exact ⟨rfl, Below.refl _ _⟩
  by_cases hn : n ≤ 1048576
  · go_enter Try.func14, Try.ntmps14
    go_wp2_with fail
    refine (c_DrawCoverOf A n c f _ hn hnc ⟨h0, hb⟩).mono ?_
    rintro e w0 ⟨v, rfl, ⟨b, m, cc, X, Y, hbb, rfl, h1, h6, hcc, hR⟩, B⟩
    have hA : RdA w0 w0.heap.size (some ⟨b, 0, none⟩) m X Y := hR.rd hR.lt
    clear hR h0 hb hbb
    go_wp2_with fail
    refine (c_CoverOf (some ⟨b, 0, none⟩) m cc X Y _ (by omega) hcc hA).mono ?_
    rintro e w1 ⟨A1, c1, rfl, b1, M1⟩
    have hA := hA.step b1
    have B := below_seq B b1
    have D := M1.rd
    go_wp2_with fail
    refine (c_sCoverOf (some ⟨b, 0, none⟩) m cc X Y _ (by omega) hA).mono ?_
    rintro e w2 ⟨A2, c2, rfl, b2, M2⟩
    have hA := hA.step b2
    have D := D.step b2
    have B := below_seq B b2
    have E := M2.rd
    have hl := len16_le (avB X Y m)
    have hqq : (avB X Y m == avB X Y m) = true := by simp
    obtain ⟨ok, hok⟩ : ∃ ok, avB X Y m = ok := ⟨_, rfl⟩
    rw [hok] at D E hl hqq ⊢
    cases ok with
    | true =>
      rw [show len16 true = 16 from rfl] at D E hl ⊢
      go_wp2_with fail
      refine (c_flags_yes _ _ 16 _ _ (trB 1 X Y m) (trB 1 X Y m) _ hl D E (fun _ _ => rfl)).mono ?_
      rintro e w3' ⟨rfl, m3, rfl⟩
      have hA := hA.dr m3
      have D := D.dr m3
      have E := E.dr m3
      have B := below_drewN B m3
      generalize w2.drewN m3 = w3 at hA D E B ⊢
      have hv := hok
      obtain ⟨⟨h2, h7⟩, hXY, -⟩ := avB_true hv
      have HXY := Lib.hid hXY
      clear hXY hok E hqq hl
      obtain ⟨I, eI, hI⟩ : ∃ I : Nat, n' % m = I ∧ I < m := ⟨_, rfl, Nat.mod_lt _ (by omega)⟩
      obtain ⟨J, eJ, hJ⟩ : ∃ J : Nat, (I + 1) % m = J ∧ J < m := ⟨_, rfl, Nat.mod_lt _ (by omega)⟩
      have hne := next_ne h2 hI eJ
      have EI : (n' : Int) % (m : Int) = (I : Int) := by rw [← eI]; simp
      have EJ : ((I : Int) + 1) % (m : Int) = (J : Int) := by rw [← eJ]; simp
      clear eI eJ
      have hm0 : (m : Int) ≠ 0 := by omega
      have CB := fun w (h : RdA w w.heap.size (some ⟨b, 0, none⟩) m X Y) => c_BaseVector ⟨b, 0, none⟩ m cc X Y I J w hcc hv hI hJ h
      have CB := Lib.hid CB
      go_wp2_with fail
      refine (CB.out _ hA).mono ?_
      rintro e w4 ⟨rfl, b4⟩
      have hA := hA.step b4
      have D := D.step b4
      have B := below_seq B b4
      go_wp2_with fail
      have BA : Below w4.heap.size w4 (w4.alloc (.cells #[.int .i64 (X J - X I), .int .i64 (Y J - Y I)] 48)) := (Below.refl _ _).alloc (Nat.le_refl _) _
      have q1 : (w4.alloc (.cells #[.int .i64 (X J - X I), .int .i64 (Y J - Y I)] 48)).cell? ⟨w4.heap.size, 0, none⟩ = some (.int .i64 (X J - X I)) := by simp
      have q2 : (w4.alloc (.cells #[.int .i64 (X J - X I), .int .i64 (Y J - Y I)] 48)).cell? ⟨w4.heap.size, 1, none⟩ = some (.int .i64 (Y J - Y I)) := by simp
      have hA := hA.step BA
      have D := D.step BA
      have B := below_seq B BA
      generalize w4.alloc (.cells #[.int .i64 (X J - X I), .int .i64 (Y J - Y I)] 48) = w5 at q1 q2 hA D B ⊢
      clear BA
      obtain ⟨bm, hbm, hbm2⟩ : ∃ bm : Nat, m * (m - 1) / 2 = bm ∧ bm ≤ 21 := ⟨_, rfl, base_bd h2 h7⟩
      have hcm := cmany_tr 1 X Y h7
      rw [hbm] at hcm
      have hcb := cmany_bd (trB 1 X Y m)
      have CV := Lib.hid (fun i => c_valid_tr A1 c1 1 X Y m (w5.drewN i) (D.dr i))
      have CM := Lib.hid (fun i => c_many_tr A1 c1 1 X Y m (w5.drewN i) (D.dr i))
      have CBM := Lib.hid (fun w => c_BaseMany m h2 h7 w)
      rw [hbm] at CBM
      obtain ⟨q, hq, lq⟩ : ∃ q, cellN (X J - X I) (Y J - Y I) = q ∧ q < 16 := ⟨_, rfl, cellN_lt _ _⟩
      have ht : trB 1 X Y m q = true := trB_iff.2 ⟨I, J, hI, hJ, hne, by rw [← hq, cellK, Int.one_mul, Int.one_mul]⟩
      have CL := Lib.hid (fun w => c_lcell (X J - X I) (Y J - Y I) q hq w)
      obtain ⟨ad, rfl, had, hc⟩ := D.at_ lq
      have q3 := hc q lq
      rw [ht] at q3
      have iq : (q : Int) < 16 := by omega
      generalize cmany (trB 1 X Y m) = CC at hcm hcb CM
      obtain ⟨hcb1, hcb2⟩ := hcb
      clear hc ht hq hbm hA HXY hne CB EI EJ
      refine (CV.out 0).mono ?_
      rintro e w' ⟨rfl, m8, rfl⟩
      go_wp2_with (go_at_call 19; refine (CL.out _).mono ?_; rintro e w' ⟨rfl, rfl⟩)
      refine (CM.out _).mono ?_
      rintro e w' ⟨rfl, m9, rfl⟩
      go_wp2_with (go_at_call 42; refine (CBM.out _).mono ?_; rintro e w' ⟨rfl, rfl⟩)
      go_ret
      exact ⟨ret_bool (by first | (simp; done) | (simp; omega)), below_drewN B _⟩
    | false =>
      rw [show len16 false = 0 from rfl] at D E hl ⊢
      go_wp2_with fail
      refine (c_flags_yes _ _ 0 _ _ (trB 1 X Y m) (trB 1 X Y m) _ hl D E (fun _ _ => rfl)).mono ?_
      rintro e w6' ⟨rfl, m6, rfl⟩
      have D := D.dr m6
      have E := E.dr m6
      have B := below_drewN B m6
      generalize w2.drewN m6 = w6 at D E B ⊢
      go_wp2_with fail
      refine (c_flags_yes _ _ 0 _ _ (trB 1 X Y m) (trB 1 X Y m) _ hl D E (fun _ _ => rfl)).mono ?_
      rintro e w7' ⟨rfl, m7, rfl⟩
      have D := D.dr m7
      have E := E.dr m7
      have B := below_drewN B m7
      generalize w6.drewN m7 = w7 at D E B ⊢
      go_wp2
      go_ret
      exact ⟨rfl, B⟩
  · go_enter Try.func14, Try.ntmps14
    go_wp2
    go_ret
    exact ⟨rfl, Below.refl _ _⟩
set_option maxHeartbeats 2000000 in
theorem l_FnCoverOfLess (A : Option Addr) (n c : Nat) (f : Nat → Int) (w : World) (h0 : Rd w w.heap.size A n (fun k => .int .u8 (f k))) (hb : ∀ i, 0 ≤ f i ∧ f i ≤ 255) (hnc : n ≤ c) :
    Calls Try.prog 12 #[.slice A n c] w fun e w' => e = .returned (.bool true) ∧ Below w.heap.size w w' := by
  by_cases hn : n ≤ 1048576
  · go_enter Try.func12, Try.ntmps12
    go_wp2_with fail
    refine (c_DrawCoverOf A n c f _ hn hnc ⟨h0, hb⟩).mono ?_
    rintro e w0 ⟨v, rfl, ⟨b, m, cc, X, Y, hbb, rfl, h1, h6, hcc, hR⟩, B⟩
    have hA : RdA w0 w0.heap.size (some ⟨b, 0, none⟩) m X Y := hR.rd hR.lt
    clear hR h0 hb hbb
    go_wp2_with fail
    refine (c_CoverOf (some ⟨b, 0, none⟩) m cc X Y _ (by omega) hcc hA).mono ?_
    rintro e w1 ⟨A1, c1, rfl, b1, M1⟩
    have hA := hA.step b1
    have B := below_seq B b1
    have D := M1.rd
    go_wp2_with fail
    refine (c_sCoverOf (some ⟨b, 0, none⟩) m cc X Y _ (by omega) hA).mono ?_
    rintro e w2 ⟨A2, c2, rfl, b2, M2⟩
    have hA := hA.step b2
    have D := D.step b2
    have B := below_seq B b2
    have E := M2.rd
    have hl := len16_le (avB X Y m)
    have hqq : (avB X Y m == avB X Y m) = true := by simp
    obtain ⟨ok, hok⟩ : ∃ ok, avB X Y m = ok := ⟨_, rfl⟩
    rw [hok] at D E hl hqq ⊢
    cases ok with
    | true =>
      rw [show len16 true = 16 from rfl] at D E hl ⊢
      go_wp2_with fail
      refine (c_flags_yes _ _ 16 _ _ (trB 1 X Y m) (trB 1 X Y m) _ hl D E (fun _ _ => rfl)).mono ?_
      rintro e w3' ⟨rfl, m3, rfl⟩
      have hA := hA.dr m3
      have D := D.dr m3
      have E := E.dr m3
      have B := below_drewN B m3
      generalize w2.drewN m3 = w3 at hA D E B ⊢
      have hv := hok
      obtain ⟨⟨h2, h7⟩, hXY, -⟩ := avB_true hv
      have HXY := Lib.hid hXY
      clear hXY hok E hqq hl
      have hA1 : RdA w3 w3.heap.size (some ⟨b, 0, none⟩) (m - 1) X Y := hA.less (by omega)
      have hz1 : ((m - 1 : Nat) : Int) = (m : Int) - 1 := by omega
      by_cases m2 : m = 2
      · subst m2
        have C := c_CoverOf (some ⟨b, 0, none⟩) 1 cc X Y w3 (by omega) (by omega) hA1
        rw [avB_len (n := 1) (.inl (by omega))] at C
        go_wp2_with fail
        refine C.mono ?_
        rintro e w4 ⟨A4, c4, rfl, b4, M4⟩
        have hA := hA.step b4
        have D := D.step b4
        have hA1 := hA1.step b4
        have B := below_seq B b4
        have F := M4.rd
        clear C
        rw [show len16 false = 0 from rfl] at F ⊢
        have C := c_CoverJoin A1 A4 16 0 c1 c4 (trB 1 X Y 2) (trB 1 X Y 1) w4 (by omega) (by omega) D F
        rw [cv_tr, cvB_len (by omega)] at C
        go_wp2_with fail
        refine C.mono ?_
        rintro e w5 ⟨A5, c5, rfl, b5, M5⟩
        have hA := hA.step b5
        have D := D.step b5
        have hA1 := hA1.step b5
        have F := F.step b5
        have B := below_seq B b5
        have H := M5.rd
        clear C
        rw [show len16 (true && false) = 0 from rfl] at H ⊢
        have CM := c_many_tr A1 c1 1 X Y 2 w5 D
        have hcm := cmany_tr 1 X Y (n := 2) (by omega)
        have hcb := cmany_bd (trB 1 X Y 2)
        have hcm : cmany (trB 1 X Y 2) ≤ 2 := by simpa using hcm
        generalize cmany (trB 1 X Y 2) = CC at hcm hcb CM
        obtain ⟨hcb1, hcb2⟩ := hcb
        go_wp2_with fail
        refine (CM).mono ?_
        rintro e w6' ⟨rfl, m6, rfl⟩
        have hA := hA.dr m6
        have D := D.dr m6
        have hA1 := hA1.dr m6
        have F := F.dr m6
        have H := H.dr m6
        have B := below_drewN B m6
        generalize w5.drewN m6 = w6 at hA D hA1 F H B ⊢
        go_wp2
        go_ret
        exact ⟨rfl, B⟩
      · have m3 : 3 ≤ m := by omega
        have hv1 : avB X Y (m - 1) = true := av_less hv (by omega) (by omega)
        have C := c_CoverOf (some ⟨b, 0, none⟩) (m - 1) cc X Y w3 (by omega) (by omega) hA1
        rw [hv1] at C
        go_wp2_with fail
        refine C.mono ?_
        rintro e w7 ⟨A7, c7, rfl, b7, M7⟩
        have hA := hA.step b7
        have D := D.step b7
        have hA1 := hA1.step b7
        have B := below_seq B b7
        have F := M7.rd
        clear C
        rw [show len16 true = 16 from rfl] at F ⊢
        have C := c_CoverJoin A1 A7 16 16 c1 c7 (trB 1 X Y m) (trB 1 X Y (m - 1)) w7 (by omega) (by omega) D F
        rw [cv_tr, cv_tr] at C
        go_wp2_with fail
        refine C.mono ?_
        rintro e w8 ⟨A8, c8, rfl, b8, M8⟩
        have hA := hA.step b8
        have D := D.step b8
        have hA1 := hA1.step b8
        have F := F.step b8
        have B := below_seq B b8
        have H := M8.rd
        clear C
        rw [show len16 (true && true) = 16 from rfl] at H ⊢
        go_wp2_with fail
        refine (c_flags_yes _ _ 16 _ _ (fun k => trB 1 X Y m k || trB 1 X Y (m - 1) k) (trB 1 X Y m) _ (by omega) H D (fun k _ => less_join 1 X Y m k)).mono ?_
        rintro e w9' ⟨rfl, m9, rfl⟩
        have hA := hA.dr m9
        have D := D.dr m9
        have hA1 := hA1.dr m9
        have F := F.dr m9
        have H := H.dr m9
        have B := below_drewN B m9
        generalize w8.drewN m9 = w9 at hA D hA1 F H B ⊢
        go_wp2
        go_ret
        exact ⟨rfl, B⟩
    | false =>
      rw [show len16 false = 0 from rfl] at D E hl ⊢
      go_wp2_with fail
      refine (c_flags_yes _ _ 0 _ _ (trB 1 X Y m) (trB 1 X Y m) _ hl D E (fun _ _ => rfl)).mono ?_
      rintro e w10' ⟨rfl, m10, rfl⟩
      have D := D.dr m10
      have E := E.dr m10
      have B := below_drewN B m10
      generalize w2.drewN m10 = w10 at D E B ⊢
      go_wp2_with fail
      refine (c_flags_yes _ _ 0 _ _ (trB 1 X Y m) (trB 1 X Y m) _ hl D E (fun _ _ => rfl)).mono ?_
      rintro e w11' ⟨rfl, m11, rfl⟩
      have D := D.dr m11
      have E := E.dr m11
      have B := below_drewN B m11
      generalize w10.drewN m11 = w11 at D E B ⊢
      go_wp2
      go_ret
      exact ⟨rfl, B⟩
  · go_enter Try.func12, Try.ntmps12
    go_wp2
    go_ret
    exact ⟨rfl, Below.refl _ _⟩
end Go.Proofs.Ytiibfjdjccofdaa
