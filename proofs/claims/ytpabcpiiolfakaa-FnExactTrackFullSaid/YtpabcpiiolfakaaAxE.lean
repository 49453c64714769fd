/-
  Channels, tracks: the program's answer is the reference's; the argument is left alone; the answer is a list of its own.
-/
import Derived.Test.YtpabcpiiolfakaaChan
import Derived.Test.YtpabcpiiolfakaaAxD
namespace Go.Proofs.Ytpabcpiiolfakaa
open Go.RowKit Go.Deep

set_option maxHeartbeats 2000000 in
theorem l_FnExactTrackChannels (A : Option Addr) (n c : Nat) (X Y : Nat → Int) (k : Int) (w : World) (h : RdA w w.heap.size A n X Y) (hm : n ≤ maxLen) :
    Calls Try.prog 8 #[.slice A n c, .int .i64 k] w fun e w' => e = .returned (.bool true) ∧ Below w.heap.size w w' := by
  have CS := c_szAntS A n c 1048576 w (by omega) (by omega) hm
  clear hm
  by_cases hn : n ≤ 1048576
  · rw [if_pos (by omega)] at CS
    have hz0 : (0 : Int) ≤ 1048576 - (n : Int) := by omega
    have hl := len16_le (tsOk X Y n k)
    have hqq : (tsOk X Y n k == tsOk X Y n k) = true := by simp
    have he : eqNB (len16 (tsOk X Y n k)) (len16 (tsOk X Y n k)) (chB X Y n k.toNat) (chB X Y n k.toNat) = true := eqNB_good fun _ _ => rfl
    have hea : (eqN n n X X && eqN n n Y Y) = true := by rw [eqN_good fun _ _ => rfl, eqN_good fun _ _ => rfl]; rfl
    have CS := Lib.hid CS
    go_enter Try.func8, Try.ntmps8
    go_wp2_with fail
    refine CS.out.mono ?_
    rintro e w0 ⟨rfl, rfl⟩
    go_wp2_with fail
    refine (c_toAntS A n c X Y _ hn h).mono ?_
    rintro e w1 ⟨rfl, hb1, hr1⟩
    go_wp2_with fail
    refine (c_sTrackChannels _ n n X Y k _ hn (hr1.rd hr1.lt)).mono ?_
    rintro e w2 ⟨A2, c2, rfl, hb2, hm2⟩
    have hd2 := hm2.rd
    have h2 := (h.step hb1).step hb2
    have B2 := below_seq hb1 hb2
    clear hm2 hr1
    go_wp2_with fail
    refine (c_toAntS A n c X Y _ hn h2).mono ?_
    rintro e w3 ⟨rfl, hb3, hr3⟩
    go_wp2_with fail
    refine (c_TrackChannels _ n n X Y k _ hn (Nat.le_refl _) (hr3.rd hr3.lt)).mono ?_
    rintro e w4 ⟨A4, c4, rfl, hb4, hm4⟩
    have C4 := below_seq hb3 hb4
    have hr4 := hr3.step hb4
    have lt3 := hr3.lt
    go_wp2_with fail
    refine (c_eqBoolS _ _ _ _ _ _ (chB X Y n k.toNat) (chB X Y n k.toNat) _ hl hl hm4.rd ((hd2.below C4).more C4.size)).mono ?_
    rintro e w5 ⟨rfl, m5, rfl⟩
    have C5 := below_drewN C4 m5
    have hm5 : Made (w4.drewN m5) _ _ _ _ _ := hm4
    have hr5 := hr4.drewN m5
    go_wp2_with fail
    refine (c_toAntS A n c X Y _ hn (h2.step C5)).mono ?_
    rintro e w6 ⟨rfl, hb6, hr6⟩
    have C6 := below_seq C5 hb6
    have hm6 := hm5.step hb6
    have hr7 := hr5.step hb6
    go_wp2_with fail
    refine (c_eqAntS _ _ _ _ _ _ X Y X Y _ hn hn (hr7.rd hr7.lt) (hr6.rd hr6.lt)).mono ?_
    rintro e w7 ⟨rfl, hb7⟩
    have C7 := below_seq C6 hb7
    have hm7 := hm6.step hb7
    have hr8 := hr7.step hb7
    go_wp2_with fail
    refine (c_markAntS w2.heap.size n n 1 (flat X Y) _ hn (by omega) hr8).mono ?_
    rintro e w8 ⟨rfl, ho8⟩
    have D8 := ho8.below (B := w2.heap.size) (fun ad e => by rw [some_at ad e]; exact Nat.le_refl _)
    have C8 := C7.trans D8
    have hm9 := hm7.only_lt ho8 (fun ad e => by rw [some_at ad e]; exact lt3)
    go_wp2_with fail
    refine (c_eqBoolS _ _ _ _ _ _ (chB X Y n k.toNat) (chB X Y n k.toNat) _ hl hl hm9.rd ((hd2.below C8).more C8.size)).mono ?_
    rintro e w9 ⟨rfl, m9, rfl⟩
    have C9 := below_drewN C8 m9
    have hm10 : Made (w8.drewN m9) _ _ _ _ _ := hm9
    go_wp2_with fail
    refine (c_markBoolS w3.heap.size _ _ _ 1 _ _ hl (by omega) hm10).mono ?_
    rintro e w10 ⟨rfl, ho10, hm11⟩
    have D10 := ho10.below (B := w2.heap.size) (fun ad e => by have := mark_from hm10 ad e; omega)
    have C10 := C9.trans D10
    go_wp2_with fail
    refine (c_heldBoolS _ _ _ 1 _ hl (by omega) hm11.rd).mono ?_
    rintro e w11 ⟨rfl, m11, rfl⟩
    have C11 := below_drewN C10 m11
    have hm12 : Made (w10.drewN m11) _ _ _ _ _ := hm11
    go_wp2_with fail
    refine (c_toAntS A n c X Y _ hn (h2.step C11)).mono ?_
    rintro e w12 ⟨rfl, hb12, hr12⟩
    have C12 := below_seq C11 hb12
    go_wp2_with fail
    refine (c_TrackChannels _ n n X Y k _ hn (Nat.le_refl _) (hr12.rd hr12.lt)).mono ?_
    rintro e w13 ⟨A13, c13, rfl, hb13, hm13⟩
    have C13 := below_seq C12 hb13
    have hm14 := (hm12.step hb12).step hb13
    go_wp2_with fail
    refine (c_eqBoolS _ _ _ _ _ _ (chB X Y n k.toNat) (chB X Y n k.toNat) _ hl hl hm13.rd ((hd2.below C13).more C13.size)).mono ?_
    rintro e w14 ⟨rfl, m14, rfl⟩
    have C14 := below_drewN C13 m14
    have hm15 : Made (w13.drewN m14) _ _ _ _ _ := hm14
    go_wp2_with fail
    refine (c_heldBoolS _ _ _ 1 _ hl (by omega) hm15.rd).mono ?_
    rintro e w15 ⟨rfl, m15, rfl⟩
    go_wp2
    go_ret
    exact ⟨rfl, by first | exact below_drewN (below_seq B2 C14) m15 | (rw [← World.drewN_drewN]; exact below_drewN (below_seq B2 C14) m15)⟩
  · rw [if_neg (by omega)] at CS
    have CS := Lib.hid CS
    go_enter Try.func8, Try.ntmps8
    go_wp2_with fail
    refine CS.out.mono ?_
    rintro e w0 ⟨rfl, rfl⟩
    go_wp2
    go_ret
    exact ⟨rfl, Below.refl _ _⟩
set_option maxHeartbeats 2000000 in
theorem l_FnExactTrackCover (A : Option Addr) (n c : Nat) (X Y : Nat → Int) (w : World) (h : RdA w w.heap.size A n X Y) (hm : n ≤ maxLen) :
    Calls Try.prog 11 #[.slice A n c] w fun e w' => e = .returned (.bool true) ∧ Below w.heap.size w w' := by
  have CS := c_szAntS A n c 1048576 w (by omega) (by omega) hm
  clear hm
  by_cases hn : n ≤ 1048576
  · rw [if_pos (by omega)] at CS
    have hz0 : (0 : Int) ≤ 1048576 - (n : Int) := by omega
    have hl := len16_le (avB X Y n)
    have hqq : (avB X Y n == avB X Y n) = true := by simp
    have he : eqNB (len16 (avB X Y n)) (len16 (avB X Y n)) (kvB X Y n) (kvB X Y n) = true := eqNB_good fun _ _ => rfl
    have hea : (eqN n n X X && eqN n n Y Y) = true := by rw [eqN_good fun _ _ => rfl, eqN_good fun _ _ => rfl]; rfl
    have CS := Lib.hid CS
    go_enter Try.func11, Try.ntmps11
    go_wp2_with fail
    refine CS.out.mono ?_
    rintro e w0 ⟨rfl, rfl⟩
    go_wp2_with fail
    refine (c_toAntS A n c X Y _ hn h).mono ?_
    rintro e w1 ⟨rfl, hb1, hr1⟩
    go_wp2_with fail
    refine (c_sTrackCover _ n n X Y _ hn (hr1.rd hr1.lt)).mono ?_
    rintro e w2 ⟨A2, c2, rfl, hb2, hm2⟩
    have hd2 := hm2.rd
    have h2 := (h.step hb1).step hb2
    have B2 := below_seq hb1 hb2
    clear hm2 hr1
    go_wp2_with fail
    refine (c_toAntS A n c X Y _ hn h2).mono ?_
    rintro e w3 ⟨rfl, hb3, hr3⟩
    go_wp2_with fail
    refine (c_TrackCover _ n n X Y _ hn (Nat.le_refl _) (hr3.rd hr3.lt)).mono ?_
    rintro e w4 ⟨A4, c4, rfl, hb4, hm4⟩
    have C4 := below_seq hb3 hb4
    have hr4 := hr3.step hb4
    have lt3 := hr3.lt
    go_wp2_with fail
    refine (c_eqBoolS _ _ _ _ _ _ (kvB X Y n) (kvB X Y n) _ hl hl hm4.rd ((hd2.below C4).more C4.size)).mono ?_
    rintro e w5 ⟨rfl, m5, rfl⟩
    have C5 := below_drewN C4 m5
    have hm5 : Made (w4.drewN m5) _ _ _ _ _ := hm4
    have hr5 := hr4.drewN m5
    go_wp2_with fail
    refine (c_toAntS A n c X Y _ hn (h2.step C5)).mono ?_
    rintro e w6 ⟨rfl, hb6, hr6⟩
    have C6 := below_seq C5 hb6
    have hm6 := hm5.step hb6
    have hr7 := hr5.step hb6
    go_wp2_with fail
    refine (c_eqAntS _ _ _ _ _ _ X Y X Y _ hn hn (hr7.rd hr7.lt) (hr6.rd hr6.lt)).mono ?_
    rintro e w7 ⟨rfl, hb7⟩
    have C7 := below_seq C6 hb7
    have hm7 := hm6.step hb7
    have hr8 := hr7.step hb7
    go_wp2_with fail
    refine (c_markAntS w2.heap.size n n 1 (flat X Y) _ hn (by omega) hr8).mono ?_
    rintro e w8 ⟨rfl, ho8⟩
    have D8 := ho8.below (B := w2.heap.size) (fun ad e => by rw [some_at ad e]; exact Nat.le_refl _)
    have C8 := C7.trans D8
    have hm9 := hm7.only_lt ho8 (fun ad e => by rw [some_at ad e]; exact lt3)
    go_wp2_with fail
    refine (c_eqBoolS _ _ _ _ _ _ (kvB X Y n) (kvB X Y n) _ hl hl hm9.rd ((hd2.below C8).more C8.size)).mono ?_
    rintro e w9 ⟨rfl, m9, rfl⟩
    have C9 := below_drewN C8 m9
    have hm10 : Made (w8.drewN m9) _ _ _ _ _ := hm9
    go_wp2_with fail
    refine (c_markBoolS w3.heap.size _ _ _ 1 _ _ hl (by omega) hm10).mono ?_
    rintro e w10 ⟨rfl, ho10, hm11⟩
    have D10 := ho10.below (B := w2.heap.size) (fun ad e => by have := mark_from hm10 ad e; omega)
    have C10 := C9.trans D10
    go_wp2_with fail
    refine (c_heldBoolS _ _ _ 1 _ hl (by omega) hm11.rd).mono ?_
    rintro e w11 ⟨rfl, m11, rfl⟩
    have C11 := below_drewN C10 m11
    have hm12 : Made (w10.drewN m11) _ _ _ _ _ := hm11
    go_wp2_with fail
    refine (c_toAntS A n c X Y _ hn (h2.step C11)).mono ?_
    rintro e w12 ⟨rfl, hb12, hr12⟩
    have C12 := below_seq C11 hb12
    go_wp2_with fail
    refine (c_TrackCover _ n n X Y _ hn (Nat.le_refl _) (hr12.rd hr12.lt)).mono ?_
    rintro e w13 ⟨A13, c13, rfl, hb13, hm13⟩
    have C13 := below_seq C12 hb13
    have hm14 := (hm12.step hb12).step hb13
    go_wp2_with fail
    refine (c_eqBoolS _ _ _ _ _ _ (kvB X Y n) (kvB X Y n) _ hl hl hm13.rd ((hd2.below C13).more C13.size)).mono ?_
    rintro e w14 ⟨rfl, m14, rfl⟩
    have C14 := below_drewN C13 m14
    have hm15 : Made (w13.drewN m14) _ _ _ _ _ := hm14
    go_wp2_with fail
    refine (c_heldBoolS _ _ _ 1 _ hl (by omega) hm15.rd).mono ?_
    rintro e w15 ⟨rfl, m15, rfl⟩
    go_wp2
    go_ret
    exact ⟨rfl, by first | exact below_drewN (below_seq B2 C14) m15 | (rw [← World.drewN_drewN]; exact below_drewN (below_seq B2 C14) m15)⟩
  · rw [if_neg (by omega)] at CS
    have CS := Lib.hid CS
    go_enter Try.func11, Try.ntmps11
    go_wp2_with fail
    refine CS.out.mono ?_
    rintro e w0 ⟨rfl, rfl⟩
    go_wp2
    go_ret
    exact ⟨rfl, Below.refl _ _⟩
set_option maxHeartbeats 2000000 in
theorem l_FnExactTrackFull (A : Option Addr) (n c : Nat) (X Y : Nat → Int) (w : World) (h : RdA w w.heap.size A n X Y) (hm : n ≤ maxLen) :
    Calls Try.prog 9 #[.slice A n c] w fun e w' => e = .returned (.bool true) ∧ Below w.heap.size w w' := by
  have CS := c_szAntS A n c 1048576 w (by omega) (by omega) hm
  clear hm
  by_cases hn : n ≤ 1048576
  · rw [if_pos (by omega)] at CS
    have hz0 : (0 : Int) ≤ 1048576 - (n : Int) := by omega
    have hqq : (tfB X Y n == tfB X Y n) = true := by simp
    have hea : (eqN n n X X && eqN n n Y Y) = true := by rw [eqN_good fun _ _ => rfl, eqN_good fun _ _ => rfl]; rfl
    have CS := Lib.hid CS
    go_enter Try.func9, Try.ntmps9
    go_wp2_with fail
    refine CS.out.mono ?_
    rintro e w0 ⟨rfl, rfl⟩
    go_wp2_with fail
    refine (c_toAntS A n c X Y _ hn h).mono ?_
    rintro e w1 ⟨rfl, hb1, hr1⟩
    go_wp2_with fail
    refine (c_sTrackFull _ n n X Y _ hn (hr1.rd hr1.lt)).mono ?_
    rintro e w2 ⟨rfl, hb2⟩
    have h2 := (h.step hb1).step hb2
    have B2 := below_seq hb1 hb2
    clear hr1
    go_wp2_with fail
    refine (c_toAntS A n c X Y _ hn h2).mono ?_
    rintro e w3 ⟨rfl, hb3, hr3⟩
    go_wp2_with fail
    refine (c_TrackFull _ n n X Y _ hn (Nat.le_refl _) (hr3.rd hr3.lt)).mono ?_
    rintro e w4 ⟨rfl, hb4⟩
    have C4 := below_seq hb3 hb4
    have hr4 := hr3.step hb4
    generalize tfB X Y n = TF at hqq ⊢
    go_wp2_with fail
    refine (c_toAntS A n c X Y _ hn (h2.step C4)).mono ?_
    rintro e w6 ⟨rfl, hb6, hr6⟩
    have C6 := below_seq C4 hb6
    have hr7 := hr4.step hb6
    go_wp2_with fail
    refine (c_eqAntS _ _ _ _ _ _ X Y X Y _ hn hn (hr7.rd hr7.lt) (hr6.rd hr6.lt)).mono ?_
    rintro e w7 ⟨rfl, hb7⟩
    go_wp2
    go_ret
    exact ⟨rfl, below_seq B2 (below_seq C6 hb7)⟩
  · rw [if_neg (by omega)] at CS
    have CS := Lib.hid CS
    go_enter Try.func9, Try.ntmps9
    go_wp2_with fail
    refine CS.out.mono ?_
    rintro e w0 ⟨rfl, rfl⟩
    go_wp2
    go_ret
    exact ⟨rfl, Below.refl _ _⟩
end Go.Proofs.Ytpabcpiiolfakaa
