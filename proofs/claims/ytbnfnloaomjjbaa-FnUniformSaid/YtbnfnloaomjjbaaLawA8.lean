/-
  More laws on transforms of beams of drawn weights and coverages; uniform weights.
-/
import Derived.Test.YtbnfnloaomjjbaaLawA7
import Derived.Deep.DeepCutAuto
namespace Go.Proofs.Ytbnfnloaomjjbaa
open Go.RowKit

set_option maxHeartbeats 2000000 in
theorem l_FnBeamTransform (A : Option Addr) (n c : Nat) (f : Nat → Int) (w : World) (h0 : Rd w w.heap.size A n (fun k => .int .u8 (f k))) (hb : ∀ i, 0 ≤ f i ∧ f i ≤ 255) (hnc : n ≤ c) :
    Calls Try.prog 3 #[.slice A n c] w fun e w' => e = .returned (.bool true) ∧ Below w.heap.size w w' := by
  by_cases hn : n ≤ 1048576
  · go_enter Try.func3, Try.ntmps3
    go_wp2_with fail
    refine (c_DrawBeamOf A n c f _ hn hnc ⟨h0, hb⟩).mono ?_
    rintro e w1 ⟨v, rfl, hd, hB⟩
    obtain ⟨A1, m, c1, G, rfl, hm, hd1⟩ := hd.open_
    clear hd h0 hb
    go_wp2_with fail
    refine (c_BeamOf A1 m c1 G _ (by omega) hd1).mono ?_
    rintro e w2 ⟨A2, c2, rfl, hb2, hm2⟩
    go_wp2_with fail
    refine (c_sBeamOf A1 m c1 G _ (by omega) (hd1.step hb2)).mono ?_
    rintro e w3 ⟨A3, c3, rfl, hb3, hm3⟩
    have hm2' := hm2.step hb3
    have B3 := below_seq (below_seq hB hb2) hb3
    have hd3 := (hd1.step hb2).step hb3
    have hl := len16_le (cvB m G)
    have he : eqN (len16 (cvB m G)) (len16 (cvB m G)) (beam (uni G)) (beam (uni G)) = true := eqN_good fun _ _ => rfl
    clear hm2 hd1 hB hb2 hb3
    by_cases hv : cvB m G = true
    · obtain ⟨hm16, hok⟩ := cvB_true hv
      subst hm16
      rw [hv] at hm2' hm3 hl he ⊢
      rw [show len16 true = 16 from rfl] at hm2' hm3 hl he ⊢
      go_wp2_with fail
      refine (c_sameInts _ _ _ _ _ _ (beam (uni G)) (beam (uni G)) _ hl hl hm2'.rd hm3.rd).mono ?_
      rintro e w4 ⟨rfl, m4, rfl⟩
      have hsym : ∀ k, k < 16 → uni G (oppN k) = uni G k := fun k hk => by unfold uni; rw [hok k hk]
      have h4 : Rd (w3.drewN m4) (w3.drewN m4).heap.size A2 16 (fun k => .int .i64 (beam (uni G) k)) := hm2'.rd
      go_wp2_with fail
      refine (c_SkyTransform A2 c2 (beam (uni G)) _ (beam_small fun k _ => uni_bd G k) h4).mono ?_
      rintro e w5 ⟨g5, rfl, hb5, hg5, hr5⟩
      have hr5' : Row w5 g5 33 (16 * 2) (flat (fun k => 16 * uni G k) (fun _ => 0)) := hr5.congr (flat_congr (fun k hk => by rw [beam_beam (uni G) hk, hsym k hk]; omega) (fun k hk => beam_beamI (uni G) hk))
      have hd5 : Rd w5 w5.heap.size A1 16 (fun k => .bool (G k)) := Rd.step (w := w3.drewN m4) hd3 hb5
      have B5 : Below w.heap.size w w5 := below_seq (below_drewN B3 m4) hb5
      clear hr5 hb5 hg5 hd3 hm2' hm3 h4 hsym hok hv
      go_wp2
      go_loopw [10] (fun i wr => ∃ k : Nat, k ≤ 16 ∧ i = .int .i64 k ∧ Below w5.heap.size w5 wr) (fun i _ => 16 - (intOf i).toNat)
      case atStart => exact ⟨0, Nat.zero_le _, rfl, Below.refl _ _⟩
      case round =>
        obtain ⟨k, hk, rfl, hbr⟩ := hrel
        by_cases hlt : k < 16
        · have hR := hr5'.step hbr
          have h1 : wr.cell? ⟨g5, k * 2, none⟩ = some (.int .i64 (16 * uni G k)) := by rw [hR.cell (by omega), flat_even]
          have h2 : wr.cell? ⟨g5, k * 2 + 1, none⟩ = some (.int .i64 0) := by rw [hR.cell (by omega), flat_odd]
          obtain ⟨ad, rfl, hab, hc⟩ := (hd5.step hbr).at_ hlt
          have h3 : wr.cell? (ad.add k) = some (.bool (G k)) := hc k hlt
          have z1 : (k : Int) < 16 := by omega
          have l1 : g5 < wr.heap.size := hR.lt
          have l2 : (ad.add k).block < wr.heap.size := by rw [block_add]; exact hab
          clear hR hc hd5 hr5'
          go_upto_region 13 with (go_at_call 13; refine (c_gauss _ _ _).mono ?_; rintro e w6 ⟨rfl, hb6⟩)
          have hb6' : Below wr.heap.size wr w6 := ⟨hb6.os, hb6.tape, hb6.output, hb6.size, hb6.block⟩
          have B7 : Below wr.heap.size wr (w6.alloc (.cells #[.int .i64 0, .int .i64 0] 33)) := hb6'.alloc hb6'.size _
          have R7 : Row (w6.alloc (.cells #[.int .i64 0, .int .i64 0] 33)) w6.heap.size 33 2 (fun _ => .int .i64 0) := by
            refine ⟨_, heap_alloc_new w6 _, fun i hi => ?_⟩
            have : i = 0 ∨ i = 1 := by omega
            rcases this with rfl | rfl <;> rfl
          have hbn : wr.heap.size ≤ w6.heap.size := hb6'.size
          generalize w6.alloc (.cells #[.int .i64 0, .int .i64 0] 33) = w7 at B7 R7 ⊢
          generalize w6.heap.size = b at R7 hbn ⊢
          clear hb6 hb6'
          have h1' := h1
          have h2' := h2
          have h1 := (B7.cell (p := ⟨g5, k * 2, none⟩) l1).trans h1
          have h2 := (B7.cell (p := ⟨g5, k * 2 + 1, none⟩) l1).trans h2
          have h3 := (B7.cell l2).trans h3
          have s7 := B7.size
          have hbl := R7.lt
          cases hG : G k with
          | true =>
            have hu : uni G k = 1 := by simp [uni, hG]
            rw [hG] at h3
            rw [hu] at h1 h1'
            clear hu hG
            go_upto_region 15 with (go_at_call 13; refine (c_gauss _ _ _).mono ?_; rintro e w8 ⟨rfl, hb8⟩; have hb8' : Below w7.heap.size w7 w8 := ⟨hb8.os, hb8.tape, hb8.output, hb8.size, hb8.block⟩; have R8 := R7.step hb8'; have y1 := R8.cell (i := 0) (by omega); have y2 := R8.cell (i := 1) (by omega); have y3 := R8.frozen 0; have y4 := R8.frozen 1)
            have B8 := below_seq B7 hb8'
            have R9 := (R8.set 0 (.int .i64 16)).set 1 (.int .i64 0)
            have B9 : Below wr.heap.size wr ((w8.setCell ⟨b, 0, none⟩ (.int .i64 16)).setCell ⟨b, 1, none⟩ (.int .i64 0)) := (B8.setCell (p := ⟨b, 0, none⟩) hbn _).setCell (p := ⟨b, 1, none⟩) hbn _
            generalize (w8.setCell ⟨b, 0, none⟩ (.int .i64 16)).setCell ⟨b, 1, none⟩ (.int .i64 0) = w9 at R9 B9 ⊢
            clear y1 y2 y3 y4 h1 h2 h3
            have h1 : w9.cell? ⟨g5, k * 2, none⟩ = some (.int .i64 16) := (B9.cell (p := ⟨g5, k * 2, none⟩) l1).trans h1'
            have h2 := (B9.cell (p := ⟨g5, k * 2 + 1, none⟩) l1).trans h2'
            have y1 : w9.cell? ⟨b, 0, none⟩ = some (.int .i64 16) := by rw [R9.cell (by omega)]; rfl
            have y2 : w9.cell? ⟨b, 1, none⟩ = some (.int .i64 0) := by rw [R9.cell (by omega)]; rfl
            clear h1' h2' B8 R8 R7 B7 hb8 hb8' R9
            go_region
            go_wp2
            go_roundw
            case rel => exact ⟨k + 1, by omega, by go_num, below_seq hbr ⟨B9.os, B9.tape, B9.output, B9.size, B9.block⟩⟩
            case measure => simp [intOf]; omega
          | false =>
            have hu : uni G k = 0 := by simp [uni, hG]
            rw [hG] at h3
            rw [hu] at h1
            have y1 := R7.cell (i := 0) (by omega)
            have y2 := R7.cell (i := 1) (by omega)
            clear hu hG
            go_wp2
            go_region
            go_wp2
            go_roundw
            case rel => exact ⟨k + 1, by omega, by go_num, below_seq hbr ⟨B7.os, B7.tape, B7.output, B7.size, B7.block⟩⟩
            case measure => simp [intOf]; omega
        · go_wp2
          go_ret
          exact ⟨rfl, below_seq B5 hbr⟩
    · have hv' : cvB m G = false := by simpa using hv
      clear hv
      rw [hv'] at hm2' hm3 hl he ⊢
      go_wp2_with fail
      refine (c_sameInts _ _ _ _ _ _ (beam (uni G)) (beam (uni G)) _ hl hl hm2'.rd hm3.rd).mono ?_
      rintro e w4 ⟨rfl, m4, rfl⟩
      have r2 : Rd (w3.drewN m4) (w3.drewN m4).heap.size A2 _ _ := hm2'.rd
      have r3 : Rd (w3.drewN m4) (w3.drewN m4).heap.size A3 _ _ := hm3.rd
      go_wp2_with fail
      refine (c_sameInts _ _ _ _ _ _ (beam (uni G)) (beam (uni G)) _ hl hl r2 r3).mono ?_
      rintro e w5 ⟨rfl, m5, rfl⟩
      go_wp2
      go_ret
      exact ⟨rfl, by rw [← World.drewN_drewN]; exact below_drewN (below_drewN B3 m4) m5⟩
  · go_enter Try.func3, Try.ntmps3
    go_wp2
    go_ret
    exact ⟨rfl, Below.refl _ _⟩
set_option maxHeartbeats 2000000 in
theorem l_FnUniform (A : Option Addr) (n c : Nat) (f : Nat → Int) (w : World) (h0 : Rd w w.heap.size A n (fun k => .int .u8 (f k))) (hb : ∀ i, 0 ≤ f i ∧ f i ≤ 255) (hnc : n ≤ c) :
    Calls Try.prog 4 #[.slice A n c] w fun e w' => e = .returned (.bool true) ∧ Below w.heap.size w w' := by
  by_cases hn : n ≤ 1048576
  · go_enter Try.func4, Try.ntmps4
    go_wp2_with fail
    refine (c_DrawWeightUniform A n c f _ hn hnc ⟨h0, hb⟩).mono ?_
    rintro e w1 ⟨v, rfl, hd, hB⟩
    obtain ⟨A1, m, c1, G, rfl, hm, hd1⟩ := hd.open_
    clear hd h0 hb
    go_wp2_with fail
    refine (c_WeightUniform A1 m c1 G _ (by omega) hd1).mono ?_
    rintro e w2 ⟨A2, c2, rfl, hb2, hm2⟩
    go_wp2_with fail
    refine (c_sWeightUniform A1 m c1 G _ (by omega) (hd1.step hb2)).mono ?_
    rintro e w3 ⟨A3, c3, rfl, hb3, hm3⟩
    have hm2' := hm2.step hb3
    have B3 := below_seq (below_seq hB hb2) hb3
    have hd3 := (hd1.step hb2).step hb3
    have hl := len16_le (cvB m G)
    have he : eqN (len16 (cvB m G)) (len16 (cvB m G)) (uni G) (uni G) = true := eqN_good fun _ _ => rfl
    clear hm2 hd1 hB hb2 hb3
    by_cases hv : cvB m G = true
    · obtain ⟨hm16, hok⟩ := cvB_true hv
      subst hm16
      rw [hv] at hm2' hm3 hl he ⊢
      rw [show len16 true = 16 from rfl] at hm2' hm3 hl he ⊢
      go_wp2_with fail
      refine (c_sameInts _ _ _ _ _ _ (uni G) (uni G) _ hl hl hm2'.rd hm3.rd).mono ?_
      rintro e w4 ⟨rfl, m4, rfl⟩
      have D2 : Rd (w3.drewN m4) (w3.drewN m4).heap.size A2 16 (fun k => .int .i64 (uni G k)) := hm2'.rd
      have D1 : Rd (w3.drewN m4) (w3.drewN m4).heap.size A1 16 (fun k => .bool (G k)) := hd3
      have B4 := below_drewN B3 m4
      have wvu : wvB 16 (uni G) = true := wvB_good fun k hk => by
        have b := uni_bd G k
        have o : uni G (oppN k) = uni G k := by unfold uni; rw [hok k hk]
        simp [wok, inB, o, b.1, b.2]
      generalize w3.drewN m4 = w4 at D1 D2 B4 ⊢
      have C := c_WeightBeam A2 16 c2 (uni G) w4 (by omega) D2
      rw [wvu, show len16 true = 16 from rfl] at C
      go_wp2_with fail
      refine C.mono ?_
      rintro e w5 ⟨A5, c5, rfl, b5, M5⟩
      have D1 := D1.step b5
      have D2 := D2.step b5
      have B5 := below_seq B4 b5
      have E5 := M5.rd
      clear C M5 b5 B4
      have C := c_BeamOf A1 16 c1 G w5 (by omega) D1
      rw [hv, show len16 true = 16 from rfl] at C
      go_wp2_with fail
      refine C.mono ?_
      rintro e w6 ⟨A6, c6, rfl, b6, M6⟩
      have D1 := D1.step b6
      have D2 := D2.step b6
      have E5 := E5.step b6
      have B6 := below_seq B5 b6
      have E6 := M6.rd
      clear C M6 b6 B5
      have C := c_sameInts _ _ _ _ c5 c6 (beam (uni G)) (beam (uni G)) w6 (by omega) (by omega) E5 E6
      rw [eqN_good fun _ _ => rfl] at C
      go_wp2_with fail
      refine C.mono ?_
      rintro e w7' ⟨rfl, m7, rfl⟩
      have D1 : Rd (w6.drewN m7) (w6.drewN m7).heap.size A1 16 (fun k => .bool (G k)) := D1
      have D2 : Rd (w6.drewN m7) (w6.drewN m7).heap.size A2 16 (fun k => .int .i64 (uni G k)) := D2
      have B7 := below_drewN B6 m7
      clear C E5 E6
      generalize w6.drewN m7 = w7 at D1 D2 B7 ⊢
      have CV := fun mm => c_WeightValid A2 16 c2 (uni G) (w7.drewN mm) (by omega) D2
      rw [wvu] at CV
      have CS := fun mm => c_WeightSum A2 16 c2 (uni G) (w7.drewN mm) (by omega) D2
      rw [wsum, if_pos wvu] at CS
      have CM := fun mm => c_CoverMany A1 16 c1 G (w7.drewN mm) (by omega) D1
      rw [cmanyB, if_pos hv, cmany] at CM
      generalize sumN (uni G) 16 = z at CS CM
      have hzz : (z == z) = true := by simp
      go_wp2_with fail
      refine (CV 0).mono ?_
      rintro e w' ⟨rfl, m8, rfl⟩
      go_wp2_with fail
      refine (CS m8).mono ?_
      rintro e w' ⟨rfl, m9, rfl⟩
      go_wp2_with fail
      refine (CM (m8 + m9)).mono ?_
      rintro e w' ⟨rfl, m10, rfl⟩
      go_wp2
      go_ret
      exact ⟨rfl, below_drewN B7 _⟩
    · have hv' : cvB m G = false := by simpa using hv
      clear hv
      rw [hv'] at hm2' hm3 hl he ⊢
      go_wp2_with fail
      refine (c_sameInts _ _ _ _ _ _ (uni G) (uni G) _ hl hl hm2'.rd hm3.rd).mono ?_
      rintro e w4 ⟨rfl, m4, rfl⟩
      have r2 : Rd (w3.drewN m4) (w3.drewN m4).heap.size A2 _ _ := hm2'.rd
      have r3 : Rd (w3.drewN m4) (w3.drewN m4).heap.size A3 _ _ := hm3.rd
      go_wp2_with fail
      refine (c_sameInts _ _ _ _ _ _ (uni G) (uni G) _ hl hl r2 r3).mono ?_
      rintro e w5 ⟨rfl, m5, rfl⟩
      go_wp2
      go_ret
      exact ⟨rfl, by rw [← World.drewN_drewN]; exact below_drewN (below_drewN B3 m4) m5⟩
  · go_enter Try.func4, Try.ntmps4
    go_wp2
    go_ret
    exact ⟨rfl, Below.refl _ _⟩
end Go.Proofs.Ytbnfnloaomjjbaa
