/-
  The laws on transforms of beams of drawn weights and coverages; uniform weights.
-/
import Derived.Test.YtiicfobjpklmkaaLawA6
namespace Go.Proofs.Ytiicfobjpklmkaa
open Go.RowKit

set_option maxHeartbeats 2000000 in
theorem l_FnWeightBeamTransform (A : Option Addr) (n c : Nat) (f : Nat → Int) (w : World) (h0 : Rd w w.heap.size A n (fun k => .int .u8 (f k))) (hb : ∀ i, 0 ≤ f i ∧ f i ≤ 255) (hnc : n ≤ c) :
    Calls Try.prog 11 #[.slice A n c] w fun e w' => e = .returned (.bool true) ∧ Below w.heap.size w w' := by
  by_cases hn : n ≤ 1048576
  · go_enter Try.func11, Try.ntmps11
    go_wp2_with fail
    refine (c_DrawWeightBeam A n c f _ hn hnc ⟨h0, hb⟩).mono ?_
    rintro e w1 ⟨v, rfl, hd, hB⟩
    obtain ⟨A1, m, c1, G, rfl, hm, hd1⟩ := hd.open_
    clear hd h0 hb
    go_wp2_with fail
    refine (c_WeightBeam A1 m c1 G _ (by omega) hd1).mono ?_
    rintro e w2 ⟨A2, c2, rfl, hb2, hm2⟩
    go_wp2_with fail
    refine (c_sWeightBeam A1 m c1 G _ (by omega) (hd1.step hb2)).mono ?_
    rintro e w3 ⟨A3, c3, rfl, hb3, hm3⟩
    have hm2' := hm2.step hb3
    have B3 := below_seq (below_seq hB hb2) hb3
    have hd3 := (hd1.step hb2).step hb3
    have hl := len16_le (wvB m G)
    have he : eqN (len16 (wvB m G)) (len16 (wvB m G)) (beam G) (beam G) = true := eqN_good fun _ _ => rfl
    clear hm2 hd1 hB hb2 hb3
    by_cases hv : wvB m G = true
    · obtain ⟨hm16, hok⟩ := wvB_true hv
      subst hm16
      rw [hv] at hm2' hm3 hl he ⊢
      rw [show len16 true = 16 from rfl] at hm2' hm3 hl he ⊢
      go_wp2_with fail
      refine (c_sameInts _ _ _ _ _ _ (beam G) (beam G) _ hl hl hm2'.rd hm3.rd).mono ?_
      rintro e w4 ⟨rfl, m4, rfl⟩
      have hf : ∀ k, k < 16 → 0 ≤ G k ∧ G k ≤ 100 := fun k hk => ⟨(wok_bd (hok k hk)).1, (wok_bd (hok k hk)).2.1⟩
      have hsym : ∀ k, k < 16 → G (oppN k) = G k := fun k hk => (wok_bd (hok k hk)).2.2.symm
      have h4 : Rd (w3.drewN m4) (w3.drewN m4).heap.size A2 16 (fun k => .int .i64 (beam G k)) := hm2'.rd
      go_wp2_with fail
      refine (c_SkyTransform A2 c2 (beam G) _ (beam_small hf) h4).mono ?_
      rintro e w5 ⟨g5, rfl, hb5, hg5, hr5⟩
      have hr5' : Row w5 g5 47 (16 * 2) (flat (fun k => 16 * G k) (fun _ => 0)) := hr5.congr (flat_congr (fun k hk => by rw [beam_beam G hk, hsym k hk]; omega) (fun k hk => beam_beamI G hk))
      have hd5 : Rd w5 w5.heap.size A1 16 (fun k => .int .i64 (G k)) := Rd.step (w := w3.drewN m4) hd3 hb5
      have B5 : Below w.heap.size w w5 := below_seq (below_drewN B3 m4) hb5
      have HF := Lib.hid hf
      clear hr5 hb5 hg5 hd3 hm2' hm3 h4 hsym hok hf hv
      go_wp2
      go_loopw [10] (fun i wr => ∃ k : Nat, k ≤ 16 ∧ i = .int .i64 k ∧ Below w5.heap.size w5 wr) (fun i _ => 16 - (intOf i).toNat)
      case atStart => exact ⟨0, Nat.zero_le _, rfl, Below.refl _ _⟩
      case round =>
        obtain ⟨k, hk, rfl, hbr⟩ := hrel
        by_cases hlt : k < 16
        · have hR := hr5'.step hbr
          have h1 : wr.cell? ⟨g5, k * 2, none⟩ = some (.int .i64 (16 * G k)) := by rw [hR.cell (by omega), flat_even]
          have h2 : wr.cell? ⟨g5, k * 2 + 1, none⟩ = some (.int .i64 0) := by rw [hR.cell (by omega), flat_odd]
          obtain ⟨ad, rfl, hab, hc⟩ := (hd5.step hbr).at_ hlt
          have h3 : wr.cell? (ad.add k) = some (.int .i64 (G k)) := hc k hlt
          have z1 : (k : Int) < 16 := by omega
          have g1 := (HF.out k hlt).1
          have g2 := (HF.out k hlt).2
          have l1 : g5 < wr.heap.size := hR.lt
          have l2 : (ad.add k).block < wr.heap.size := by rw [block_add]; exact hab
          have e1 : IntKind.i64.wrap (16 * G k) = 16 * G k := IntWalk.i64_in _ (by omega)
          have E1 := Lib.hid e1
          clear hR hc hd5 hr5' e1
          go_wp2
          have e1 := E1.out
          go_region_held3 (fun w' => w'.cell? ⟨g5, k * 2, none⟩ = some (.int .i64 (16 * G k)) ∧ w'.cell? ⟨g5, k * 2 + 1, none⟩ = some (.int .i64 0) ∧ w'.cell? (ad.add k) = some (.int .i64 (G k)))
            (first | exact ⟨h1, h2, h3⟩ | exact ⟨(hB1.cell (p := ⟨g5, k * 2, none⟩) l1).trans h1, (hB1.cell (p := ⟨g5, k * 2 + 1, none⟩) l1).trans h2, (hB1.cell l2).trans h3⟩)
            (first | (go_at_call 39; refine (c_gauss _ _ _).mono ?_; rintro e w6 ⟨rfl, hb6⟩; have hB1 : Below wr.heap.size wr w6 := ⟨hb6.os, hb6.tape, hb6.output, hb6.size, hb6.block⟩; clear hb6))
          clear e1
          go_wp2
          go_roundw
          case rel => exact ⟨k + 1, by omega, by go_num, below_seq hbr hB1⟩
          case measure => simp [intOf]; omega
        · go_wp2
          go_ret
          exact ⟨rfl, below_seq B5 hbr⟩
    · have hv' : wvB m G = false := by simpa using hv
      clear hv
      rw [hv'] at hm2' hm3 hl he ⊢
      go_wp2_with fail
      refine (c_sameInts _ _ _ _ _ _ (beam G) (beam G) _ hl hl hm2'.rd hm3.rd).mono ?_
      rintro e w4 ⟨rfl, m4, rfl⟩
      have r2 : Rd (w3.drewN m4) (w3.drewN m4).heap.size A2 _ _ := hm2'.rd
      have r3 : Rd (w3.drewN m4) (w3.drewN m4).heap.size A3 _ _ := hm3.rd
      go_wp2_with fail
      refine (c_sameInts _ _ _ _ _ _ (beam G) (beam G) _ hl hl r2 r3).mono ?_
      rintro e w5 ⟨rfl, m5, rfl⟩
      go_wp2
      go_ret
      exact ⟨rfl, by rw [← World.drewN_drewN]; exact below_drewN (below_drewN B3 m4) m5⟩
  · go_enter Try.func11, Try.ntmps11
    go_wp2
    go_ret
    exact ⟨rfl, Below.refl _ _⟩
end Go.Proofs.Ytiicfobjpklmkaa
