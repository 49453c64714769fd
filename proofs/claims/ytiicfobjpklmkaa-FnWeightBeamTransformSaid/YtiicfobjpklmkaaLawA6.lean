/-
  The laws on beams of drawn weights and coverages: sums, greatest number, transforms, uniform weights.
-/
import Derived.Test.YtiicfobjpklmkaaSky
import Derived.Test.YtiicfobjpklmkaaDrawC
import Derived.Test.YtiicfobjpklmkaaDrawW
import Derived.WalkLawsBesides
namespace Go.Proofs.Ytiicfobjpklmkaa
open Go.RowKit

theorem add_at (b off k : Nat) : (⟨b, off, none⟩ : Addr).add k = ⟨b, off + k, none⟩ := by unfold Addr.add; split <;> simp_all
theorem DrawnI.open_ {M : Int} {B : Nat} {v : Value} {w : World} (h : DrawnI M B v w) : ∃ (A : Option Addr) (n c : Nat) (G : Nat → Int), v = .slice A n c ∧ n ≤ 16 ∧ Rd w w.heap.size A n (fun k => .int .i64 (G k)) := by
  obtain ⟨b, off, n, c, F, _, rfl, hn, _, hR, _⟩ := h
  exact ⟨_, n, c, fun k => F (off + k), rfl, hn, fun _ => ⟨_, rfl, hR.lt, fun k hk => by rw [add_at]; exact hR.cell (by omega)⟩⟩
theorem DrawnB.open_ {B : Nat} {v : Value} {w : World} (h : DrawnB B v w) : ∃ (A : Option Addr) (n c : Nat) (G : Nat → Bool), v = .slice A n c ∧ n ≤ 16 ∧ Rd w w.heap.size A n (fun k => .bool (G k)) := by
  obtain ⟨b, off, n, c, F, _, rfl, hn, _, hR⟩ := h
  exact ⟨_, n, c, fun k => F (off + k), rfl, hn, fun _ => ⟨_, rfl, hR.lt, fun k hk => by rw [add_at]; exact hR.cell (by omega)⟩⟩
theorem beam_small {f : Nat → Int} (h : ∀ k, k < 16 → 0 ≤ f k ∧ f k ≤ 100) : ∀ k, k < 16 → -100000 ≤ beam f k ∧ beam f k ≤ 100000 := fun k _ => by
  have h1 := beam_abs (fun k hk => (h k hk).1) k
  have h2 := sumN_bd (f := f) (M := 100) (n := 16) h 16 (by omega)
  omega

set_option maxHeartbeats 2000000 in
theorem l_FnBeamSum (A : Option Addr) (n c : Nat) (f : Nat → Int) (w : World) (h0 : Rd w w.heap.size A n (fun k => .int .u8 (f k))) (hb : ∀ i, 0 ≤ f i ∧ f i ≤ 255) (hnc : n ≤ c) :
    Calls Try.prog 13 #[.slice A n c] w fun e w' => e = .returned (.bool true) ∧ Below w.heap.size w w' := by
  by_cases hn : n ≤ 1048576
  · go_enter Try.func13, Try.ntmps13
    go_wp2_with fail
    refine (c_DrawBeamOf A n c f _ hn hnc ⟨h0, hb⟩).mono ?_
    rintro e w1 ⟨v, rfl, hd, hB⟩
    obtain ⟨A1, m, c1, G, rfl, hm, hd1⟩ := hd.open_
    clear hd h0 hb
    go_wp2_with fail
    refine (c_BeamOf A1 m c1 G _ (by omega) hd1).mono ?_
    rintro e w2 ⟨A2, c2, rfl, hb2, hm2⟩
    go_wp2_with fail
    refine (c_sBeamOf A1 m c1 G _ (by omega) (hd1.step hb2)).mono ?_
    rintro e w3 ⟨A3, c3, rfl, hb3, hm3⟩
    have hm2' := hm2.step hb3
    have B3 := below_seq (below_seq hB hb2) hb3
    have hd3 := (hd1.step hb2).step hb3
    have hl := len16_le (cvB m G)
    have he : eqN (len16 (cvB m G)) (len16 (cvB m G)) (beam (uni G)) (beam (uni G)) = true := eqN_good fun _ _ => rfl
    clear hm2 hd1 hB hb2 hb3
    by_cases hv : cvB m G = true
    · obtain ⟨hm16, _⟩ := cvB_true hv
      subst hm16
      rw [hv] at hm2' hm3 hl he ⊢
      rw [show len16 true = 16 from rfl] at hm2' hm3 hl he ⊢
      go_wp2_with fail
      refine (c_sameInts _ _ _ _ _ _ (beam (uni G)) (beam (uni G)) _ hl hl hm2'.rd hm3.rd).mono ?_
      rintro e w4 ⟨rfl, m4, rfl⟩
      have hs := beam_sum (uni G)
      have h4 : Rd (w3.drewN m4) (w3.drewN m4).heap.size A2 16 (fun k => .int .i64 (beam (uni G) k)) := hm2'.rd
      go_wp2_with fail
      refine (c_SkySum A2 c2 (beam (uni G)) _ (beam_small fun k _ => uni_bd G k) h4).mono ?_
      rintro e w5 ⟨rfl, m5, rfl⟩
      rw [hs]
      obtain ⟨ad, rfl, _, hc⟩ := hd3 (by omega)
      have hc0 : w3.cell? (ad.add 0) = some (.bool (G 0)) := hc 0 (by omega)
      have ha : ad.add 0 = ad := by unfold Addr.add; simp
      rw [ha] at hc0
      clear hs hc hd3 h4
      by_cases hg : G 0 = true
      · rw [hg] at hc0
        rw [show uni G 0 = 1 from by simp [uni, hg]]
        clear hg
        go_wp2
        go_ret
        exact ⟨rfl, by rw [← World.drewN_drewN]; exact below_drewN (below_drewN B3 m4) m5⟩
      · rw [show G 0 = false from by simpa using hg] at hc0
        rw [show uni G 0 = 0 from by simp [uni, hg]]
        clear hg
        go_wp2
        go_ret
        exact ⟨rfl, by rw [← World.drewN_drewN]; exact below_drewN (below_drewN B3 m4) m5⟩
    · have hv' : cvB m G = false := by simpa using hv
      clear hv
      rw [hv'] at hm2' hm3 hl he ⊢
      go_wp2_with fail
      refine (c_sameInts _ _ _ _ _ _ (beam (uni G)) (beam (uni G)) _ hl hl hm2'.rd hm3.rd).mono ?_
      rintro e w4 ⟨rfl, m4, rfl⟩
      have r2 : Rd (w3.drewN m4) (w3.drewN m4).heap.size A2 _ _ := hm2'.rd
      have r3 : Rd (w3.drewN m4) (w3.drewN m4).heap.size A3 _ _ := hm3.rd
      go_wp2_with fail
      refine (c_sameInts _ _ _ _ _ _ (beam (uni G)) (beam (uni G)) _ hl hl r2 r3).mono ?_
      rintro e w5 ⟨rfl, m5, rfl⟩
      go_wp2
      go_ret
      exact ⟨rfl, by rw [← World.drewN_drewN]; exact below_drewN (below_drewN B3 m4) m5⟩
  · go_enter Try.func13, Try.ntmps13
    go_wp2
    go_ret
    exact ⟨rfl, Below.refl _ _⟩
set_option maxHeartbeats 2000000 in
theorem l_FnWeightBeam (A : Option Addr) (n c : Nat) (f : Nat → Int) (w : World) (h0 : Rd w w.heap.size A n (fun k => .int .u8 (f k))) (hb : ∀ i, 0 ≤ f i ∧ f i ≤ 255) (hnc : n ≤ c) :
    Calls Try.prog 10 #[.slice A n c] w fun e w' => e = .returned (.bool true) ∧ Below w.heap.size w w' := by
  by_cases hn : n ≤ 1048576
  · go_enter Try.func10, Try.ntmps10
    go_wp2_with fail
    refine (c_DrawWeightBeam A n c f _ hn hnc ⟨h0, hb⟩).mono ?_
    rintro e w1 ⟨v, rfl, hd, hB⟩
    obtain ⟨A1, m, c1, G, rfl, hm, hd1⟩ := hd.open_
    clear hd h0 hb
    go_wp2_with fail
    refine (c_WeightBeam A1 m c1 G _ (by omega) hd1).mono ?_
    rintro e w2 ⟨A2, c2, rfl, hb2, hm2⟩
    go_wp2_with fail
    refine (c_sWeightBeam A1 m c1 G _ (by omega) (hd1.step hb2)).mono ?_
    rintro e w3 ⟨A3, c3, rfl, hb3, hm3⟩
    have hm2' := hm2.step hb3
    have B3 := below_seq (below_seq hB hb2) hb3
    have hd3 := (hd1.step hb2).step hb3
    have hl := len16_le (wvB m G)
    have he : eqN (len16 (wvB m G)) (len16 (wvB m G)) (beam G) (beam G) = true := eqN_good fun _ _ => rfl
    clear hm2 hd1 hB hb2 hb3
    by_cases hv : wvB m G = true
    · obtain ⟨hm16, hok⟩ := wvB_true hv
      subst hm16
      rw [hv] at hm2' hm3 hl he ⊢
      rw [show len16 true = 16 from rfl] at hm2' hm3 hl he ⊢
      go_wp2_with fail
      refine (c_sameInts _ _ _ _ _ _ (beam G) (beam G) _ hl hl hm2'.rd hm3.rd).mono ?_
      rintro e w4 ⟨rfl, m4, rfl⟩
      have hf : ∀ k, k < 16 → 0 ≤ G k ∧ G k ≤ 100 := fun k hk => ⟨(wok_bd (hok k hk)).1, (wok_bd (hok k hk)).2.1⟩
      have hS : wsum 16 G = sumN G 16 := by rw [wsum, if_pos hv]
      have hs := beam_sum G
      have hz := beam_zero G
      have hab := fun k => beam_abs (fun k hk => (hf k hk).1) k
      have hsb := sumN_bd (f := G) (M := 100) (n := 16) hf 16 (by omega)
      have h4 : Rd (w3.drewN m4) (w3.drewN m4).heap.size A1 16 (fun k => .int .i64 (G k)) := hd3
      go_wp2_with fail
      refine (c_WeightSum A1 16 c1 G _ (by omega) h4).mono ?_
      rintro e w5 ⟨rfl, m5, rfl⟩
      rw [hS]
      have h5 : Rd (w3.drewN (m4 + m5)) (w3.drewN (m4 + m5)).heap.size A2 16 (fun k => .int .i64 (beam G k)) := hm2'.rd
      go_wp2_with fail
      refine (c_SkySum A2 c2 (beam G) _ (beam_small hf) h5).mono ?_
      rintro e w6 ⟨rfl, m6, rfl⟩
      rw [hs]
      obtain ⟨hs1, hs2⟩ := hsb
      obtain ⟨ad1, rfl, _, hc1⟩ := hd3 (by omega)
      obtain ⟨g2, rfl, _, hr2⟩ := hm2' (by omega)
      have hr2' : Row w3 g2 3 16 (fun k => .int .i64 (beam G k)) := hr2
      have k1 : w3.cell? (ad1.add 0) = some (.int .i64 (G 0)) := hc1 0 (by omega)
      have k2 : w3.cell? ⟨g2, 0, none⟩ = some (.int .i64 (sumN G 16)) := by rw [← hz]; exact hr2'.cell (by omega)
      rw [show ad1.add 0 = ad1 from by unfold Addr.add; simp] at k1
      have g01 := (hf 0 (by omega)).1
      have g02 := (hf 0 (by omega)).2
      generalize sumN G 16 = S at hab hs1 hs2 k2
      have HAB := Lib.hid hab
      clear hS hs hz hab hf hok h4 h5 hc1 hr2 hd3 hm2' hm3 hv
      go_wp2
      go_loopw [11] (fun i wr => ∃ k q : Nat, k ≤ 16 ∧ i = .int .i64 k ∧ wr = w3.drewN q) (fun i _ => 16 - (intOf i).toNat)
      case atStart => exact ⟨0, _, Nat.zero_le _, rfl, rfl⟩
      case round =>
        obtain ⟨k, q, hk, rfl, rfl⟩ := hrel
        by_cases hlt : k < 16
        · have h1 : w3.cell? ⟨g2, k, none⟩ = some (.int .i64 (beam G k)) := hr2'.cell hlt
          have a1 := (HAB.out k).1
          have a2 := (HAB.out k).2
          have z1 : (k : Int) < 16 := by omega
          generalize beam G k = x at h1 a1 a2
          clear hr2'
          have e1 : IntKind.i64.wrap (-x) = -x := IntWalk.i64_in _ (by omega)
          have E1 := Lib.hid e1
          clear e1
          by_cases hx : x < -x
          · go_wp2
            have e1 := E1.out
            go_quiet (fail)
            clear e1
            go_wp2
            go_roundw
            case rel => exact ⟨k + 1, _, by omega, by go_num, rfl⟩
            case measure => simp [intOf]; omega
          · go_wp2
            have e1 := E1.out
            go_quiet (fail)
            clear e1
            go_wp2
            go_roundw
            case rel => exact ⟨k + 1, _, by omega, by go_num, rfl⟩
            case measure => simp [intOf]; omega
        · clear hr2'
          have t1 : (16 * G 0 == 16 * G 0) = true := by simp
          have t2 : (S == S) = true := by simp
          go_wp2
          go_ret
          exact ⟨rfl, below_drewN B3 q⟩
    · have hv' : wvB m G = false := by simpa using hv
      clear hv
      rw [hv'] at hm2' hm3 hl he ⊢
      go_wp2_with fail
      refine (c_sameInts _ _ _ _ _ _ (beam G) (beam G) _ hl hl hm2'.rd hm3.rd).mono ?_
      rintro e w4 ⟨rfl, m4, rfl⟩
      have r2 : Rd (w3.drewN m4) (w3.drewN m4).heap.size A2 _ _ := hm2'.rd
      have r3 : Rd (w3.drewN m4) (w3.drewN m4).heap.size A3 _ _ := hm3.rd
      go_wp2_with fail
      refine (c_sameInts _ _ _ _ _ _ (beam G) (beam G) _ hl hl r2 r3).mono ?_
      rintro e w5 ⟨rfl, m5, rfl⟩
      go_wp2
      go_ret
      exact ⟨rfl, by rw [← World.drewN_drewN]; exact below_drewN (below_drewN B3 m4) m5⟩
  · go_enter Try.func10, Try.ntmps10
    go_wp2
    go_ret
    exact ⟨rfl, Below.refl _ _⟩
end Go.Proofs.Ytiicfobjpklmkaa
