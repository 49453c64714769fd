/-
  Sums and transforms of valid skies.
-/
import Derived.Test.YtiicfobjpklmkaaBeamOf
import Derived.Test.YtiicfobjpklmkaaSame
namespace Go.Proofs.Ytiicfobjpklmkaa
open Go.RowKit

set_option maxHeartbeats 1000000 in
theorem c_SkySum (A : Option Addr) (c : Nat) (f : Nat → Int) (w : World) (hv : ∀ k, k < 16 → -100000 ≤ f k ∧ f k ≤ 100000) (h : Rd w w.heap.size A 16 (fun k => .int .i64 (f k))) :
    Calls Try.prog 37 #[.slice A 16 c] w fun e w' => e = .returned (.tuple #[.int .i64 (sumN f 16), .bool true]) ∧ ∃ m, w' = w.drewN m := by
  have hsk := skB_good hv
  have HV := Lib.hid hv
  clear hv
  go_enter Try.func37, Try.ntmps37
  go_wp2_with (go_at_call 58; refine (c_SkyValid _ _ _ f _ (by omega) h).mono ?_; rintro e w' ⟨rfl, m0, rfl⟩)
  go_loopw [4, 12] (fun s i wr => ∃ k m : Nat, k ≤ 16 ∧ s = .int .i64 (sumN f k) ∧ i = .int .i64 k ∧ wr = w.drewN m) (fun _ i _ => 16 - (intOf i).toNat)
  case atStart => exact ⟨0, m0, Nat.zero_le _, rfl, rfl, rfl⟩
  case round =>
    obtain ⟨k, m, hk, rfl, rfl, rfl⟩ := hrel
    have hsb := sumN_abs HV.out k hk
    obtain ⟨hs1, hs2⟩ := hsb
    by_cases hlt : k < 16
    · obtain ⟨ad, rfl, _, hc⟩ := h.at_ hlt
      have h1 : w.cell? (ad.add k) = some (.int .i64 (f k)) := hc k hlt
      have v1 := (HV.out k hlt).1
      have v2 := (HV.out k hlt).2
      clear hc h
      go_wp2
      go_roundw
      case rel => exact ⟨k + 1, _, by omega, rfl, by go_num, rfl⟩
      case measure => simp [intOf]; omega
    · obtain rfl : k = 16 := by omega
      go_wp2
      go_ret2
      exact ⟨rfl, _, rfl⟩
set_option maxHeartbeats 1000000 in
theorem c_SkyTransform (A : Option Addr) (c : Nat) (f : Nat → Int) (w : World) (hv : ∀ k, k < 16 → -100000 ≤ f k ∧ f k ≤ 100000) (h : Rd w w.heap.size A 16 (fun k => .int .i64 (f k))) :
    Calls Try.prog 38 #[.slice A 16 c] w fun e w' => ∃ g, e = .returned (.tuple #[.slice (some ⟨g, 0, none⟩) 16 16, .bool true]) ∧ Below w.heap.size w w' ∧ w.heap.size ≤ g ∧ Row w' g 47 (16 * 2) (flat (beam f) (beamI f)) := by
  have hsk := skB_good hv
  have HV := Lib.hid hv
  clear hv
  go_enter Try.func38, Try.ntmps38
  go_wp2_with fail
  refine (c_SkyValid _ 16 c f _ (by omega) h).mono ?_
  rintro e w1 ⟨rfl, m1, rfl⟩
  rw [hsk]
  have h1 : Rd (w.drewN m1) (w.drewN m1).heap.size A 16 (fun k => .int .i64 (f k)) := h
  go_wp2_with fail
  refine (c_realGrid _ 16 c f _ (by omega) h1).mono ?_
  rintro e w2 ⟨A2, c2, rfl, hb2, hm2⟩
  obtain ⟨g2, rfl, hg2, hr2⟩ := hm2 (by omega)
  have B2 : Below w.heap.size w w2 := ⟨hb2.os, hb2.tape, hb2.output, hb2.size, hb2.block⟩
  clear hb2 h1
  go_wp2_with fail
  refine (c_transform g2 c2 f (fun _ => 0) _ HV.out (fun k _ => ⟨by decide, by decide⟩) hr2).mono ?_
  rintro e w3 ⟨rfl, hb3, hr3⟩
  rw [trRe_zero, trIm_zero] at hr3
  go_wp2
  go_ret2
  exact ⟨_, rfl, below_seq B2 hb3, B2.size, hr3⟩
theorem c_gauss (a b : Int) (w : World) : Calls Try.prog 39 #[.int .i64 a, .int .i64 b] w (Gs a b w) := by
  go_enter Try.func39, Try.ntmps39
  go_wp2
  refine bodyPost_ret (v := .agg #[.int .i64 a, .int .i64 b]) (by simp [results, Try.results39, go_sem]) rfl ⟨rfl, ?_⟩
  repeat first | exact Below.refl _ _ | refine Below.setCell ?_ (by first | (simp; done) | (simp; omega)) _ | refine Below.alloc ?_ (by first | (simp; done) | (simp; omega)) _
end Go.Proofs.Ytiicfobjpklmkaa
