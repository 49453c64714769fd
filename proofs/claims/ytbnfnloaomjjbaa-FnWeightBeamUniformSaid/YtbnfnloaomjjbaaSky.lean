/-
  Sums and transforms of valid skies.
-/
import Derived.Test.YtbnfnloaomjjbaaBeamOf
import Derived.Test.YtbnfnloaomjjbaaSame
namespace Go.Proofs.Ytbnfnloaomjjbaa
open Go.RowKit

set_option maxHeartbeats 1000000 in
theorem c_SkyTransform (A : Option Addr) (c : Nat) (f : Nat → Int) (w : World) (hv : ∀ k, k < 16 → -100000 ≤ f k ∧ f k ≤ 100000) (h : Rd w w.heap.size A 16 (fun k => .int .i64 (f k))) :
    Calls Try.prog 12 #[.slice A 16 c] w fun e w' => ∃ g, e = .returned (.tuple #[.slice (some ⟨g, 0, none⟩) 16 16, .bool true]) ∧ Below w.heap.size w w' ∧ w.heap.size ≤ g ∧ Row w' g 33 (16 * 2) (flat (beam f) (beamI f)) := by
  have hsk := skB_good hv
  have HV := Lib.hid hv
  clear hv
  go_enter Try.func12, Try.ntmps12
  go_wp2_with fail
  refine (c_SkyValid _ 16 c f _ (by omega) h).mono ?_
  rintro e w1 ⟨rfl, m1, rfl⟩
  rw [hsk]
  have h1 : Rd (w.drewN m1) (w.drewN m1).heap.size A 16 (fun k => .int .i64 (f k)) := h
  go_wp2_with fail
  refine (c_realGrid _ 16 c f _ (by omega) h1).mono ?_
  rintro e w2 ⟨A2, c2, rfl, hb2, hm2⟩
  obtain ⟨g2, rfl, hg2, hr2⟩ := hm2 (by omega)
  have B2 : Below w.heap.size w w2 := ⟨hb2.os, hb2.tape, hb2.output, hb2.size, hb2.block⟩
  clear hb2 h1
  go_wp2_with fail
  refine (c_transform g2 c2 f (fun _ => 0) _ HV.out (fun k _ => ⟨by decide, by decide⟩) hr2).mono ?_
  rintro e w3 ⟨rfl, hb3, hr3⟩
  rw [trRe_zero, trIm_zero] at hr3
  go_wp2
  go_ret2
  exact ⟨_, rfl, below_seq B2 hb3, B2.size, hr3⟩
theorem c_gauss (a b : Int) (w : World) : Calls Try.prog 13 #[.int .i64 a, .int .i64 b] w (Gs a b w) := by
  go_enter Try.func13, Try.ntmps13
  go_wp2
  refine bodyPost_ret (v := .agg #[.int .i64 a, .int .i64 b]) (by simp [results, Try.results13, go_sem]) rfl ⟨rfl, ?_⟩
  repeat first | exact Below.refl _ _ | refine Below.setCell ?_ (by first | (simp; done) | (simp; omega)) _ | refine Below.alloc ?_ (by first | (simp; done) | (simp; omega)) _
end Go.Proofs.Ytbnfnloaomjjbaa
