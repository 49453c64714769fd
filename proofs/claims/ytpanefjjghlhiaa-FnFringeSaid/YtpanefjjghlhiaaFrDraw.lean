/-
  Drawn numbers of fringes.
-/
import Derived.Test.YtpanefjjghlhiaaDrawLib
import Derived.Test.YtpanefjjghlhiaaFrFit
namespace Go.Proofs.Ytpanefjjghlhiaa
open Go.RowKit

theorem results_tmp5 {fn : Func} {t u v x y : Tmp} (h : fn.results = #[.tmp t, .tmp u, .tmp v, .tmp x, .tmp y]) (tmps : Array Value) (P : Program) (w : World) :
    (results fn tmps).run P w = .ok (.tuple #[tmps.getD t undef, tmps.getD u undef, tmps.getD v undef, tmps.getD x undef, tmps.getD y undef]) w := by
  simp [results, h]
theorem ne_some {g b : Nat} (h : g ≠ b) : ∀ ad : Addr, (some (⟨g, 0, none⟩ : Addr)) = some ad → ad.block ≠ b := fun ad e => by
  injection e with e; subst e; exact h

/-- Three drawn numbers. -/
def Three (w : World) (g p : Nat) (e : Ending) (w' : World) : Prop :=
  ∃ (d r q : Int) (p' : Nat), (-1 ≤ d ∧ d ≤ 4) ∧ (0 ≤ r ∧ r ≤ 3) ∧ (0 ≤ q ∧ q ≤ 3) ∧ e = .returned (.tuple #[.int .i64 d, .int .i64 r, .int .i64 q]) ∧ Rdr w' g p' ∧ p' ≤ p + 5 ∧ Grow g w w'
set_option maxHeartbeats 1600000 in
theorem c_l93Three (g p : Nat) (w : World) (h : Rdr w g p) (hp : p ≤ 1000) : Calls Try.prog 18 #[.pointer (some ⟨g, 0, none⟩)] w (Three w g p) := by
  have hg := h.lt
  go_enter Try.func18, Try.ntmps18
  go_wp2_with fail
  refine (c_pick g p 4 _ h (by omega) (by omega) (by omega)).mono ?_
  rintro e w1 ⟨x1, hx1, rfl, r1, o1⟩
  have G1 := Grow.of_only o1
  clear o1 h
  go_wp2_with fail
  refine (c_pick g (p + 1) 24 _ r1 (by omega) (by omega) (by omega)).mono ?_
  rintro e w2 ⟨x2, hx2, rfl, r2, o2⟩
  have G2 := G1.only o2
  clear o2 r1 G1
  by_cases h2 : x2 = 0
  · subst h2
    go_wp2_with fail
    refine (c_pick g (p + 1 + 1) 2 _ (r2.alloc _) (by omega) (by omega) (by omega)).mono ?_
    rintro e w3 ⟨x3, hx3, rfl, r3, o3⟩
    have hs2 := G2.size
    have G3 := (G2.alloc _).only o3
    have T3 : Row w3 w2.heap.size 3 2 (fun i => .int .i64 (if i = 0 then -1 else 4)) := by
      refine Row.only (w := w2.alloc _) ⟨_, heap_alloc_new w2 _, fun i hi => ?_⟩ o3 (ne_some (by omega))
      match i, hi with
      | 0, _ => rfl
      | 1, _ => rfl
    have t1 : w3.cell? ⟨w2.heap.size, x3, none⟩ = some (.int .i64 (if x3 = 0 then -1 else 4)) := T3.cell hx3
    have D : ∃ D : Int, (if x3 = 0 then (-1 : Int) else 4) = D ∧ -1 ≤ D ∧ D ≤ 4 := ⟨_, rfl, by split <;> omega, by split <;> omega⟩
    obtain ⟨D, eD, d1, d2⟩ := D
    rw [eD] at t1
    clear o3 T3 r2 eD
    go_wp2_with fail
    refine (c_pick g (p + 1 + 1 + 1) 4 _ r3 (by omega) (by omega) (by omega)).mono ?_
    rintro e w4 ⟨x4, hx4, rfl, r4, o4⟩
    go_wp2_with fail
    refine (c_pick g (p + 1 + 1 + 1 + 1) 4 _ r4 (by omega) (by omega) (by omega)).mono ?_
    rintro e w5 ⟨x5, hx5, rfl, r5, o5⟩
    go_wp2
    go_ret3
    exact ⟨D, x4, x5, _, ⟨d1, d2⟩, ⟨by omega, by omega⟩, ⟨by omega, by omega⟩, rfl, r5, by omega, (G3.only o4).only o5⟩
  · have hz : ((x2 : Int) == 0) = false := by simpa using (by omega : (x2 : Int) ≠ 0)
    go_wp2_with fail
    refine (c_pick g (p + 1 + 1) 4 _ r2 (by omega) (by omega) (by omega)).mono ?_
    rintro e w4 ⟨x4, hx4, rfl, r4, o4⟩
    go_wp2_with fail
    refine (c_pick g (p + 1 + 1 + 1) 4 _ r4 (by omega) (by omega) (by omega)).mono ?_
    rintro e w5 ⟨x5, hx5, rfl, r5, o5⟩
    go_wp2
    go_ret3
    exact ⟨x1, x4, x5, _, ⟨by omega, by omega⟩, ⟨by omega, by omega⟩, ⟨by omega, by omega⟩, rfl, r5, by omega, (G2.only o4).only o5⟩
/-- Five drawn numbers. -/
def Five (w : World) (e : Ending) (w' : World) : Prop :=
  ∃ d r q ch ti : Int, (-1 ≤ d ∧ d ≤ 4) ∧ (0 ≤ r ∧ r ≤ 3) ∧ (0 ≤ q ∧ q ≤ 3) ∧ (0 ≤ ch ∧ ch ≤ 9) ∧ (1 ≤ ti ∧ ti ≤ 8) ∧ e = .returned (.tuple #[.int .i64 d, .int .i64 r, .int .i64 q, .int .i64 ch, .int .i64 ti]) ∧ Below w.heap.size w w'
set_option maxHeartbeats 1600000 in
theorem c_DrawFringeOf (A : Option Addr) (n c : Nat) (f : Nat → Int) (w : World) (hn : n ≤ 1048576) (hnc : n ≤ c) (h : Code8 w w.heap.size A n f) : Calls Try.prog 8 #[.slice A n c] w (Five w) := by
  go_enter Try.func8, Try.ntmps8
  go_wp2_with fail
  refine (c_l6Open A n c f _ hn hnc h).mono ?_
  rintro e w0 ⟨g, hg, rfl, r0, b0⟩
  clear h
  go_wp2_with fail
  refine (c_l93Three g 0 _ r0 (by omega)).mono ?_
  rintro e w1 ⟨d, r, q, p1, hd, hr, hq, rfl, r1, hp1, G1⟩
  go_wp2_with fail
  refine (c_pick g p1 8 _ r1 (by omega) (by omega) (by omega)).mono ?_
  rintro e w2 ⟨x2, hx2, rfl, r2, o2⟩
  have G2 := G1.only o2
  clear o2
  go_wp2_with fail
  refine (c_pick g (p1 + 1) 20 _ r2 (by omega) (by omega) (by omega)).mono ?_
  rintro e w3 ⟨x3, hx3, rfl, r3, o3⟩
  have G3 := G2.only o3
  clear o3
  have gl := r0.lt
  by_cases h3 : x3 = 0
  · subst h3
    go_wp2_with fail
    refine (c_pick g (p1 + 1 + 1) 2 _ (r3.alloc _) (by omega) (by omega) (by omega)).mono ?_
    rintro e w4 ⟨x4, hx4, rfl, r4, o4⟩
    have hs3 := G3.size
    have G4 := (G3.alloc _).only o4
    have T4 : Row w4 w3.heap.size 3 2 (fun i => .int .i64 (if i = 0 then 0 else 9)) := by
      refine Row.only (w := w3.alloc _) ⟨_, heap_alloc_new w3 _, fun i hi => ?_⟩ o4 (ne_some (by omega))
      match i, hi with
      | 0, _ => rfl
      | 1, _ => rfl
    have t1 : w4.cell? ⟨w3.heap.size, x4, none⟩ = some (.int .i64 (if x4 = 0 then 0 else 9)) := T4.cell hx4
    have D : ∃ D : Int, (if x4 = 0 then (0 : Int) else 9) = D ∧ 0 ≤ D ∧ D ≤ 9 := ⟨_, rfl, by split <;> omega, by split <;> omega⟩
    obtain ⟨D, eD, d1, d2⟩ := D
    rw [eD] at t1
    clear o4 T4 eD
    go_wp2_with fail
    refine (c_pick g (p1 + 1 + 1 + 1) 8 _ r4 (by omega) (by omega) (by omega)).mono ?_
    rintro e w5 ⟨x5, hx5, rfl, r5, o5⟩
    go_wp2
    (try simp only [Exit.inBlock, Exit.then])
    refine bodyPost_ret (results_tmp5 rfl _ _ _) rfl ?_
    exact ⟨d, r, q, D, 1 + x5, hd, hr, hq, ⟨d1, d2⟩, ⟨by omega, by omega⟩, rfl, b0.trans ((G4.only o5).below hg b0.size)⟩
  · have hz : ((x3 : Int) == 0) = false := by simpa using (by omega : (x3 : Int) ≠ 0)
    go_wp2_with fail
    refine (c_pick g (p1 + 1 + 1) 8 _ r3 (by omega) (by omega) (by omega)).mono ?_
    rintro e w5 ⟨x5, hx5, rfl, r5, o5⟩
    go_wp2
    (try simp only [Exit.inBlock, Exit.then])
    refine bodyPost_ret (results_tmp5 rfl _ _ _) rfl ?_
    exact ⟨d, r, q, 1 + x2, 1 + x5, hd, hr, hq, ⟨by omega, by omega⟩, ⟨by omega, by omega⟩, rfl, b0.trans ((G3.only o5).below hg b0.size)⟩
end Go.Proofs.Ytpanefjjghlhiaa
