/-
  Drawn arrays of a code, and factors.
-/
import Derived.Test.YtiibfjdjccofdaaDrawA
namespace Go.Proofs.Ytiibfjdjccofdaa
open Go.RowKit Go.Deep

theorem drewA_of {w w1 w2 : World} {g : Nat} {v : Value} (hg : w.heap.size ≤ g) (hb : Below w.heap.size w w1) (hd : DrawnA w1.heap.size v w2) (hG : Grow g w1 w2) :
    DrawnA w.heap.size v w2 ∧ Below w.heap.size w w2 := ⟨hd.less hb.size, hb.trans (hG.below hg hb.size)⟩
/-- What a function answers that draws an array and a factor. -/
def DrewK (w : World) (e : Ending) (w' : World) : Prop := ∃ (v : Value) (k : Int), e = .returned (.tuple #[v, .int .i64 k]) ∧ 0 ≤ k ∧ k ≤ 101 ∧ DrawnA w.heap.size v w' ∧ Below w.heap.size w w'

theorem c_DrawCoverOf (A : Option Addr) (n c : Nat) (f : Nat → Int) (w : World) (hn : n ≤ 1048576) (hnc : n ≤ c) (h : Code8 w w.heap.size A n f) :
    Calls Try.prog 34 #[.slice A n c] w (Drew DrawnA w) := by
  go_enter Try.func34, Try.ntmps34
  go_wp2_with fail
  refine (c_l6Open A n c f _ hn hnc h).mono ?_
  rintro e w1 ⟨g, hg, rfl, hr, hb⟩
  go_wp2_with fail
  refine (c_l91Array g 0 _ hr (by omega)).mono ?_
  rintro e w2 ⟨v, p', rfl, hd, hr2, hp, hG⟩
  go_wp2
  go_ret
  obtain ⟨hd', hb'⟩ := drewA_of hg hb hd hG
  exact ⟨_, rfl, hd', hb'⟩
theorem below_dw {B : Nat} {a w : World} (h : Below B a w) : Below B a w.drew := ⟨h.os, h.tape, h.output, h.size, h.block⟩
def lit3 (y : Nat) : Int := if y = 0 then 0 else if y = 1 then 100 else 101
theorem lit3_bd (y : Nat) : 0 ≤ lit3 y ∧ lit3 y ≤ 101 := by unfold lit3; split <;> (try split) <;> omega
theorem lit3_cell (W : World) (y : Nat) (hy : y < 3) : (W.alloc (.cells #[.int .i64 0, .int .i64 100, .int .i64 101] 3)).cell? ⟨W.heap.size, y, none⟩ = some (.int .i64 (lit3 y)) := by
  have h : y = 0 ∨ y = 1 ∨ y = 2 := by omega
  unfold World.cell?
  rw [show (⟨W.heap.size, y, none⟩ : Addr).block = W.heap.size from rfl, heap_alloc_new]
  rcases h with rfl | rfl | rfl <;> rfl
set_option maxHeartbeats 1000000 in
theorem c_DrawTrackScale (A : Option Addr) (n c : Nat) (f : Nat → Int) (w : World) (hn : n ≤ 1048576) (hnc : n ≤ c) (h : Code8 w w.heap.size A n f) :
    Calls Try.prog 15 #[.slice A n c] w (DrewK w) := by
  go_enter Try.func15, Try.ntmps15
  go_wp2_with fail
  refine (c_l6Open A n c f _ hn hnc h).mono ?_
  rintro e w1 ⟨g, hg, rfl, hr, hb⟩
  go_wp2_with fail
  refine (c_l91Array g 0 _ hr (by omega)).mono ?_
  rintro e w2 ⟨v, p', rfl, hd, hr2, hp, hG⟩
  have hg1 := hr.lt
  obtain ⟨hd2, hb2⟩ := drewA_of hg hb hd hG
  go_wp2_with fail
  refine (c_pick g p' 12 _ hr2 (by omega) (by omega) (by omega)).mono ?_
  rintro e w3 ⟨x, hx, rfl, hr3, ho3⟩
  have hd3 := hd.grow (Grow.of_only ho3) hg1
  have hb3 := hb2.trans (ho3.below (fun ad e => by injection e with e; subst e; exact hg))
  clear hr2 ho3 hd hd2 hb2 hG h
  have sz3 := hb3.size
  have hg3 := hr3.lt
  by_cases x0 : x = 0
  · subst x0
    go_wp2
    go_region_with (first
      | (go_at_call 45; refine (c_pick g (p' + 1) 3 _ (by exact (hr3.alloc _).drew) (by omega) (by omega) (by omega)).mono ?_; rintro e w4 ⟨y, hy, rfl, hr4, ho4⟩; have hq : w4.cell? ⟨w3.heap.size, y, none⟩ = some (.int .i64 (lit3 y)) := (World.cell?_of_block (ho4.block w3.heap.size (fun ad e => by injection e with e; subst e; show g ≠ _; omega))).trans (lit3_cell w3 y hy); have hb4 : Below w.heap.size w w4 := hb3.trans ((below_dw ((Below.refl _ w3).alloc sz3 _)).trans (Only.below ⟨ho4.os, ho4.tape, ho4.output, ho4.size, ho4.block⟩ (fun ad e => by injection e with e; subst e; exact hg))); have hd4 := (hd3.grow (g := g) (Grow.of_below (below_dw ((Below.refl _ w3).alloc (Nat.le_refl _) _))) hg1).grow (Grow.of_only ⟨ho4.os, ho4.tape, ho4.output, ho4.size, ho4.block⟩) hg1)
      | (go_at_call 45; refine (c_pick g (p' + 1) 3 _ (by exact hr3.drew) (by omega) (by omega) (by omega)).mono ?_; rintro e w4 ⟨y, hy, rfl, hr4, ho4⟩; have hq := lit3_cell w4 y hy; have ho5 : Only w3 w4 (some ⟨g, 0, none⟩) := ⟨ho4.os, ho4.tape, ho4.output, ho4.size, ho4.block⟩; have hb4 : Below w.heap.size w w4 := hb3.trans (ho5.below (fun ad e => by injection e with e; subst e; exact hg)); have hd4 := hd3.grow (Grow.of_only ho5) hg1))
    all_goals
      go_wp2
      go_ret2
      have b := lit3_bd y
      first
        | exact ⟨_, _, rfl, b.1, b.2, hd4.less hb.size, hb4⟩
        | exact ⟨_, _, rfl, b.1, b.2, (hd4.grow (g := g) (Grow.of_below ((Below.refl _ w4).alloc (Nat.le_refl _) _)) hg1).less hb.size, hb4.alloc hb4.size _⟩
  · have b0 : ((x : Int) == 0) = false := by simpa using (by omega : (x : Int) ≠ 0)
    go_wp2_with fail
    refine (c_pick g (p' + 1) 9 _ hr3 (by omega) (by omega) (by omega)).mono ?_
    rintro e w4 ⟨y, hy, rfl, hr4, ho4⟩
    have hd4 := hd3.grow (Grow.of_only ho4) hg1
    have hb4 := hb3.trans (ho4.below (fun ad e => by injection e with e; subst e; exact hg))
    go_wp2
    go_ret2
    exact ⟨_, _, rfl, by omega, by omega, hd4.less hb.size, hb4⟩
end Go.Proofs.Ytiibfjdjccofdaa
