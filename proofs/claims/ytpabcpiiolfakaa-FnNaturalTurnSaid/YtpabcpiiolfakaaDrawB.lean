/-
  Drawn arrays of a code, and factors.
-/
import Derived.Test.YtpabcpiiolfakaaDrawA
namespace Go.Proofs.Ytpabcpiiolfakaa
open Go.RowKit Go.Deep

theorem drewA_of {w w1 w2 : World} {g : Nat} {v : Value} (hg : w.heap.size ≤ g) (hb : Below w.heap.size w w1) (hd : DrawnA w1.heap.size v w2) (hG : Grow g w1 w2) :
    DrawnA w.heap.size v w2 ∧ Below w.heap.size w w2 := ⟨hd.less hb.size, hb.trans (hG.below hg hb.size)⟩
/-- What a function answers that draws an array and a factor. -/
def DrewK (w : World) (e : Ending) (w' : World) : Prop := ∃ (v : Value) (k : Int), e = .returned (.tuple #[v, .int .i64 k]) ∧ 0 ≤ k ∧ k ≤ 101 ∧ DrawnA w.heap.size v w' ∧ Below w.heap.size w w'

theorem c_DrawTrackCover (A : Option Addr) (n c : Nat) (f : Nat → Int) (w : World) (hn : n ≤ 1048576) (hnc : n ≤ c) (h : Code8 w w.heap.size A n f) :
    Calls Try.prog 21 #[.slice A n c] w (Drew DrawnA w) := by
  go_enter Try.func21, Try.ntmps21
  go_wp2_with fail
  refine (c_l6Open A n c f _ hn hnc h).mono ?_
  rintro e w1 ⟨g, hg, rfl, hr, hb⟩
  go_wp2_with fail
  refine (c_l91Array g 0 _ hr (by omega)).mono ?_
  rintro e w2 ⟨v, p', rfl, hd, hr2, hp, hG⟩
  go_wp2
  go_ret
  obtain ⟨hd', hb'⟩ := drewA_of hg hb hd hG
  exact ⟨_, rfl, hd', hb'⟩
theorem c_DrawWeightNatural (A : Option Addr) (n c : Nat) (f : Nat → Int) (w : World) (hn : n ≤ 1048576) (hnc : n ≤ c) (h : Code8 w w.heap.size A n f) :
    Calls Try.prog 42 #[.slice A n c] w (Drew DrawnA w) := by
  go_enter Try.func42, Try.ntmps42
  go_wp2_with fail
  refine (c_l6Open A n c f _ hn hnc h).mono ?_
  rintro e w1 ⟨g, hg, rfl, hr, hb⟩
  go_wp2_with fail
  refine (c_l91Array g 0 _ hr (by omega)).mono ?_
  rintro e w2 ⟨v, p', rfl, hd, hr2, hp, hG⟩
  go_wp2
  go_ret
  obtain ⟨hd', hb'⟩ := drewA_of hg hb hd hG
  exact ⟨_, rfl, hd', hb'⟩
theorem below_dw {B : Nat} {a w : World} (h : Below B a w) : Below B a w.drew := ⟨h.os, h.tape, h.output, h.size, h.block⟩
end Go.Proofs.Ytpabcpiiolfakaa
