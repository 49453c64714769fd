/-
  The laws on fits, scores and turns of the fringes of three drawn numbers.
-/
import Derived.Test.YtpanefjjghlhiaaFrDraw
import Derived.Test.YtpanefjjghlhiaaFrRows
namespace Go.Proofs.Ytpanefjjghlhiaa
open Go.RowKit

theorem c_FringeOf_bad (d r p ch ti : Int) (w : World) (h : frOk d r p ch ti = false) : Calls Try.prog 9 #[.int .i64 d, .int .i64 r, .int .i64 p, .int .i64 ch, .int .i64 ti] w
    fun e w' => ∃ a c, e = .returned (.tuple #[.slice a 0 c, .bool false]) ∧ Below w.heap.size w w' := by
  have C := c_FringeOf d r p ch ti w
  rw [h] at C
  exact C.mono fun e w' ⟨a, c, _, he, hb, _⟩ => ⟨a, c, he, hb⟩
theorem c_sFringeOf_bad (d r p ch ti : Int) (w : World) (h : frOk d r p ch ti = false) : Calls Try.prog 10 #[.int .i64 d, .int .i64 r, .int .i64 p, .int .i64 ch, .int .i64 ti] w
    fun e w' => ∃ a c, e = .returned (.tuple #[.slice a 0 c, .bool false]) ∧ Below w.heap.size w w' := by
  have C := c_sFringeOf d r p ch ti w
  rw [h] at C
  exact C.mono fun e w' ⟨a, c, _, he, hb, _⟩ => ⟨a, c, he, hb⟩
theorem c_sameRows0 (a a' : Option Addr) (c c' : Nat) (w : World) : Calls Try.prog 11 #[.slice a 0 c, .slice a' 0 c'] w fun e w' => e = .returned (.bool true) ∧ ∃ m, w' = w.drewN m := by
  have C := c_sameRows a a' 0 0 c c' (fun _ => .slice none 0 0) (fun _ => .slice none 0 0) (fun _ => 0) (fun _ => 0) (fun _ _ => 0) (fun _ _ => 0) w (by omega) (by omega) (fun r h => absurd h (by omega)) (fun r h => absurd h (by omega)) (RdR.nil _ _ _ _ _ _) (RdR.nil _ _ _ _ _ _)
  rw [eqR_refl] at C
  exact C
end Go.Proofs.Ytpanefjjghlhiaa
