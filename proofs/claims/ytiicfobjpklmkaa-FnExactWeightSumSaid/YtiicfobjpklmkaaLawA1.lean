/-
  The laws on valid weights and their sums: the program's answer is the reference's, and the argument is left alone.
-/
import Derived.Test.YtiicfobjpklmkaaInts
namespace Go.Proofs.Ytiicfobjpklmkaa
open Go.RowKit

set_option maxHeartbeats 1000000 in
theorem l_FnExactWeightValid (A : Option Addr) (n c : Nat) (f : Nat → Int) (w : World) (h : Rd w w.heap.size A n (fun k => .int .i64 (f k))) :
    Calls Try.prog 3 #[.slice A n c] w fun e w' => e = .returned (.bool true) ∧ Below w.heap.size w w' := by
  by_cases hn : n ≤ 1048576
  · go_enter Try.func3, Try.ntmps3
    go_wp2_with fail
    refine (c_toIntS A n c f _ hn h).mono ?_
    rintro e w1 ⟨rfl, hb1, hr1⟩
    go_wp2_with fail
    refine (c_sWeightValid _ n n f _ hn (hr1.rd hr1.lt)).mono ?_
    rintro e w2 ⟨rfl, m2, rfl⟩
    have h2 := (h.step hb1).drewN m2
    go_wp2_with fail
    refine (c_toIntS A n c f _ hn h2).mono ?_
    rintro e w3 ⟨rfl, hb3, hr3⟩
    go_wp2_with fail
    refine (c_WeightValid _ n n f _ hn (hr3.rd hr3.lt)).mono ?_
    rintro e w4 ⟨rfl, m4, rfl⟩
    have h4 := (h2.step hb3).drewN m4
    have hr4 := hr3.drewN m4
    go_wp2_with fail
    refine (c_toIntS A n c f _ hn h4).mono ?_
    rintro e w5 ⟨rfl, hb5, hr5⟩
    have hr6 := hr4.step hb5
    go_wp2_with fail
    refine (c_eqIntS _ _ n n n n f f _ hn hn (hr6.rd hr6.lt) (hr5.rd hr5.lt)).mono ?_
    rintro e w6 ⟨rfl, m6, rfl⟩
    have he : eqN n n f f = true := eqN_good fun _ _ => rfl
    go_wp2
    go_ret
    exact ⟨rfl, below_drewN (below_seq (below_drewN (below_seq (below_drewN hb1 m2) hb3) m4) hb5) m6⟩
  · go_enter Try.func3, Try.ntmps3
    go_wp2
    go_ret
    exact ⟨rfl, Below.refl _ _⟩
set_option maxHeartbeats 1000000 in
theorem l_FnExactWeightSum (A : Option Addr) (n c : Nat) (f : Nat → Int) (w : World) (h : Rd w w.heap.size A n (fun k => .int .i64 (f k))) :
    Calls Try.prog 4 #[.slice A n c] w fun e w' => e = .returned (.bool true) ∧ Below w.heap.size w w' := by
  by_cases hn : n ≤ 1048576
  · go_enter Try.func4, Try.ntmps4
    go_wp2_with fail
    refine (c_toIntS A n c f _ hn h).mono ?_
    rintro e w1 ⟨rfl, hb1, hr1⟩
    go_wp2_with fail
    refine (c_sWeightSum _ n n f _ hn (hr1.rd hr1.lt)).mono ?_
    rintro e w2 ⟨rfl, m2, rfl⟩
    have h2 := (h.step hb1).drewN m2
    go_wp2_with fail
    refine (c_toIntS A n c f _ hn h2).mono ?_
    rintro e w3 ⟨rfl, hb3, hr3⟩
    go_wp2_with fail
    refine (c_WeightSum _ n n f _ hn (hr3.rd hr3.lt)).mono ?_
    rintro e w4 ⟨rfl, m4, rfl⟩
    have h4 := (h2.step hb3).drewN m4
    have hr4 := hr3.drewN m4
    go_wp2_with fail
    refine (c_toIntS A n c f _ hn h4).mono ?_
    rintro e w5 ⟨rfl, hb5, hr5⟩
    have hr6 := hr4.step hb5
    go_wp2_with fail
    refine (c_eqIntS _ _ n n n n f f _ hn hn (hr6.rd hr6.lt) (hr5.rd hr5.lt)).mono ?_
    rintro e w6 ⟨rfl, m6, rfl⟩
    have he : eqN n n f f = true := eqN_good fun _ _ => rfl
    go_wp2
    go_ret
    exact ⟨rfl, below_drewN (below_seq (below_drewN (below_seq (below_drewN hb1 m2) hb3) m4) hb5) m6⟩
  · go_enter Try.func4, Try.ntmps4
    go_wp2
    go_ret
    exact ⟨rfl, Below.refl _ _⟩
end Go.Proofs.Ytiicfobjpklmkaa
