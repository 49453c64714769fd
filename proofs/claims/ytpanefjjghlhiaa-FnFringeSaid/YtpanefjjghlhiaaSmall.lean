/-
  Contracts of the small functions of this seat: ranges, remainders, indexes of cells. Each only computes.
-/
import Derived.Test.YtpanefjjghlhiaaProg
import Derived.Test.YtpanefjjghlhiaaLib
import Derived.Test.YtpanefjjghlhiaaPlain
import Derived.Lib.Hide
import Derived.Outline
namespace Go.Proofs.Ytpanefjjghlhiaa
open Go.RowKit


theorem c_l6In (n lo hi : Int) (w : World) : Calls Try.prog 17 #[.int .i64 n, .int .i64 lo, .int .i64 hi] w fun e w' => e = .returned (.bool (inB lo hi n)) ∧ w = w' := by
  by_cases h1 : lo ≤ n
  · by_cases h2 : n ≤ hi
    · go_enter Try.func17, Try.ntmps17
      go_wp2
      go_ret
      exact ⟨by simp [inB, h1, h2], rfl⟩
    · go_enter Try.func17, Try.ntmps17
      go_wp2
      go_ret
      exact ⟨by simp [inB, h1, h2], rfl⟩
  · go_enter Try.func17, Try.ntmps17
    go_wp2
    go_ret
    exact ⟨by simp [inB]; omega, rfl⟩
theorem c_circle (n : Int) (w : World) : Calls Try.prog 23 #[.int .i64 n, .int .i64 4] w fun e w' => e = .returned (.int .i64 (n % 4)) ∧ w = w' := by
  have hb : -4 < n.tmod 4 ∧ n.tmod 4 < 4 := by rcases tmod4 n with ⟨h, e⟩ | ⟨h, e⟩ <;> omega
  have hm : n % 4 = (n.tmod 4 + 4) % 4 := by rcases tmod4 n with ⟨h, e⟩ | ⟨h, e⟩ <;> omega
  obtain ⟨hb1, hb2⟩ := hb
  have HM := Lib.hid hm
  clear hm
  go_enter Try.func23, Try.ntmps23
  go_wp2
  go_ret
  exact ⟨ret_int (by rw [HM.out]), rfl⟩
theorem opp_wrapped (k : Nat) (hk : k < 16) : cellN (IntKind.i64.wrap (-(k : Int).tmod 4)) (IntKind.i64.wrap (-IntKind.i64.wrap ((k : Int) / 4))) = oppN k := by
  have h : ∀ j : Fin 16, cellN (IntKind.i64.wrap (-((j.val : Nat) : Int).tmod 4)) (IntKind.i64.wrap (-IntKind.i64.wrap (((j.val : Nat) : Int) / 4))) = oppN j.val := by decide +kernel
  exact h ⟨k, hk⟩
end Go.Proofs.Ytpanefjjghlhiaa
