/-
  Contracts of the small functions of this seat: ranges, remainders, indexes of cells. Each only computes.
-/
import Derived.Test.YtbnfnloaomjjbaaProg
import Derived.Test.YtbnfnloaomjjbaaLib
import Derived.Test.YtbnfnloaomjjbaaPlain
import Derived.Lib.Hide
import Derived.Outline
namespace Go.Proofs.Ytbnfnloaomjjbaa
open Go.RowKit


theorem c_l21Cells (w : World) : Calls Try.prog 32 #[] w fun e w' => e = .returned (.int .i64 16) ∧ w = w' := by
  go_enter Try.func32, Try.ntmps32
  go_wp2
  go_ret
  exact ⟨rfl, rfl⟩
theorem c_l6In (n lo hi : Int) (w : World) : Calls Try.prog 52 #[.int .i64 n, .int .i64 lo, .int .i64 hi] w fun e w' => e = .returned (.bool (inB lo hi n)) ∧ w = w' := by
  by_cases h1 : lo ≤ n
  · by_cases h2 : n ≤ hi
    · go_enter Try.func52, Try.ntmps52
      go_wp2
      go_ret
      exact ⟨by simp [inB, h1, h2], rfl⟩
    · go_enter Try.func52, Try.ntmps52
      go_wp2
      go_ret
      exact ⟨by simp [inB, h1, h2], rfl⟩
  · go_enter Try.func52, Try.ntmps52
    go_wp2
    go_ret
    exact ⟨by simp [inB]; omega, rfl⟩
theorem c_l1Mod (n : Int) (w : World) : Calls Try.prog 47 #[.int .i64 n, .int .i64 4] w fun e w' => e = .returned (.int .i64 (n % 4)) ∧ w = w' := by
  have hb : -4 < n.tmod 4 ∧ n.tmod 4 < 4 := by rcases tmod4 n with ⟨h, e⟩ | ⟨h, e⟩ <;> omega
  have hm : n % 4 = if n.tmod 4 < 0 then n.tmod 4 + 4 else n.tmod 4 := by rcases tmod4 n with ⟨h, e⟩ | ⟨h, e⟩ <;> split <;> omega
  obtain ⟨hb1, hb2⟩ := hb
  have HM := Lib.hid hm
  clear hm
  go_enter Try.func47, Try.ntmps47
  go_wp2
  all_goals
    go_ret
    refine ⟨ret_int ?_, rfl⟩
    rw [HM.out]
    first | rw [if_pos (by assumption)] | rw [if_neg (by omega)]
theorem c_circle (n : Int) (w : World) : Calls Try.prog 53 #[.int .i64 n, .int .i64 4] w fun e w' => e = .returned (.int .i64 (n % 4)) ∧ w = w' := by
  have hb : -4 < n.tmod 4 ∧ n.tmod 4 < 4 := by rcases tmod4 n with ⟨h, e⟩ | ⟨h, e⟩ <;> omega
  have hm : n % 4 = (n.tmod 4 + 4) % 4 := by rcases tmod4 n with ⟨h, e⟩ | ⟨h, e⟩ <;> omega
  obtain ⟨hb1, hb2⟩ := hb
  have HM := Lib.hid hm
  clear hm
  go_enter Try.func53, Try.ntmps53
  go_wp2
  go_ret
  exact ⟨ret_int (by rw [HM.out]), rfl⟩
theorem c_rest (n : Int) (w : World) : Calls Try.prog 43 #[.int .i64 n, .int .i64 4] w fun e w' => e = .returned (.int .i64 (n % 4)) ∧ w = w' := by
  have hb : -4 < n.tmod 4 ∧ n.tmod 4 < 4 := by rcases tmod4 n with ⟨h, e⟩ | ⟨h, e⟩ <;> omega
  have hm : n % 4 = (n.tmod 4 + 4) % 4 := by rcases tmod4 n with ⟨h, e⟩ | ⟨h, e⟩ <;> omega
  obtain ⟨hb1, hb2⟩ := hb
  have HM := Lib.hid hm
  clear hm
  go_enter Try.func43, Try.ntmps43
  go_wp2
  go_ret
  exact ⟨ret_int (by rw [HM.out]), rfl⟩
theorem c_l21At (x y : Int) (w : World) : Calls Try.prog 46 #[.int .i64 x, .int .i64 y] w fun e w' => e = .returned (.int .i64 (cellN x y : Nat)) ∧ w = w' := by
  go_enter Try.func46, Try.ntmps46
  go_wp2_with (go_at_call 47; refine (c_l1Mod _ _).mono ?_; rintro e w' ⟨rfl, rfl⟩)
  go_ret
  exact ⟨ret_int (by rw [cellN_eq]), rfl⟩
theorem opp_wrapped (k : Nat) (hk : k < 16) : cellN (IntKind.i64.wrap (-(k : Int).tmod 4)) (IntKind.i64.wrap (-IntKind.i64.wrap ((k : Int) / 4))) = oppN k := by
  have h : ∀ j : Fin 16, cellN (IntKind.i64.wrap (-((j.val : Nat) : Int).tmod 4)) (IntKind.i64.wrap (-IntKind.i64.wrap (((j.val : Nat) : Int) / 4))) = oppN j.val := by decide +kernel
  exact h ⟨k, hk⟩
/-- The same, its value under a name of its own. -/
theorem c_l21At' (x y : Int) (r : Nat) (h : cellN x y = r) (w : World) : Calls Try.prog 46 #[.int .i64 x, .int .i64 y] w fun e w' => e = .returned (.int .i64 (r : Nat)) ∧ w = w' := by
  subst h; exact c_l21At x y w
theorem c_cellAt (x y : Int) (w : World) : Calls Try.prog 44 #[.int .i64 x, .int .i64 y] w fun e w' => e = .returned (.int .i64 (cellN x y : Nat)) ∧ w = w' := by
  go_enter Try.func44, Try.ntmps44
  go_wp2_with (go_at_call 53; refine (c_circle _ _).mono ?_; rintro e w' ⟨rfl, rfl⟩)
  go_ret
  exact ⟨ret_int (by rw [cellN_eq]), rfl⟩
theorem c_lcellAt (x y : Int) (w : World) : Calls Try.prog 27 #[.int .i64 x, .int .i64 y] w fun e w' => e = .returned (.int .i64 (cellN x y : Nat)) ∧ w = w' := by
  go_enter Try.func27, Try.ntmps27
  go_wp2_with (go_at_call 43; refine (c_rest _ _).mono ?_; rintro e w' ⟨rfl, rfl⟩)
  go_ret
  exact ⟨ret_int (by rw [cellN_eq]), rfl⟩
theorem c_opposite (k : Nat) (hk : k < 16) (w : World) : Calls Try.prog 40 #[.int .i64 k] w fun e w' => e = .returned (.int .i64 (oppN k : Nat)) ∧ w = w' := by
  go_enter Try.func40, Try.ntmps40
  go_wp2_with (go_at_call 44; refine (c_cellAt _ _ _).mono ?_; rintro e w' ⟨rfl, rfl⟩)
  go_ret
  exact ⟨ret_int (by rw [cellN_eq, oppN, cellN_eq]), rfl⟩
end Go.Proofs.Ytbnfnloaomjjbaa
