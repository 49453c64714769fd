/-
  Contracts over Gaussian integers: units, products, sums.
-/
import Derived.Test.YtbnfnloaomjjbaaSmall
import Derived.Test.YtbnfnloaomjjbaaBeamP
import Derived.Laws.BitsAllLaws
import Derived.Laws.BitsLemmas
namespace Go.Proofs.Ytbnfnloaomjjbaa
open Go.RowKit

theorem and3 (k : Nat) (hk : k ≤ 1000000) : bits .and .i64 (k : Int) 3 = ((k % 4 : Nat) : Int) := by
  have ea : ∀ c : Nat, c ≤ 1000000 → (BitVec.ofInt 64 (c : Int)).toNat = c := fun c hc => by
    rw [BitVec.ofInt_natCast, BitVec.toNat_ofNat]; exact Nat.mod_eq_of_lt (by omega)
  show IntKind.i64.wrap ((BitVec.ofInt 64 (k : Int) &&& BitVec.ofInt 64 ((3 : Nat) : Int)).toNat : Int) = _
  rw [BitVec.toNat_and, ea k hk, ea 3 (by omega), show (3 : Nat) = 2 ^ 2 - 1 from rfl, Nat.and_two_pow_sub_one_eq_mod]
  exact IntWalk.i64_in _ (by omega)

/-- What a function answers that makes a Gaussian integer. -/
def Gs (re im : Int) (w : World) (e : Ending) (w' : World) : Prop := e = .returned (.agg #[.int .i64 re, .int .i64 im]) ∧ Below w.heap.size w w'

theorem c_GaussUnit (k : Nat) (hk : k ≤ 1000) (w : World) : Calls Try.prog 51 #[.int .i64 (k : Nat)] w (Gs (uRe k) (uIm k) w) := by
  have ha := and3 k (by omega)
  have hm : k % 4 = 0 ∨ k % 4 = 1 ∨ k % 4 = 2 ∨ k % 4 = 3 := by omega
  rcases hm with h | h | h | h
  · rw [h] at ha
    have hr : uRe k = 1 := by simp [uRe, h]
    have hi : uIm k = 0 := by simp [uIm, h]
    rw [hr, hi]
    clear hr hi h
    have i0 : ∀ w, (Instr.index 65 (.agg #[.int .i64 1, .int .i64 0, .int .i64 0, .int .i64 1, .int .i64 (-1), .int .i64 0, .int .i64 0, .int .i64 (-1)]) (.int .i64 0)).run Try.prog w = .ok (.agg #[.int .i64 1, .int .i64 0]) w := fun _ => by kernel_rfl
    go_enter Try.func51, Try.ntmps51
    go_wp2
    refine bodyPost_ret (v := .agg #[.int .i64 1, .int .i64 0]) (by simp [results, Try.results51, go_sem]) rfl ⟨rfl, ?_⟩
    repeat first | exact Below.refl _ _ | refine Below.setCell ?_ (by simp) _ | refine Below.alloc ?_ (by simp) _
  · rw [h] at ha
    have hr : uRe k = 0 := by simp [uRe, h]
    have hi : uIm k = 1 := by simp [uIm, h]
    rw [hr, hi]
    clear hr hi h
    have i0 : ∀ w, (Instr.index 65 (.agg #[.int .i64 1, .int .i64 0, .int .i64 0, .int .i64 1, .int .i64 (-1), .int .i64 0, .int .i64 0, .int .i64 (-1)]) (.int .i64 1)).run Try.prog w = .ok (.agg #[.int .i64 0, .int .i64 1]) w := fun _ => by kernel_rfl
    go_enter Try.func51, Try.ntmps51
    go_wp2
    refine bodyPost_ret (v := .agg #[.int .i64 0, .int .i64 1]) (by simp [results, Try.results51, go_sem]) rfl ⟨rfl, ?_⟩
    repeat first | exact Below.refl _ _ | refine Below.setCell ?_ (by simp) _ | refine Below.alloc ?_ (by simp) _
  · rw [h] at ha
    have hr : uRe k = (-1) := by simp [uRe, h]
    have hi : uIm k = 0 := by simp [uIm, h]
    rw [hr, hi]
    clear hr hi h
    have i0 : ∀ w, (Instr.index 65 (.agg #[.int .i64 1, .int .i64 0, .int .i64 0, .int .i64 1, .int .i64 (-1), .int .i64 0, .int .i64 0, .int .i64 (-1)]) (.int .i64 2)).run Try.prog w = .ok (.agg #[.int .i64 (-1), .int .i64 0]) w := fun _ => by kernel_rfl
    go_enter Try.func51, Try.ntmps51
    go_wp2
    refine bodyPost_ret (v := .agg #[.int .i64 (-1), .int .i64 0]) (by simp [results, Try.results51, go_sem]) rfl ⟨rfl, ?_⟩
    repeat first | exact Below.refl _ _ | refine Below.setCell ?_ (by simp) _ | refine Below.alloc ?_ (by simp) _
  · rw [h] at ha
    have hr : uRe k = 0 := by simp [uRe, h]
    have hi : uIm k = (-1) := by simp [uIm, h]
    rw [hr, hi]
    clear hr hi h
    have i0 : ∀ w, (Instr.index 65 (.agg #[.int .i64 1, .int .i64 0, .int .i64 0, .int .i64 1, .int .i64 (-1), .int .i64 0, .int .i64 0, .int .i64 (-1)]) (.int .i64 3)).run Try.prog w = .ok (.agg #[.int .i64 0, .int .i64 (-1)]) w := fun _ => by kernel_rfl
    go_enter Try.func51, Try.ntmps51
    go_wp2
    refine bodyPost_ret (v := .agg #[.int .i64 0, .int .i64 (-1)]) (by simp [results, Try.results51, go_sem]) rfl ⟨rfl, ?_⟩
    repeat first | exact Below.refl _ _ | refine Below.setCell ?_ (by simp) _ | refine Below.alloc ?_ (by simp) _
theorem c_plus (a b c d : Int) (ha : -1000000000 ≤ a ∧ a ≤ 1000000000) (hb : -1000000000 ≤ b ∧ b ≤ 1000000000) (hc : -1000000000 ≤ c ∧ c ≤ 1000000000) (hd : -1000000000 ≤ d ∧ d ≤ 1000000000) (w : World) :
    Calls Try.prog 49 #[.agg #[.int .i64 a, .int .i64 b], .agg #[.int .i64 c, .int .i64 d]] w (Gs (a + c) (b + d) w) := by
  obtain ⟨a1, a2⟩ := ha
  obtain ⟨b1, b2⟩ := hb
  obtain ⟨c1, c2⟩ := hc
  obtain ⟨d1, d2⟩ := hd
  go_enter Try.func49, Try.ntmps49
  go_wp2
  refine bodyPost_ret (v := .agg #[.int .i64 (a + c), .int .i64 (b + d)]) (by simp [results, Try.results49, go_sem]) rfl ⟨rfl, ?_⟩
  repeat first | exact Below.refl _ _ | refine Below.setCell ?_ (by first | (simp; done) | (simp; omega)) _ | refine Below.alloc ?_ (by first | (simp; done) | (simp; omega)) _
theorem c_times (a b c d : Int) (ha : -1000000 ≤ a ∧ a ≤ 1000000) (hb : -1000000 ≤ b ∧ b ≤ 1000000) (hc : -1 ≤ c ∧ c ≤ 1) (hd : -1 ≤ d ∧ d ≤ 1) (w : World) :
    Calls Try.prog 50 #[.agg #[.int .i64 a, .int .i64 b], .agg #[.int .i64 c, .int .i64 d]] w (Gs (a * c - b * d) (a * d + b * c) w) := by
  have m : ∀ x y : Int, -1000000 ≤ x ∧ x ≤ 1000000 → -1 ≤ y ∧ y ≤ 1 → -1000000 ≤ x * y ∧ x * y ≤ 1000000 := by
    intro x y hx hy
    have : y = -1 ∨ y = 0 ∨ y = 1 := by omega
    rcases this with rfl | rfl | rfl <;> omega
  have m1 := m a c ha hc
  have m2 := m b d hb hd
  have m3 := m a d ha hd
  have m4 := m b c hb hc
  obtain ⟨p1, p2⟩ := m1
  obtain ⟨q1, q2⟩ := m2
  obtain ⟨r1, r2⟩ := m3
  obtain ⟨s1, s2⟩ := m4
  clear m ha hb hc hd
  go_enter Try.func50, Try.ntmps50
  go_wp2
  refine bodyPost_ret (v := .agg #[.int .i64 (a * c - b * d), .int .i64 (a * d + b * c)]) (by simp [results, Try.results50, go_sem]) rfl ⟨rfl, ?_⟩
  repeat first | exact Below.refl _ _ | refine Below.setCell ?_ (by first | (simp; done) | (simp; omega)) _ | refine Below.alloc ?_ (by first | (simp; done) | (simp; omega)) _
theorem c_sGaussUnit (k : Nat) (w : World) : Calls Try.prog 33 #[.int .i64 (k : Nat)] w (Gs (uRe k) (uIm k) w) := by
  have hm : k % 4 = 0 ∨ k % 4 = 1 ∨ k % 4 = 2 ∨ k % 4 = 3 := by omega
  have hz : ∀ j : Nat, k % 4 = j → ∀ w : World, Calls Try.prog 47 #[.int .i64 (k : Nat), .int .i64 4] w fun e w' => e = .returned (.int .i64 (j : Nat)) ∧ w = w' := fun j hj w => by
    have := c_l1Mod (k : Int) w
    rwa [show ((k : Nat) : Int) % 4 = ((j : Nat) : Int) from by omega] at this
  rcases hm with h | h | h | h
  · have C := Lib.hid (hz _ h)
    have hr : uRe k = 1 := by simp [uRe, h]
    have hi : uIm k = 0 := by simp [uIm, h]
    rw [hr, hi]
    clear hr hi h hz
    go_enter Try.func33, Try.ntmps33
    go_wp2_with (go_at_call 47; refine (C.out _).mono ?_; rintro e w' ⟨rfl, rfl⟩)
    refine bodyPost_ret (v := .agg #[.int .i64 1, .int .i64 0]) (by simp [results, Try.results33, go_sem]) rfl ⟨rfl, ?_⟩
    repeat first | exact Below.refl _ _ | refine Below.setCell ?_ (by first | (simp; done) | (simp; omega)) _ | refine Below.alloc ?_ (by first | (simp; done) | (simp; omega)) _
  · have C := Lib.hid (hz _ h)
    have hr : uRe k = 0 := by simp [uRe, h]
    have hi : uIm k = 1 := by simp [uIm, h]
    rw [hr, hi]
    clear hr hi h hz
    go_enter Try.func33, Try.ntmps33
    go_wp2_with (go_at_call 47; refine (C.out _).mono ?_; rintro e w' ⟨rfl, rfl⟩)
    refine bodyPost_ret (v := .agg #[.int .i64 0, .int .i64 1]) (by simp [results, Try.results33, go_sem]) rfl ⟨rfl, ?_⟩
    repeat first | exact Below.refl _ _ | refine Below.setCell ?_ (by first | (simp; done) | (simp; omega)) _ | refine Below.alloc ?_ (by first | (simp; done) | (simp; omega)) _
  · have C := Lib.hid (hz _ h)
    have hr : uRe k = (-1) := by simp [uRe, h]
    have hi : uIm k = 0 := by simp [uIm, h]
    rw [hr, hi]
    clear hr hi h hz
    go_enter Try.func33, Try.ntmps33
    go_wp2_with (go_at_call 47; refine (C.out _).mono ?_; rintro e w' ⟨rfl, rfl⟩)
    refine bodyPost_ret (v := .agg #[.int .i64 (-1), .int .i64 0]) (by simp [results, Try.results33, go_sem]) rfl ⟨rfl, ?_⟩
    repeat first | exact Below.refl _ _ | refine Below.setCell ?_ (by first | (simp; done) | (simp; omega)) _ | refine Below.alloc ?_ (by first | (simp; done) | (simp; omega)) _
  · have C := Lib.hid (hz _ h)
    have hr : uRe k = 0 := by simp [uRe, h]
    have hi : uIm k = (-1) := by simp [uIm, h]
    rw [hr, hi]
    clear hr hi h hz
    go_enter Try.func33, Try.ntmps33
    go_wp2_with (go_at_call 47; refine (C.out _).mono ?_; rintro e w' ⟨rfl, rfl⟩)
    refine bodyPost_ret (v := .agg #[.int .i64 0, .int .i64 (-1)]) (by simp [results, Try.results33, go_sem]) rfl ⟨rfl, ?_⟩
    repeat first | exact Below.refl _ _ | refine Below.setCell ?_ (by first | (simp; done) | (simp; omega)) _ | refine Below.alloc ?_ (by first | (simp; done) | (simp; omega)) _
end Go.Proofs.Ytbnfnloaomjjbaa
