/-
  Contracts: the fit of fringes (the program's and the reference's).
-/
import Derived.Test.YtpanefjjghlhiaaFrScore
namespace Go.Proofs.Ytpanefjjghlhiaa
open Go.RowKit

theorem results_tmp4 {fn : Func} {t u v x : Tmp} (h : fn.results = #[.tmp t, .tmp u, .tmp v, .tmp x]) (tmps : Array Value) (P : Program) (w : World) :
    (results fn tmps).run P w = .ok (.tuple #[tmps.getD t undef, tmps.getD u undef, tmps.getD v undef, tmps.getD x undef]) w := by
  simp [results, h]
/-- The greatest score before k, -1 at first. -/
def mostN (s : Nat → Int) (k : Nat) : Int := if k = 0 then -1 else s (bestN s k)
theorem most_up {s : Nat → Int} {k : Nat} (h0 : 0 ≤ s k) (h : mostN s k < s k) : bestN s (k + 1) = k ∧ mostN s (k + 1) = s k := by
  have e : bestN s (k + 1) = k := by
    simp only [bestN]
    by_cases hk : k = 0
    · subst hk; simp [bestN]
    · unfold mostN at h
      rw [if_neg hk] at h
      rw [if_pos h]
  exact ⟨e, by unfold mostN; rw [if_neg (by omega), e]⟩
theorem most_stay {s : Nat → Int} {k : Nat} (h0 : 0 ≤ s k) (h : ¬ mostN s k < s k) : bestN s (k + 1) = bestN s k ∧ mostN s (k + 1) = mostN s k := by
  have hk : k ≠ 0 := fun e => by subst e; unfold mostN at h; simp at h; omega
  have e : bestN s (k + 1) = bestN s k := by
    simp only [bestN]
    unfold mostN at h
    rw [if_neg hk] at h
    rw [if_neg h]
  exact ⟨e, by unfold mostN; rw [if_neg (by omega), if_neg hk, e]⟩
theorem mostN_bd {s : Nat → Int} {M : Int} (h : ∀ k, 0 ≤ s k ∧ s k ≤ M) (hM : 0 ≤ M) (k : Nat) : -1 ≤ mostN s k ∧ mostN s k ≤ M := by
  unfold mostN
  split
  · omega
  · have := h (bestN s k); omega
theorem scN_bd {n l : Nat} {f : Nat → Nat → Int} (hn : n ≤ 8) (hl : l ≤ 8) (k : Nat) : 0 ≤ scN n l f k ∧ scN n l f k ≤ 64 := by
  have := score_bd n l f ((k / 16 : Nat) : Int) ((k / 4 % 4 : Nat) : Int) ((k % 4 : Nat) : Int)
  unfold scN
  have h2 : (n : Int) * (l : Int) ≤ 8 * 8 := Int.mul_le_mul (by omega) (by omega) (by omega) (by omega)
  omega
theorem bestN_lt' {s : Nat → Int} {k : Nat} (h : k ≤ 64) : bestN s k < 64 := by
  by_cases h0 : k = 0
  · subst h0; simp [bestN]
  · have := bestN_lt s k (by omega); omega
/-- The answer of a fit. -/
def fitV (n : Nat) (L : Nat → Nat) (f : Nat → Nat → Int) : Value :=
  if fvB n L f = true then .tuple #[.int .i64 (fd (fitN n (L 0) f)), .int .i64 (fr (fitN n (L 0) f)), .int .i64 (fp (fitN n (L 0) f)), .bool true] else .tuple #[.int .i64 0, .int .i64 0, .int .i64 0, .bool false]
theorem div_c (k : Nat) : (k : Int) / 16 = fd k ∧ (k : Int) / 4 % 4 = fr k ∧ (k : Int) % 4 = fp k := by unfold fd fr fp; omega

set_option maxHeartbeats 2000000 in
theorem c_FringeFit_yes (a : Option Addr) (n l c : Nat) (V : Nat → Value) (L : Nat → Nat) (f : Nat → Nat → Int) (w : World) (h : RdR w w.heap.size a n V L f) (hv : fvB n L f = true) (hl0 : L 0 = l) :
    Calls Try.prog 12 #[.slice a n c] w fun e w' => e = .returned (.tuple #[.int .i64 (fd (fitN n l f)), .int .i64 (fr (fitN n l f)), .int .i64 (fp (fitN n l f)), .bool true]) ∧ Below w.heap.size w w' := by
  obtain ⟨⟨h1, h2⟩, ⟨h3, h4⟩, _⟩ := fvB_true hv
  rw [hl0] at h3 h4
  have C := Lib.hid (c_FringeValid a n c V L f w (by omega) h)
  have D : Hid (∀ (k : Nat) (w' : World), k < 64 → Below w.heap.size w w' → Calls Try.prog 21 #[.slice a n c, .int .i64 ((k : Int) / 16), .int .i64 ((k : Int) / 4 % 4), .int .i64 ((k : Int) % 4)] w' fun e w'' => e = .returned (.int .i64 (scN n l f k)) ∧ Below w'.heap.size w' w'') := Lib.hid fun k w' hk hb => by
    obtain ⟨e1, e2, e3⟩ := div_c k
    rw [e1, e2, e3]
    exact c_FringeScore_yes a n l c V L f (fd k) (fr k) (fp k) w' ((h.below hb).more hb.size) hv (f_q3 hk) hl0
  have HS := Lib.hid (scN_bd (f := f) h2 h4)
  clear h hl0
  go_enter Try.func12, Try.ntmps12
  go_wp2_with (go_at_call 6; refine C.out.mono ?_; rintro e w' ⟨rfl, rfl⟩)
  clear C
  go_loopw [6, 7, 13] (fun b m i wr => ∃ k : Nat, k ≤ 64 ∧ b = .int .i64 (bestN (scN n l f) k : Nat) ∧ m = .int .i64 (mostN (scN n l f) k) ∧ i = .int .i64 k ∧ Below w.heap.size w wr) (fun _ _ i _ => 64 - (intOf i).toNat)
  case atStart => exact ⟨0, Nat.zero_le _, rfl, rfl, rfl, Below.refl _ _⟩
  case round =>
    obtain ⟨k, hk, rfl, rfl, rfl, hB⟩ := hrel
    obtain ⟨s1, s2⟩ := HS.out k
    obtain ⟨t1, t2⟩ := mostN_bd HS.out (by omega) k
    by_cases hlt : k < 64
    · by_cases hm : mostN (scN n l f) k < scN n l f k
      · obtain ⟨e1, e2⟩ := most_up s1 hm
        have E1 := Lib.hid e1
        have E2 := Lib.hid e2
        clear e1 e2
        go_wp2_with (go_at_call 21; refine (D.out k _ hlt hB).mono ?_; rintro e w1 ⟨rfl, b1⟩)
        go_roundw
        case rel => exact ⟨k + 1, by omega, by rw [E1.out], by rw [E2.out], by go_num, below_seq hB b1⟩
        case measure => simp [intOf]; omega
      · obtain ⟨e1, e2⟩ := most_stay s1 hm
        have E1 := Lib.hid e1
        have E2 := Lib.hid e2
        clear e1 e2
        go_wp2_with (go_at_call 21; refine (D.out k _ hlt hB).mono ?_; rintro e w1 ⟨rfl, b1⟩)
        go_roundw
        case rel => exact ⟨k + 1, by omega, by rw [E1.out], by rw [E2.out], by go_num, below_seq hB b1⟩
        case measure => simp [intOf]; omega
    · obtain rfl : k = 64 := by omega
      have hb := bestN_lt' (s := scN n l f) hk
      obtain ⟨e1, e2, e3⟩ := div_c (bestN (scN n l f) 64)
      have E1 := Lib.hid e1
      have E2 := Lib.hid e2
      have E3 := Lib.hid e3
      clear e1 e2 e3
      go_wp2
      (try simp only [Exit.inBlock, Exit.then])
      refine bodyPost_ret (results_tmp4 rfl _ _ _) rfl ?_
      exact ⟨by rw [E1.out, E2.out, E3.out]; rfl, hB⟩
theorem c_FringeFit (a : Option Addr) (n c : Nat) (V : Nat → Value) (L : Nat → Nat) (f : Nat → Nat → Int) (w : World) (hn : n ≤ 1048576) (h : RdR w w.heap.size a n V L f) :
    Calls Try.prog 12 #[.slice a n c] w fun e w' => e = .returned (fitV n L f) ∧ Below w.heap.size w w' := by
  by_cases hv : fvB n L f = true
  · rw [fitV, if_pos hv]
    exact c_FringeFit_yes a n (L 0) c V L f w h hv rfl
  · have C := Lib.hid (c_FringeValid a n c V L f w hn h)
    rw [fitV, if_neg hv]
    have hv' : fvB n L f = false := by simpa using hv
    clear h hv
    go_enter Try.func12, Try.ntmps12
    go_wp2_with (go_at_call 6; refine C.out.mono ?_; rintro e w' ⟨rfl, rfl⟩)
    (try simp only [Exit.inBlock, Exit.then])
    refine bodyPost_ret (results_tmp4 rfl _ _ _) rfl ?_
    exact ⟨rfl, Below.refl _ _⟩
end Go.Proofs.Ytpanefjjghlhiaa
