/-
  Contracts: scores of fringes (the program's and the reference's).
-/
import Derived.Test.YtpanefjjghlhiaaFrTurn
namespace Go.Proofs.Ytpanefjjghlhiaa
open Go.RowKit

/-- The score, -1 of what is invalid. -/
def fsc (n : Nat) (L : Nat → Nat) (f : Nat → Nat → Int) (d r p : Int) : Int := if tnOk n L f d r p = true then score n (L 0) f d r p else -1
theorem fvB_Q4 {n : Nat} {L : Nat → Nat} {f : Nat → Nat → Int} (h : fvB n L f = true) : Q4 n (L 0) f := fun c hc t ht => ((fvB_true h).2.2 c hc).2 t ht
/-- Part of a score: all of k rows and j of the next. -/
def scTo (l : Nat) (f : Nat → Nat → Int) (d r p : Int) (k j : Nat) : Int := sumN (scRow l f d r p) k + sumN (sc1 f d r p k) j
theorem scTo_bd {n l : Nat} (f : Nat → Nat → Int) (d r p : Int) {k j : Nat} (hn : n ≤ 8) (hl : l ≤ 8) (hk : k ≤ n) (hj : j ≤ l) : 0 ≤ scTo l f d r p k j ∧ scTo l f d r p k j ≤ 72 := by
  have h1 := sumN_bd (f := scRow l f d r p) (M := 8) (n := n) (fun k _ => by have := scRow_bd l f d r p k; omega) k hk
  have h2 := sumN_bd (f := sc1 f d r p k) (M := 1) (n := l) (fun t _ => sc1_bd f d r p k t) j hj
  unfold scTo
  omega
theorem scTo_zero (l : Nat) (f : Nat → Nat → Int) (d r p : Int) (k : Nat) : scTo l f d r p k 0 = sumN (scRow l f d r p) k := by simp [scTo, sumN]
theorem scTo_next (l : Nat) (f : Nat → Nat → Int) (d r p : Int) (k : Nat) : scTo l f d r p k l = sumN (scRow l f d r p) (k + 1) := rfl
theorem scTo_one {l : Nat} {f : Nat → Nat → Int} {d r p : Int} {k j : Nat} (h : f k j = frF d r p k j) : scTo l f d r p k (j + 1) = scTo l f d r p k j + 1 := by
  unfold scTo
  simp only [sumN]
  rw [show sc1 f d r p k j = 1 from by simp [sc1, h]]
  omega
theorem scTo_none {l : Nat} {f : Nat → Nat → Int} {d r p : Int} {k j : Nat} (h : f k j ≠ frF d r p k j) : scTo l f d r p k (j + 1) = scTo l f d r p k j := by
  unfold scTo
  simp only [sumN]
  rw [show sc1 f d r p k j = 0 from by simp [sc1, h]]
  omega

set_option maxHeartbeats 2000000 in
theorem c_FringeScore_yes (a : Option Addr) (n l c : Nat) (V : Nat → Value) (L : Nat → Nat) (f : Nat → Nat → Int) (d r p : Int) (w : World) (h : RdR w w.heap.size a n V L f) (hv : fvB n L f = true) (hq : q3 d r p = true) (hl0 : L 0 = l) :
    Calls Try.prog 21 #[.slice a n c, .int .i64 d, .int .i64 r, .int .i64 p] w fun e w' => e = .returned (.int .i64 (score n l f d r p)) ∧ Below w.heap.size w w' := by
  have Q := fvB_Q4 hv
  obtain ⟨⟨h1, h2⟩, ⟨h3, h4⟩, _⟩ := fvB_true hv
  have C := Lib.hid (c_FringeTurn_yes a n l c V L f d r p w h hv hq hl0)
  rw [hl0] at h3 h4 Q
  have HQ := Lib.hid Q
  clear hl0 h Q
  go_enter Try.func21, Try.ntmps21
  go_wp2_with fail
  refine C.out.mono ?_
  rintro e w1 ⟨a1, c1, V1, rfl, hB, hM⟩
  have R := hM.rd
  clear C hM
  go_wp2
  go_loop [11, 28] (fun s i => ∃ k : Nat, k ≤ n ∧ s = .int .i64 (scTo l f d r p k 0) ∧ i = .int .i64 k) (fun _ i => n - (intOf i).toNat)
  case atStart => exact ⟨0, Nat.zero_le _, rfl, rfl⟩
  case round =>
    obtain ⟨k, hk, rfl, rfl⟩ := hrel
    by_cases hlt : k < n
    · obtain ⟨ad, A, cc, rfl, _, _, hk1, hA⟩ := R.cell hlt
      clear R
      go_wp2
      go_loop [11, 34] (fun s i => ∃ j : Nat, j ≤ l ∧ s = .int .i64 (scTo l f d r p k j) ∧ i = .int .i64 j) (fun _ i => l - (intOf i).toNat)
      case atStart => exact ⟨0, Nat.zero_le _, rfl, rfl⟩
      case round =>
        obtain ⟨j, hj, rfl, rfl⟩ := hrel
        obtain ⟨s1, s2⟩ := scTo_bd f d r p h2 h4 hk hj
        by_cases hjt : j < l
        · obtain ⟨ad2, rfl, _, hc2⟩ := hA.at_ hjt
          have hj1 : w1.cell? (ad2.add j) = some (.int .i64 (tnF f d r p k j)) := hc2 j hjt
          have hz := tn_zero (d := d) (r := r) (p := p) (HQ.out k hlt j hjt)
          clear hc2 hA
          by_cases e : tnF f d r p k j = 0
          · have e1 : (tnF f d r p k j == 0) = true := by simpa using e
            have HE := Lib.hid (scTo_one (l := l) (hz.1 e))
            clear e hz
            go_wp2
            go_round
            case rel => exact ⟨j + 1, by omega, by rw [HE.out], by go_num⟩
            case measure => simp [intOf]; omega
          · have e1 : (tnF f d r p k j == 0) = false := by simpa using e
            have HE := Lib.hid (scTo_none (l := l) (fun h => e (hz.2 h)))
            clear e hz
            go_wp2
            go_round
            case rel => exact ⟨j + 1, by omega, by rw [HE.out], by go_num⟩
            case measure => simp [intOf]; omega
        · obtain rfl : j = l := by omega
          go_wp2
          go_round
          case rel => exact ⟨k + 1, by omega, by rw [scTo_next, scTo_zero], by go_num⟩
          case measure => simp [intOf]; omega
    · obtain rfl : k = n := by omega
      go_wp2
      go_ret
      exact ⟨ret_int (by rw [scTo_zero]; rfl), hB⟩
theorem c_FringeScore (a : Option Addr) (n c : Nat) (V : Nat → Value) (L : Nat → Nat) (f : Nat → Nat → Int) (d r p : Int) (w : World) (hn : n ≤ 1048576) (h : RdR w w.heap.size a n V L f) :
    Calls Try.prog 21 #[.slice a n c, .int .i64 d, .int .i64 r, .int .i64 p] w fun e w' => e = .returned (.int .i64 (fsc n L f d r p)) ∧ Below w.heap.size w w' := by
  by_cases ht : tnOk n L f d r p = true
  · obtain ⟨hv, hq⟩ := tnOk_true ht
    rw [fsc, if_pos ht]
    exact c_FringeScore_yes a n (L 0) c V L f d r p w h hv hq rfl
  · have C := Lib.hid (c_FringeTurn_no a n c V L f d r p w hn h (tn_no ht))
    rw [fsc, if_neg ht]
    clear ht h
    go_enter Try.func21, Try.ntmps21
    go_wp2_with (go_at_call 22; refine C.out.mono ?_; rintro e w1 ⟨rfl, hB⟩)
    go_ret
    exact ⟨rfl, hB⟩
end Go.Proofs.Ytpanefjjghlhiaa
