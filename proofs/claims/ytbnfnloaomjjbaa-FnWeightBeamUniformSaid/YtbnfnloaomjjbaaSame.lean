/-
  Comparisons of the laws; sums and transforms of skies; the number of set cells.
-/
import Derived.Test.YtbnfnloaomjjbaaCovers
namespace Go.Proofs.Ytbnfnloaomjjbaa
open Go.RowKit

theorem c_sameInts (A A' : Option Addr) (n n' c c' : Nat) (f f' : Nat → Int) (w : World) (hn : n ≤ 1048576) (hn' : n' ≤ 1048576) (h : Rd w w.heap.size A n (fun k => .int .i64 (f k))) (h' : Rd w w.heap.size A' n' (fun k => .int .i64 (f' k))) :
    Calls Try.prog 11 #[.slice A n c, .slice A' n' c'] w fun e w' => e = .returned (.bool (eqN n n' f f')) ∧ ∃ m, w' = w.drewN m := by
  by_cases hnn : n = n'
  · subst hnn
    go_enter Try.func11, Try.ntmps11
    go_wp2
    go_loopw [5] (fun i wr => ∃ k m : Nat, k ≤ n ∧ i = .int .i64 k ∧ wr = w.drewN m ∧ AllTo (fun k => decide (f k = f' k)) k) (fun i _ => n - (intOf i).toNat)
    case atStart => exact ⟨0, 0, Nat.zero_le _, rfl, rfl, AllTo.zero _⟩
    case round =>
      obtain ⟨k, m, hk, rfl, rfl, ha⟩ := hrel
      have HA := Lib.hid ha
      clear ha
      by_cases hlt : k < n
      · obtain ⟨ad, rfl, _, hc⟩ := h.at_ hlt
        obtain ⟨ad', rfl, _, hc'⟩ := h'.at_ hlt
        have h1 : w.cell? (ad.add k) = some (.int .i64 (f k)) := hc k hlt
        have h2 : w.cell? (ad'.add k) = some (.int .i64 (f' k)) := hc' k hlt
        have hz : (k : Int) < (n : Int) := by omega
        clear hc hc' h h'
        by_cases e : f k = f' k
        · have he : (f k == f' k) = true := by simpa using e
          have HE := Lib.hid e
          clear e
          go_wp2
          go_quiet (fail)
          go_wp2
          go_roundw
          case rel => exact ⟨k + 1, _, by omega, by go_num, rfl, HA.out.succ (by simpa using HE.out)⟩
          case measure => simp [intOf]; omega
        · have he : (f k == f' k) = false := by simpa using e
          have HE := Lib.hid e
          clear e
          go_wp2
          go_quiet (fail)
          go_wp2
          go_ret
          exact ⟨ret_bool (eqN_bad hlt HE.out), drew2 _ _ _⟩
      · go_wp2
        go_ret
        exact ⟨ret_bool (eqN_good (fun j hj => by simpa using HA.out j (by omega))), _, rfl⟩
  · have hz : ((n : Int) == (n' : Int)) = false := by simpa using (by omega : (n : Int) ≠ (n' : Int))
    have HN := Lib.hid hnn
    clear hnn
    go_enter Try.func11, Try.ntmps11
    go_wp2
    go_ret
    exact ⟨ret_bool (eqN_len HN.out), 0, rfl⟩
theorem c_sameFlags (A A' : Option Addr) (n n' c c' : Nat) (f f' : Nat → Bool) (w : World) (hn : n ≤ 1048576) (hn' : n' ≤ 1048576) (h : Rd w w.heap.size A n (fun k => .bool (f k))) (h' : Rd w w.heap.size A' n' (fun k => .bool (f' k))) :
    Calls Try.prog 24 #[.slice A n c, .slice A' n' c'] w fun e w' => e = .returned (.bool (eqNB n n' f f')) ∧ ∃ m, w' = w.drewN m := by
  by_cases hnn : n = n'
  · subst hnn
    go_enter Try.func24, Try.ntmps24
    go_wp2
    go_loopw [5] (fun i wr => ∃ k m : Nat, k ≤ n ∧ i = .int .i64 k ∧ wr = w.drewN m ∧ AllTo (fun k => decide (f k = f' k)) k) (fun i _ => n - (intOf i).toNat)
    case atStart => exact ⟨0, 0, Nat.zero_le _, rfl, rfl, AllTo.zero _⟩
    case round =>
      obtain ⟨k, m, hk, rfl, rfl, ha⟩ := hrel
      have HA := Lib.hid ha
      clear ha
      by_cases hlt : k < n
      · obtain ⟨ad, rfl, _, hc⟩ := h.at_ hlt
        obtain ⟨ad', rfl, _, hc'⟩ := h'.at_ hlt
        have h1 : w.cell? (ad.add k) = some (.bool (f k)) := hc k hlt
        have h2 : w.cell? (ad'.add k) = some (.bool (f' k)) := hc' k hlt
        have hz : (k : Int) < (n : Int) := by omega
        clear hc hc' h h'
        by_cases e : f k = f' k
        · have he : (f k == f' k) = true := by simpa using e
          have HE := Lib.hid e
          clear e
          go_wp2
          go_quiet (fail)
          go_wp2
          go_roundw
          case rel => exact ⟨k + 1, _, by omega, by go_num, rfl, HA.out.succ (by simpa using HE.out)⟩
          case measure => simp [intOf]; omega
        · have he : (f k == f' k) = false := by simpa using e
          have HE := Lib.hid e
          clear e
          go_wp2
          go_quiet (fail)
          go_wp2
          go_ret
          exact ⟨ret_bool (eqNB_bad hlt HE.out), drew2 _ _ _⟩
      · go_wp2
        go_ret
        exact ⟨ret_bool (eqNB_good (fun j hj => by simpa using HA.out j (by omega))), _, rfl⟩
  · have hz : ((n : Int) == (n' : Int)) = false := by simpa using (by omega : (n : Int) ≠ (n' : Int))
    have HN := Lib.hid hnn
    clear hnn
    go_enter Try.func24, Try.ntmps24
    go_wp2
    go_ret
    exact ⟨ret_bool (eqNB_len HN.out), 0, rfl⟩

/-- The number of set cells. -/
def cmany (f : Nat → Bool) : Int := sumN (uni f) 16
def cmanyB (n : Nat) (f : Nat → Bool) : Int := if cvB n f = true then cmany f else -1
set_option maxHeartbeats 1000000 in
theorem c_CoverMany (A : Option Addr) (n c : Nat) (f : Nat → Bool) (w : World) (hn : n ≤ 1048576) (h : Rd w w.heap.size A n (fun k => .bool (f k))) :
    Calls Try.prog 20 #[.slice A n c] w fun e w' => e = .returned (.int .i64 (cmanyB n f)) ∧ ∃ m, w' = w.drewN m := by
  by_cases hv : cvB n f = true
  · obtain ⟨hnn, _⟩ := cvB_true hv
    subst hnn
    have hs := fun k (hk : k ≤ 16) => sumN_bd (f := uni f) (M := 1) (n := 16) (fun k _ => by unfold uni; split <;> omega) k hk
    have HS := Lib.hid hs
    clear hs
    go_enter Try.func20, Try.ntmps20
    go_wp2_with (go_at_call 37; refine (c_CoverValid _ _ _ f _ (by omega) h).mono ?_; rintro e w' ⟨rfl, m0, rfl⟩)
    go_loopw [3, 11] (fun s i wr => ∃ k m : Nat, k ≤ 16 ∧ s = .int .i64 (sumN (uni f) k) ∧ i = .int .i64 k ∧ wr = w.drewN m) (fun _ i _ => 16 - (intOf i).toNat)
    case atStart => exact ⟨0, m0, Nat.zero_le _, rfl, rfl, rfl⟩
    case round =>
      obtain ⟨k, m, hk, rfl, rfl, rfl⟩ := hrel
      have hsb := HS.out k hk
      obtain ⟨hs1, hs2⟩ := hsb
      by_cases hlt : k < 16
      · obtain ⟨ad, rfl, _, hc⟩ := h.at_ hlt
        have h1 : w.cell? (ad.add k) = some (.bool (f k)) := hc k hlt
        clear hc h
        by_cases hf : f k = true
        · rw [hf] at h1
          have HU := Lib.hid (show uni f k = 1 from by simp [uni, hf])
          clear hf
          go_wp2
          go_roundw
          case rel => exact ⟨k + 1, _, by omega, by rw [sumN, HU.out], by go_num, rfl⟩
          case measure => simp [intOf]; omega
        · rw [show f k = false from by simpa using hf] at h1
          have HU := Lib.hid (show uni f k = 0 from by simp [uni, hf])
          clear hf
          go_wp2
          go_roundw
          case rel => exact ⟨k + 1, _, by omega, by rw [sumN, HU.out, Int.add_zero], by go_num, rfl⟩
          case measure => simp [intOf]; omega
      · go_wp2
        go_ret
        exact ⟨ret_int (by rw [cmanyB, if_pos hv, cmany]; congr 1; omega), _, rfl⟩
  · have hv' : cvB n f = false := by simpa using hv
    clear hv
    go_enter Try.func20, Try.ntmps20
    go_wp2_with (go_at_call 37; refine (c_CoverValid _ _ _ f _ (by omega) h).mono ?_; rintro e w' ⟨rfl, m0, rfl⟩)
    go_ret
    exact ⟨ret_int (by rw [cmanyB, if_neg (by rw [hv']; simp)]), _, rfl⟩
end Go.Proofs.Ytbnfnloaomjjbaa
