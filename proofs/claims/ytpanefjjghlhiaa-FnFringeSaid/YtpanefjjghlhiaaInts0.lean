/-
  Contracts of the functions over lists of integers that do not name a program of weights: copies, comparisons, marks.
-/
import Derived.Test.YtpanefjjghlhiaaFrVal
namespace Go.Proofs.Ytpanefjjghlhiaa
open Go.RowKit

theorem c_sameInts (A A' : Option Addr) (n n' c c' : Nat) (f f' : Nat → Int) (w : World) (hn : n ≤ 1048576) (hn' : n' ≤ 1048576) (h : Rd w w.heap.size A n (fun k => .int .i64 (f k))) (h' : Rd w w.heap.size A' n' (fun k => .int .i64 (f' k))) :
    Calls Try.prog 20 #[.slice A n c, .slice A' n' c'] w fun e w' => e = .returned (.bool (eqN n n' f f')) ∧ ∃ m, w' = w.drewN m := by
  by_cases hnn : n = n'
  · subst hnn
    go_enter Try.func20, Try.ntmps20
    go_wp2
    go_loopw [5] (fun i wr => ∃ k m : Nat, k ≤ n ∧ i = .int .i64 k ∧ wr = w.drewN m ∧ AllTo (fun k => decide (f k = f' k)) k) (fun i _ => n - (intOf i).toNat)
    case atStart => exact ⟨0, 0, Nat.zero_le _, rfl, rfl, AllTo.zero _⟩
    case round =>
      obtain ⟨k, m, hk, rfl, rfl, ha⟩ := hrel
      have HA := Lib.hid ha
      clear ha
      by_cases hlt : k < n
      · obtain ⟨ad, rfl, _, hc⟩ := h.at_ hlt
        obtain ⟨ad', rfl, _, hc'⟩ := h'.at_ hlt
        have h1 : w.cell? (ad.add k) = some (.int .i64 (f k)) := hc k hlt
        have h2 : w.cell? (ad'.add k) = some (.int .i64 (f' k)) := hc' k hlt
        have hz : (k : Int) < (n : Int) := by omega
        clear hc hc' h h'
        by_cases e : f k = f' k
        · have he : (f k == f' k) = true := by simpa using e
          have HE := Lib.hid e
          clear e
          go_wp2
          go_quiet (fail)
          go_wp2
          go_roundw
          case rel => exact ⟨k + 1, _, by omega, by go_num, rfl, HA.out.succ (by simpa using HE.out)⟩
          case measure => simp [intOf]; omega
        · have he : (f k == f' k) = false := by simpa using e
          have HE := Lib.hid e
          clear e
          go_wp2
          go_quiet (fail)
          go_wp2
          go_ret
          exact ⟨ret_bool (eqN_bad hlt HE.out), drew2 _ _ _⟩
      · go_wp2
        go_ret
        exact ⟨ret_bool (eqN_good (fun j hj => by simpa using HA.out j (by omega))), _, rfl⟩
  · have hz : ((n : Int) == (n' : Int)) = false := by simpa using (by omega : (n : Int) ≠ (n' : Int))
    have HN := Lib.hid hnn
    clear hnn
    go_enter Try.func20, Try.ntmps20
    go_wp2
    go_ret
    exact ⟨ret_bool (eqN_len HN.out), 0, rfl⟩
end Go.Proofs.Ytpanefjjghlhiaa
