/-
  Contracts of the functions over lists of lists of integers: sizes, copies, comparisons, marks.
-/
import Derived.Test.YtpanefjjghlhiaaInts0
import Derived.Test.YtpanefjjghlhiaaFrMd
namespace Go.Proofs.Ytpanefjjghlhiaa
open Go.RowKit

set_option maxHeartbeats 1000000 in
theorem c_sameRows (a a' : Option Addr) (n n' c c' : Nat) (V V' : Nat → Value) (L L' : Nat → Nat) (f f' : Nat → Nat → Int) (w : World) (hn : n ≤ 1048576) (hn' : n' ≤ 1048576) (hL : ∀ r, r < n → L r ≤ 1048576) (hL' : ∀ r, r < n' → L' r ≤ 1048576)
    (h : RdR w w.heap.size a n V L f) (h' : RdR w w.heap.size a' n' V' L' f') :
    Calls Try.prog 11 #[.slice a n c, .slice a' n' c'] w fun e w' => e = .returned (.bool (eqR n n' L L' f f')) ∧ ∃ m, w' = w.drewN m := by
  by_cases hnn : n = n'
  · subst hnn
    have HL := Lib.hid hL
    have HL' := Lib.hid hL'
    clear hL hL'
    go_enter Try.func11, Try.ntmps11
    go_wp2
    go_loopw [5] (fun i wr => ∃ k m : Nat, k ≤ n ∧ i = .int .i64 k ∧ wr = w.drewN m ∧ AllTo (fun r => eqN (L r) (L' r) (f r) (f' r)) k) (fun i _ => n - (intOf i).toNat)
    case atStart => exact ⟨0, 0, Nat.zero_le _, rfl, rfl, AllTo.zero _⟩
    case round =>
      obtain ⟨k, m, hk, rfl, rfl, ha⟩ := hrel
      have HA := Lib.hid ha
      clear ha
      by_cases hlt : k < n
      · obtain ⟨ad, A, cc, rfl, _, _, hk1, hA⟩ := h.cell hlt
        obtain ⟨ad', A', cc', rfl, _, _, hk2, hA'⟩ := h'.cell hlt
        have hl := HL.out k hlt
        have hl' := HL'.out k hlt
        have hz : (k : Int) < (n : Int) := by omega
        clear h h'
        by_cases e : eqN (L k) (L' k) (f k) (f' k) = true
        · have ct : ∀ q, Calls Try.prog 20 #[.slice A (L k) cc, .slice A' (L' k) cc'] (w.drewN q) fun e w' => e = .returned (.bool true) ∧ ∃ m, w' = (w.drewN q).drewN m := fun q => by
            rw [← e]; exact c_sameInts A A' _ _ cc cc' _ _ _ hl hl' (hA.drewN q) (hA'.drewN q)
          have C := Lib.hid ct
          have HE := Lib.hid e
          clear e ct
          go_wp2
          go_quiet ((go_at_call 20; exact qda (C.out _)))
          go_wp2
          go_roundw
          case rel => exact ⟨k + 1, _, by omega, by go_num, rfl, HA.out.succ HE.out⟩
          case measure => simp [intOf]; omega
        · have e' : eqN (L k) (L' k) (f k) (f' k) = false := by simpa using e
          have ct : ∀ q, Calls Try.prog 20 #[.slice A (L k) cc, .slice A' (L' k) cc'] (w.drewN q) fun e w' => e = .returned (.bool false) ∧ ∃ m, w' = (w.drewN q).drewN m := fun q => by
            rw [← e']; exact c_sameInts A A' _ _ cc cc' _ _ _ hl hl' (hA.drewN q) (hA'.drewN q)
          have C := Lib.hid ct
          have HE := Lib.hid e'
          clear e e' ct
          go_wp2
          go_quiet ((go_at_call 20; exact qda (C.out _)))
          go_wp2
          go_ret
          exact ⟨ret_bool (eqR_bad hlt HE.out), drew2 _ _ _⟩
      · go_wp2
        go_ret
        exact ⟨ret_bool (eqR_good (fun j hj => HA.out j (by omega))), _, rfl⟩
  · have hz : ((n : Int) == (n' : Int)) = false := by simpa using (by omega : (n : Int) ≠ (n' : Int))
    have HN := Lib.hid hnn
    clear hnn hL hL'
    go_enter Try.func11, Try.ntmps11
    go_wp2
    go_ret
    exact ⟨ret_bool (eqR_len HN.out), 0, rfl⟩
end Go.Proofs.Ytpanefjjghlhiaa
