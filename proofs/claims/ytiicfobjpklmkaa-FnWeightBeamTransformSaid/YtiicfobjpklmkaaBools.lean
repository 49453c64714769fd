/-
  Contracts of the functions over lists of bools: copies, comparisons, valid coverages.
-/
import Derived.Test.YtiicfobjpklmkaaInts
namespace Go.Proofs.Ytiicfobjpklmkaa
open Go.RowKit

theorem info_bool : (Try.prog.info? 4).map (fun i => (i.zero, i.size, i.bytes)) = some (some (.bool false), 1, 1) := by kernel_rfl

/-- A copy: a new row, the same numbers. -/
theorem c_toBoolS (A : Option Addr) (n c : Nat) (f : Nat → Bool) (w : World) (hn : n ≤ 1048576) (h : Rd w w.heap.size A n (fun k => .bool (f k))) :
    Calls Try.prog 25 #[.slice A n c] w fun e w' => e = .returned (.slice (some ⟨w.heap.size, 0, none⟩) n n) ∧ Below w.heap.size w w' ∧ Row w' w.heap.size 4 n (fun k => .bool (f k)) := by
  have hmk := run_make_row' (P := Try.prog) 32 4 (.bool false) 1 Try.underlying32 info_bool rfl .i64 .i64 n (by omega) (by omega)
  go_enter Try.func25, Try.ntmps25
  go_wp2
  clear hmk
  go_loopw [4] (fun i wr => ∃ k : Nat, k ≤ n ∧ i = .int .i64 k ∧ Below w.heap.size w wr ∧ Row wr w.heap.size 4 n (fun j => if j < k then .bool (f j) else .bool false)) (fun i _ => n - (intOf i).toNat)
  case atStart => exact ⟨0, Nat.zero_le _, rfl, (Below.refl _ _).alloc (Nat.le_refl _) _, (Row.made _ _ _ _).congr (fun i _ => by simp)⟩
  case round =>
    obtain ⟨k, hk, rfl, hb, hr⟩ := hrel
    by_cases hlt : k < n
    · obtain ⟨ad, rfl, hab, hc⟩ := h.at_ hlt
      have h1 : wr.cell? (ad.add k) = some (.bool (f k)) := (hb.cell (by rw [block_add]; exact hab)).trans (hc k hlt)
      have h2 : wr.cell? ⟨w.heap.size, k, none⟩ = some (.bool false) := by simpa using hr.cell hlt
      have h3 : wr.frozen? ⟨w.heap.size, k, none⟩ = false := hr.frozen k
      have R : Row (wr.setCell ⟨w.heap.size, k, none⟩ (.bool (f k))) w.heap.size 4 n (fun j => if j < k + 1 then .bool (f j) else .bool false) := (hr.set k _).congr (fun j _ => by
        by_cases e : j = k
        · subst e; simp
        · rw [if_neg e]; by_cases h : j < k
          · rw [if_pos h, if_pos (by omega)]
          · rw [if_neg h, if_neg (by omega)])
      clear hc h hr
      go_wp2
      go_roundw
      case rel => exact ⟨k + 1, by omega, by go_num, hb.setCell (Nat.le_refl _) _, R⟩
      case measure => simp [intOf]; omega
    · go_wp2
      go_ret
      exact ⟨rfl, hb, hr.congr (fun j hj => by rw [if_pos (by omega)])⟩
theorem c_eqBoolS (A A' : Option Addr) (n n' c c' : Nat) (f f' : Nat → Bool) (w : World) (hn : n ≤ 1048576) (hn' : n' ≤ 1048576) (h : Rd w w.heap.size A n (fun k => .bool (f k))) (h' : Rd w w.heap.size A' n' (fun k => .bool (f' k))) :
    Calls Try.prog 27 #[.slice A n c, .slice A' n' c'] w fun e w' => e = .returned (.bool (eqNB n n' f f')) ∧ ∃ m, w' = w.drewN m := by
  by_cases hnn : n = n'
  · subst hnn
    go_enter Try.func27, Try.ntmps27
    go_wp2
    go_loopw [5] (fun i wr => ∃ k m : Nat, k ≤ n ∧ i = .int .i64 k ∧ wr = w.drewN m ∧ AllTo (fun k => decide (f k = f' k)) k) (fun i _ => n - (intOf i).toNat)
    case atStart => exact ⟨0, 0, Nat.zero_le _, rfl, rfl, AllTo.zero _⟩
    case round =>
      obtain ⟨k, m, hk, rfl, rfl, ha⟩ := hrel
      have HA := Lib.hid ha
      clear ha
      by_cases hlt : k < n
      · obtain ⟨ad, rfl, _, hc⟩ := h.at_ hlt
        obtain ⟨ad', rfl, _, hc'⟩ := h'.at_ hlt
        have h1 : w.cell? (ad.add k) = some (.bool (f k)) := hc k hlt
        have h2 : w.cell? (ad'.add k) = some (.bool (f' k)) := hc' k hlt
        have hz : (k : Int) < (n : Int) := by omega
        clear hc hc' h h'
        by_cases e : f k = f' k
        · have he : (f k == f' k) = true := by simpa using e
          have HE := Lib.hid e
          clear e
          go_wp2
          go_quiet (fail)
          go_wp2
          go_roundw
          case rel => exact ⟨k + 1, _, by omega, by go_num, rfl, HA.out.succ (by simpa using HE.out)⟩
          case measure => simp [intOf]; omega
        · have he : (f k == f' k) = false := by simpa using e
          have HE := Lib.hid e
          clear e
          go_wp2
          go_quiet (fail)
          go_wp2
          go_ret
          exact ⟨ret_bool (eqNB_bad hlt HE.out), drew2 _ _ _⟩
      · go_wp2
        go_ret
        exact ⟨ret_bool (eqNB_good (fun j hj => by simpa using HA.out j (by omega))), _, rfl⟩
  · have hz : ((n : Int) == (n' : Int)) = false := by simpa using (by omega : (n : Int) ≠ (n' : Int))
    have HN := Lib.hid hnn
    clear hnn
    go_enter Try.func27, Try.ntmps27
    go_wp2
    go_ret
    exact ⟨ret_bool (eqNB_len HN.out), 0, rfl⟩
end Go.Proofs.Ytiicfobjpklmkaa
