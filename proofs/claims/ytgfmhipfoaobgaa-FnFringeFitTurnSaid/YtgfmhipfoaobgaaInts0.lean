/-
  Contracts of the functions over lists of integers that do not name a program of weights: copies, comparisons, marks.
-/
import Derived.Test.YtgfmhipfoaobgaaFrVal
namespace Go.Proofs.Ytgfmhipfoaobgaa
open Go.RowKit

/-- A copy: a new row, the same numbers. -/
theorem c_toIntS (A : Option Addr) (n c : Nat) (f : Nat → Int) (w : World) (hn : n ≤ 1048576) (h : Rd w w.heap.size A n (fun k => .int .i64 (f k))) :
    Calls Try.prog 50 #[.slice A n c] w fun e w' => e = .returned (.slice (some ⟨w.heap.size, 0, none⟩) n n) ∧ Below w.heap.size w w' ∧ Row w' w.heap.size 3 n (fun k => .int .i64 (f k)) := by
  have hmk := run_make_row' (P := Try.prog) 32 3 (.int .i64 0) 8 Try.underlying32 info_int rfl .i64 .i64 n (by omega) (by omega)
  go_enter Try.func50, Try.ntmps50
  go_wp2
  clear hmk
  go_loopw [4] (fun i wr => ∃ k : Nat, k ≤ n ∧ i = .int .i64 k ∧ Below w.heap.size w wr ∧ Row wr w.heap.size 3 n (fun j => if j < k then .int .i64 (f j) else .int .i64 0)) (fun i _ => n - (intOf i).toNat)
  case atStart => exact ⟨0, Nat.zero_le _, rfl, (Below.refl _ _).alloc (Nat.le_refl _) _, (Row.made _ _ _ _).congr (fun i _ => by simp)⟩
  case round =>
    obtain ⟨k, hk, rfl, hb, hr⟩ := hrel
    by_cases hlt : k < n
    · obtain ⟨ad, rfl, hab, hc⟩ := h.at_ hlt
      have h1 : wr.cell? (ad.add k) = some (.int .i64 (f k)) := (hb.cell (by rw [block_add]; exact hab)).trans (hc k hlt)
      have h2 : wr.cell? ⟨w.heap.size, k, none⟩ = some (.int .i64 0) := by simpa using hr.cell hlt
      have h3 : wr.frozen? ⟨w.heap.size, k, none⟩ = false := hr.frozen k
      have R : Row (wr.setCell ⟨w.heap.size, k, none⟩ (.int .i64 (f k))) w.heap.size 3 n (fun j => if j < k + 1 then .int .i64 (f j) else .int .i64 0) := (hr.set k _).congr (fun j _ => by
        by_cases e : j = k
        · subst e; simp
        · rw [if_neg e]; by_cases h : j < k
          · rw [if_pos h, if_pos (by omega)]
          · rw [if_neg h, if_neg (by omega)])
      clear hc h hr
      go_wp2
      go_roundw
      case rel => exact ⟨k + 1, by omega, by go_num, hb.setCell (Nat.le_refl _) _, R⟩
      case measure => simp [intOf]; omega
    · go_wp2
      go_ret
      exact ⟨rfl, hb, hr.congr (fun j hj => by rw [if_pos (by omega)])⟩
theorem c_eqIntS (A A' : Option Addr) (n n' c c' : Nat) (f f' : Nat → Int) (w : World) (hn : n ≤ 1048576) (hn' : n' ≤ 1048576) (h : Rd w w.heap.size A n (fun k => .int .i64 (f k))) (h' : Rd w w.heap.size A' n' (fun k => .int .i64 (f' k))) :
    Calls Try.prog 46 #[.slice A n c, .slice A' n' c'] w fun e w' => e = .returned (.bool (eqN n n' f f')) ∧ ∃ m, w' = w.drewN m := by
  by_cases hnn : n = n'
  · subst hnn
    go_enter Try.func46, Try.ntmps46
    go_wp2
    go_loopw [5] (fun i wr => ∃ k m : Nat, k ≤ n ∧ i = .int .i64 k ∧ wr = w.drewN m ∧ AllTo (fun k => decide (f k = f' k)) k) (fun i _ => n - (intOf i).toNat)
    case atStart => exact ⟨0, 0, Nat.zero_le _, rfl, rfl, AllTo.zero _⟩
    case round =>
      obtain ⟨k, m, hk, rfl, rfl, ha⟩ := hrel
      have HA := Lib.hid ha
      clear ha
      by_cases hlt : k < n
      · obtain ⟨ad, rfl, _, hc⟩ := h.at_ hlt
        obtain ⟨ad', rfl, _, hc'⟩ := h'.at_ hlt
        have h1 : w.cell? (ad.add k) = some (.int .i64 (f k)) := hc k hlt
        have h2 : w.cell? (ad'.add k) = some (.int .i64 (f' k)) := hc' k hlt
        have hz : (k : Int) < (n : Int) := by omega
        clear hc hc' h h'
        by_cases e : f k = f' k
        · have he : (f k == f' k) = true := by simpa using e
          have HE := Lib.hid e
          clear e
          go_wp2
          go_quiet (fail)
          go_wp2
          go_roundw
          case rel => exact ⟨k + 1, _, by omega, by go_num, rfl, HA.out.succ (by simpa using HE.out)⟩
          case measure => simp [intOf]; omega
        · have he : (f k == f' k) = false := by simpa using e
          have HE := Lib.hid e
          clear e
          go_wp2
          go_quiet (fail)
          go_wp2
          go_ret
          exact ⟨ret_bool (eqN_bad hlt HE.out), drew2 _ _ _⟩
      · go_wp2
        go_ret
        exact ⟨ret_bool (eqN_good (fun j hj => by simpa using HA.out j (by omega))), _, rfl⟩
  · have hz : ((n : Int) == (n' : Int)) = false := by simpa using (by omega : (n : Int) ≠ (n' : Int))
    have HN := Lib.hid hnn
    clear hnn
    go_enter Try.func46, Try.ntmps46
    go_wp2
    go_ret
    exact ⟨ret_bool (eqN_len HN.out), 0, rfl⟩
/-- Marks: the list's own block is written, nothing else. -/
theorem c_markIntS (B : Nat) (A : Option Addr) (n c k0 : Nat) (f : Nat → Value) (w : World) (hn : n ≤ 1048576) (hk0 : k0 ≤ 1048577) (h : Made w B 3 A n f) :
    Calls Try.prog 47 #[.slice A n c, .int .i64 k0] w fun e w' => e = .returned (.int .i64 (k0 + n : Nat)) ∧ Only w w' (if n = 0 then none else A) ∧ Made w' B 3 A n (fun j => .int .i64 (k0 + j : Nat)) := by
  by_cases hn0 : n = 0
  · subst hn0
    go_enter Try.func47, Try.ntmps47
    go_wp2
    refine wp_loop_rounds 1 ?_
    rw [rounds_succ]
    go_wp2
    go_ret
    exact ⟨rfl, Only.refl _ _, Made.nil _ _ _ _ _⟩
  · obtain ⟨g, rfl, hg, hr⟩ := h (by omega)
    rw [if_neg hn0]
    clear hn0
    go_enter Try.func47, Try.ntmps47
    go_wp2
    go_loopw [1, 5] (fun q i wr => ∃ k : Nat, k ≤ n ∧ q = .int .i64 (k0 + k : Nat) ∧ i = .int .i64 k ∧ Only w wr (some ⟨g, 0, none⟩) ∧ Row wr g 3 n (fun j => if j < k then .int .i64 (k0 + j : Nat) else f j)) (fun _ i _ => n - (intOf i).toNat)
    case atStart => exact ⟨0, Nat.zero_le _, rfl, rfl, Only.refl _ _, hr.congr (fun i _ => by simp)⟩
    case round =>
      obtain ⟨k, hk, rfl, rfl, ho, hrw⟩ := hrel
      by_cases hlt : k < n
      · have h2 : wr.cell? ⟨g, k, none⟩ = some (f k) := by simpa using hrw.cell hlt
        have h3 : wr.frozen? ⟨g, k, none⟩ = false := hrw.frozen k
        have R : Row (wr.setCell ⟨g, k, none⟩ (.int .i64 (k0 + k : Nat))) g 3 n (fun j => if j < k + 1 then .int .i64 (k0 + j : Nat) else f j) := (hrw.set k _).congr (fun j _ => by
          by_cases e : j = k
          · subst e; simp
          · rw [if_neg e]; by_cases h : j < k
            · rw [if_pos h, if_pos (by omega)]
            · rw [if_neg h, if_neg (by omega)])
        have O := ho.set (p := ⟨g, k, none⟩) (ad := ⟨g, 0, none⟩) rfl rfl (.int .i64 (k0 + k : Nat))
        clear hr hrw h
        go_wp2
        go_roundw
        case rel => exact ⟨k + 1, by omega, by go_num, by go_num, O, R⟩
        case measure => simp [intOf]; omega
      · go_wp2
        go_ret
        exact ⟨ret_int (by omega), ho, fun _ => ⟨g, rfl, hg, hrw.congr (fun j hj => by rw [if_pos (by omega)])⟩⟩
theorem c_heldIntS (A : Option Addr) (n c k0 : Nat) (w : World) (hn : n ≤ 1048576) (hk0 : k0 ≤ 1048577) (h : Rd w w.heap.size A n (fun j => .int .i64 (k0 + j : Nat))) :
    Calls Try.prog 48 #[.slice A n c, .int .i64 k0] w fun e w' => e = .returned (.int .i64 (k0 + n : Nat)) ∧ ∃ m, w' = w.drewN m := by
  go_enter Try.func48, Try.ntmps48
  go_wp2
  go_loopw [1, 5] (fun q i wr => ∃ k m : Nat, k ≤ n ∧ q = .int .i64 (k0 + k : Nat) ∧ i = .int .i64 k ∧ wr = w.drewN m) (fun _ i _ => n - (intOf i).toNat)
  case atStart => exact ⟨0, 0, Nat.zero_le _, rfl, rfl, rfl⟩
  case round =>
    obtain ⟨k, m, hk, rfl, rfl, rfl⟩ := hrel
    by_cases hlt : k < n
    · obtain ⟨ad, rfl, _, hc⟩ := h.at_ hlt
      have h1 : w.cell? (ad.add k) = some (.int .i64 (k0 + k : Nat)) := hc k hlt
      clear hc h
      go_wp2
      go_roundw
      case rel => exact ⟨k + 1, m, by omega, by go_num, by go_num, rfl⟩
      case measure => simp [intOf]; omega
    · go_wp2
      go_ret
      exact ⟨ret_int (by omega), _, rfl⟩
theorem c_sameInts (A A' : Option Addr) (n n' c c' : Nat) (f f' : Nat → Int) (w : World) (hn : n ≤ 1048576) (hn' : n' ≤ 1048576) (h : Rd w w.heap.size A n (fun k => .int .i64 (f k))) (h' : Rd w w.heap.size A' n' (fun k => .int .i64 (f' k))) :
    Calls Try.prog 55 #[.slice A n c, .slice A' n' c'] w fun e w' => e = .returned (.bool (eqN n n' f f')) ∧ ∃ m, w' = w.drewN m := by
  by_cases hnn : n = n'
  · subst hnn
    go_enter Try.func55, Try.ntmps55
    go_wp2
    go_loopw [5] (fun i wr => ∃ k m : Nat, k ≤ n ∧ i = .int .i64 k ∧ wr = w.drewN m ∧ AllTo (fun k => decide (f k = f' k)) k) (fun i _ => n - (intOf i).toNat)
    case atStart => exact ⟨0, 0, Nat.zero_le _, rfl, rfl, AllTo.zero _⟩
    case round =>
      obtain ⟨k, m, hk, rfl, rfl, ha⟩ := hrel
      have HA := Lib.hid ha
      clear ha
      by_cases hlt : k < n
      · obtain ⟨ad, rfl, _, hc⟩ := h.at_ hlt
        obtain ⟨ad', rfl, _, hc'⟩ := h'.at_ hlt
        have h1 : w.cell? (ad.add k) = some (.int .i64 (f k)) := hc k hlt
        have h2 : w.cell? (ad'.add k) = some (.int .i64 (f' k)) := hc' k hlt
        have hz : (k : Int) < (n : Int) := by omega
        clear hc hc' h h'
        by_cases e : f k = f' k
        · have he : (f k == f' k) = true := by simpa using e
          have HE := Lib.hid e
          clear e
          go_wp2
          go_quiet (fail)
          go_wp2
          go_roundw
          case rel => exact ⟨k + 1, _, by omega, by go_num, rfl, HA.out.succ (by simpa using HE.out)⟩
          case measure => simp [intOf]; omega
        · have he : (f k == f' k) = false := by simpa using e
          have HE := Lib.hid e
          clear e
          go_wp2
          go_quiet (fail)
          go_wp2
          go_ret
          exact ⟨ret_bool (eqN_bad hlt HE.out), drew2 _ _ _⟩
      · go_wp2
        go_ret
        exact ⟨ret_bool (eqN_good (fun j hj => by simpa using HA.out j (by omega))), _, rfl⟩
  · have hz : ((n : Int) == (n' : Int)) = false := by simpa using (by omega : (n : Int) ≠ (n' : Int))
    have HN := Lib.hid hnn
    clear hnn
    go_enter Try.func55, Try.ntmps55
    go_wp2
    go_ret
    exact ⟨ret_bool (eqN_len HN.out), 0, rfl⟩
theorem c_szIntS (A : Option Addr) (n c : Nat) (x : Int) (w : World) (h1 : 0 ≤ x) (h2 : x ≤ 1048576) (hn : n ≤ maxLen) :
    Calls Try.prog 49 #[.slice A n c, .int .i64 x] w fun e w' => e = .returned (.int .i64 (if (n : Int) ≤ x then x - n else -1)) ∧ w = w' := by
  unfold maxLen at hn
  by_cases h : (n : Int) ≤ x
  · rw [if_pos h]
    go_enter Try.func49, Try.ntmps49
    go_wp2
    go_ret
    exact ⟨rfl, rfl⟩
  · rw [if_neg h]
    go_enter Try.func49, Try.ntmps49
    go_wp2
    go_ret
    exact ⟨rfl, rfl⟩
end Go.Proofs.Ytgfmhipfoaobgaa
