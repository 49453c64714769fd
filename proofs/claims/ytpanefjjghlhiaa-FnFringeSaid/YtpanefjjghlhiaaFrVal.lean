/-
  Contracts: quarter phases, valid fringes (the program's and the reference's).
-/
import Derived.Test.YtpanefjjghlhiaaSmall
import Derived.Test.YtpanefjjghlhiaaRowsLib
import Derived.Test.YtpanefjjghlhiaaFrPlain
import Derived.Deep.QuietTactic
import Derived.BigQuiet
namespace Go.Proofs.Ytpanefjjghlhiaa
open Go.RowKit

theorem info_int : (Try.prog.info? 3).map (fun i => (i.zero, i.size, i.bytes)) = some (some (.int .i64 0), 1, 8) := by kernel_rfl
theorem info_ints : (Try.prog.info? 26).map (fun i => (i.zero, i.size, i.bytes)) = some (some (.slice none 0 0), 1, 24) := by kernel_rfl

theorem c_l25Three (d r p : Int) (w : World) : Calls Try.prog 19 #[.int .i64 d, .int .i64 r, .int .i64 p] w fun e w' => e = .returned (.bool (q3 d r p)) ∧ w = w' := by
  by_cases h1 : inB 0 3 d = true
  · by_cases h2 : inB 0 3 r = true
    · go_enter Try.func19, Try.ntmps19
      go_wp2_with (go_at_call 17; refine (c_l6In _ _ _ _).mono ?_; rintro e w' ⟨rfl, rfl⟩)
      go_ret
      exact ⟨ret_bool (by simp [q3, h1, h2]), rfl⟩
    · have h2' : inB 0 3 r = false := by simpa using h2
      clear h2
      go_enter Try.func19, Try.ntmps19
      go_wp2_with (go_at_call 17; refine (c_l6In _ _ _ _).mono ?_; rintro e w' ⟨rfl, rfl⟩)
      go_ret
      exact ⟨ret_bool (by simp [q3, h2']), rfl⟩
  · have h1' : inB 0 3 d = false := by simpa using h1
    clear h1
    go_enter Try.func19, Try.ntmps19
    go_wp2_with (go_at_call 17; refine (c_l6In _ _ _ _).mono ?_; rintro e w' ⟨rfl, rfl⟩)
    go_ret
    exact ⟨ret_bool (by simp [q3, h1']), rfl⟩
theorem c_areQuarters (A : Option Addr) (n c : Nat) (f : Nat → Int) (w : World) (hn : n ≤ 1048576) (h : Rd w w.heap.size A n (fun k => .int .i64 (f k))) :
    Calls Try.prog 16 #[.slice A n c] w fun e w' => e = .returned (.bool (allQ n f)) ∧ w = w' := by
  go_enter Try.func16, Try.ntmps16
  go_wp2
  go_loop [7] (fun i => ∃ k : Nat, k ≤ n ∧ i = .int .i64 k ∧ AllTo (fun i => inB 0 3 (f i)) k) (fun i => n - (intOf i).toNat)
  case atStart => exact ⟨0, Nat.zero_le _, rfl, AllTo.zero _⟩
  case round =>
    obtain ⟨k, hk, rfl, ha⟩ := hrel
    have HA := Lib.hid ha
    clear ha
    by_cases hlt : k < n
    · obtain ⟨ad, rfl, _, hc⟩ := h.at_ hlt
      have h1 : w.cell? (ad.add k) = some (.int .i64 (f k)) := hc k hlt
      clear hc h
      by_cases q1 : f k < 0
      · go_wp2
        go_ret
        exact ⟨ret_bool (allQ_bad hlt (inB_lo q1)), rfl⟩
      · by_cases q2 : 3 < f k
        · go_wp2
          go_ret
          exact ⟨ret_bool (allQ_bad hlt (inB_hi q2)), rfl⟩
        · go_wp2
          go_round
          case rel => exact ⟨k + 1, by omega, by go_num, HA.out.succ (inB_mk (by omega) (by omega))⟩
          case measure => simp [intOf]; omega
    · go_wp2
      go_ret
      exact ⟨ret_bool (allN_mk fun j hj => HA.out j (by omega)), rfl⟩
/-- Three numbers in a list of their own. -/
theorem c_areQuarters3 (d r p : Int) (w : World) : Calls Try.prog 16 #[.slice (some ⟨w.heap.size, 0, none⟩) 3 3] (w.alloc (.cells #[.int .i64 d, .int .i64 r, .int .i64 p] 3))
    fun e w' => e = .returned (.bool (q3 d r p)) ∧ w.alloc (.cells #[.int .i64 d, .int .i64 r, .int .i64 p] 3) = w' := by
  have hR : Row (w.alloc (.cells #[.int .i64 d, .int .i64 r, .int .i64 p] 3)) w.heap.size 3 3 (fun k => .int .i64 (if k = 0 then d else if k = 1 then r else p)) :=
    ⟨_, heap_alloc_new w _, fun i hi => by
      rcases (by omega : i = 0 ∨ i = 1 ∨ i = 2) with rfl | rfl | rfl <;> rfl⟩
  refine (c_areQuarters _ 3 3 _ _ (by omega) (hR.rd hR.lt)).mono ?_
  rintro e w' ⟨rfl, rfl⟩
  refine ⟨ret_bool ?_, rfl⟩
  simp [q3, allQ, allN, List.range, List.range.loop]
set_option maxHeartbeats 1000000 in
theorem c_FringeValid (a : Option Addr) (n c : Nat) (V : Nat → Value) (L : Nat → Nat) (f : Nat → Nat → Int) (w : World) (hn : n ≤ 1048576) (h : RdR w w.heap.size a n V L f) :
    Calls Try.prog 6 #[.slice a n c] w fun e w' => e = .returned (.bool (fvB n L f)) ∧ w = w' := by
  by_cases h1 : n < 1
  · go_enter Try.func6, Try.ntmps6
    go_wp2
    go_ret
    exact ⟨ret_bool (fvB_not fun hv => by have := fvB_true hv; omega), rfl⟩
  by_cases h2 : 8 < n
  · go_enter Try.func6, Try.ntmps6
    go_wp2
    go_ret
    exact ⟨ret_bool (fvB_not fun hv => by have := fvB_true hv; omega), rfl⟩
  obtain ⟨ad, A0, c0, rfl, _, _, k0, _⟩ := h.cell (r := 0) (by omega)
  rw [add_zero] at k0
  go_enter Try.func6, Try.ntmps6
  go_wp2
  go_loop [15] (fun i => ∃ k : Nat, k ≤ n ∧ i = .int .i64 k ∧ AllTo (rok L f) k ∧ (1 ≤ k → 1 ≤ L 0 ∧ L 0 ≤ 8)) (fun i => n - (intOf i).toNat)
  case atStart => exact ⟨0, Nat.zero_le _, rfl, AllTo.zero _, fun h => by omega⟩
  case round =>
    obtain ⟨k, hk, rfl, ha, hL⟩ := hrel
    have HA := Lib.hid ha
    have HL := Lib.hid hL
    clear ha hL
    by_cases hlt : k < n
    · obtain ⟨ad', A, cc, e1, _, _, hk1, hA⟩ := h.cell hlt
      injection e1 with e1
      subst e1
      clear h
      by_cases q1 : L k < 1
      · go_wp2
        go_ret
        exact ⟨ret_bool (fvB_not fun hv => by have := fvB_true hv; have := (this.2.2 k hlt).1; omega), rfl⟩
      · by_cases q2 : 8 < L k
        · go_wp2
          go_ret
          exact ⟨ret_bool (fvB_not fun hv => by have := fvB_true hv; have := (this.2.2 k hlt).1; omega), rfl⟩
        · by_cases q3 : L k = L 0
          · have hz : ((L k : Int) == (L 0 : Int)) = true := by rw [q3]; simp
            have hz' : ((L k : Int) != (L 0 : Int)) = false := by rw [q3]; simp
            have Q3 := Lib.hid q3
            clear q3
            by_cases q4 : allQ (L k) (f k) = true
            · go_wp2_with (go_at_call 16; refine (c_areQuarters A (L k) cc (f k) _ (by omega) hA).mono ?_; rintro e w' ⟨rfl, rfl⟩)
              go_round
              case rel => exact ⟨k + 1, by omega, by go_num, HA.out.succ (rok_good Q3.out q4), fun _ => by have := Q3.out; omega⟩
              case measure => simp [intOf]; omega
            · have q4' : allQ (L k) (f k) = false := by simpa using q4
              clear q4
              go_wp2_with (go_at_call 16; refine (c_areQuarters A (L k) cc (f k) _ (by omega) hA).mono ?_; rintro e w' ⟨rfl, rfl⟩)
              go_ret
              exact ⟨ret_bool (fvB_row hlt (rok_bad q4')), rfl⟩
          · have hz : ((L k : Int) == (L 0 : Int)) = false := by simpa using (by omega : (L k : Int) ≠ (L 0 : Int))
            have hz' : ((L k : Int) != (L 0 : Int)) = true := by simpa using (by omega : (L k : Int) ≠ (L 0 : Int))
            have Q3 := Lib.hid q3
            clear q3
            go_wp2
            go_ret
            exact ⟨ret_bool (fvB_row hlt (rok_len Q3.out)), rfl⟩
    · go_wp2
      go_ret
      obtain rfl : k = n := by omega
      have hl := HL.out (by omega)
      exact ⟨ret_bool (fvB_all (by omega) (by omega) hl.1 hl.2 HA.out), rfl⟩
set_option maxHeartbeats 1000000 in
theorem c_sFringeValid (a : Option Addr) (n c : Nat) (V : Nat → Value) (L : Nat → Nat) (f : Nat → Nat → Int) (w : World) (hn : n ≤ 1048576) (h : RdR w w.heap.size a n V L f) :
    Calls Try.prog 7 #[.slice a n c] w fun e w' => e = .returned (.bool (fvB n L f)) ∧ ∃ m, w' = w.drewN m := by
  by_cases h1 : inB 1 8 n = true
  · have h1' := inB_true h1
    obtain ⟨g1, g2⟩ := h1'
    obtain ⟨ad, A0, c0, rfl, _, _, k0, _⟩ := h.cell (r := 0) (by omega)
    rw [add_zero] at k0
    by_cases h2 : inB 1 8 (L 0) = true
    · have h2' := inB_true h2
      obtain ⟨g3, g4⟩ := h2'
      go_enter Try.func7, Try.ntmps7
      go_wp2_with (go_at_call 17; refine (c_l6In _ _ _ _).mono ?_; rintro e w' ⟨rfl, rfl⟩)
      go_loopw [3] (fun i wr => ∃ k m : Nat, k ≤ n ∧ i = .int .i64 k ∧ wr = w.drewN m ∧ AllTo (rok L f) k) (fun i _ => n - (intOf i).toNat)
      case atStart => exact ⟨0, 0, Nat.zero_le _, rfl, rfl, AllTo.zero _⟩
      case round =>
        obtain ⟨k, m, hk, rfl, rfl, ha⟩ := hrel
        have HA := Lib.hid ha
        clear ha
        by_cases hlt : k < n
        · obtain ⟨ad', A, cc, e1, _, _, hk1, hA⟩ := h.cell hlt
          injection e1 with e1
          subst e1
          clear h
          have hz2 : (k : Int) < (n : Int) := by omega
          have hz3 : (0 : Int) < (n : Int) := by omega
          by_cases q3 : L k = L 0
          · have hz : ((L k : Int) == (L 0 : Int)) = true := by rw [q3]; simp
            have hz' : ((L k : Int) != (L 0 : Int)) = false := by rw [q3]; simp
            have Q3 := Lib.hid q3
            have l1 : L k ≤ 8 := by omega
            clear q3
            go_wp2
            go_quiet (fail)
            clear hz hz'
            go_wp2
            go_loopw [4] (fun i wr => ∃ j m : Nat, j ≤ L k ∧ i = .int .i64 j ∧ wr = w.drewN m ∧ AllTo (fun i => inB 0 3 (f k i)) j) (fun i _ => L k - (intOf i).toNat)
            case atStart => exact ⟨0, _, Nat.zero_le _, rfl, World.drewN_drewN _ _ _, AllTo.zero _⟩
            case round =>
              obtain ⟨j, mj, hj, rfl, rfl, hb⟩ := hrel
              have HB := Lib.hid hb
              clear hb
              by_cases hjt : j < L k
              · obtain ⟨ad2, rfl, _, hc⟩ := hA.at_ hjt
                have hj1 : w.cell? (ad2.add j) = some (.int .i64 (f k j)) := hc j hjt
                clear hc hA
                by_cases q4 : inB 0 3 (f k j) = true
                · go_wp2_with (go_at_call 17; refine (c_l6In _ _ _ _).mono ?_; rintro e w' ⟨rfl, rfl⟩)
                  go_roundw
                  case rel => exact ⟨j + 1, _, by omega, by go_num, rfl, HB.out.succ q4⟩
                  case measure => simp [intOf]; omega
                · have q4' : inB 0 3 (f k j) = false := by simpa using q4
                  clear q4
                  go_wp2_with (go_at_call 17; refine (c_l6In _ _ _ _).mono ?_; rintro e w' ⟨rfl, rfl⟩)
                  go_ret
                  exact ⟨ret_bool (fvB_row hlt (rok_bad (allQ_bad hjt q4'))), _, rfl⟩
              · go_wp2
                go_roundw
                case rel => exact ⟨k + 1, _, by omega, by go_num, rfl, HA.out.succ (rok_good Q3.out (allN_mk fun i hi => HB.out i (by omega)))⟩
                case measure => simp [intOf]; omega
          · have hz : ((L k : Int) == (L 0 : Int)) = false := by simpa using (by omega : (L k : Int) ≠ (L 0 : Int))
            have hz' : ((L k : Int) != (L 0 : Int)) = true := by simpa using (by omega : (L k : Int) ≠ (L 0 : Int))
            have Q3 := Lib.hid q3
            clear q3
            go_wp2
            go_quiet (fail)
            go_wp2
            go_ret
            exact ⟨ret_bool (fvB_row hlt (rok_len Q3.out)), drew2 _ _ _⟩
        · go_wp2
          go_ret
          obtain rfl : k = n := by omega
          exact ⟨ret_bool (fvB_all (by omega) (by omega) (by omega) (by omega) HA.out), _, rfl⟩
    · have h2' : inB 1 8 (L 0) = false := by simpa using h2
      clear h2
      go_enter Try.func7, Try.ntmps7
      go_wp2_with (go_at_call 17; refine (c_l6In _ _ _ _).mono ?_; rintro e w' ⟨rfl, rfl⟩)
      go_ret
      exact ⟨ret_bool (by simp [fvB, h2']), 0, rfl⟩
  · have h1' : inB 1 8 n = false := by simpa using h1
    clear h1
    go_enter Try.func7, Try.ntmps7
    go_wp2_with (go_at_call 17; refine (c_l6In _ _ _ _).mono ?_; rintro e w' ⟨rfl, rfl⟩)
    go_ret
    exact ⟨ret_bool (by simp [fvB, h1']), 0, rfl⟩
end Go.Proofs.Ytpanefjjghlhiaa
