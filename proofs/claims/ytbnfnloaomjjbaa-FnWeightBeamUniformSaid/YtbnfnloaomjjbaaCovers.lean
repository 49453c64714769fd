/-
  Contracts over coverages: valid ones, the number of set cells, uniform weights.
-/
import Derived.Test.YtbnfnloaomjjbaaMarks
import Derived.Maps.AppendAt
namespace Go.Proofs.Ytbnfnloaomjjbaa
open Go.RowKit

/-- A coverage's cell agrees with the opposite one. -/
def cok (f : Nat → Bool) (k : Nat) : Bool := f k == f (oppN k)
/-- Valid coverages. -/
def cvB (n : Nat) (f : Nat → Bool) : Bool := decide (n = 16) && allN 16 (cok f)
theorem cvB_len {n : Nat} {f : Nat → Bool} (h : n ≠ 16) : cvB n f = false := by simp [cvB, h]
theorem cvB_bad {f : Nat → Bool} {k : Nat} (hk : k < 16) (h : cok f k = false) : cvB 16 f = false := by simp [cvB, allN_bad hk h]
theorem cvB_good {f : Nat → Bool} (h : ∀ k, k < 16 → cok f k = true) : cvB 16 f = true := by simp [cvB, allN_mk h]
theorem cvB_true {n : Nat} {f : Nat → Bool} (h : cvB n f = true) : n = 16 ∧ ∀ k, k < 16 → f k = f (oppN k) := by
  simp only [cvB, Bool.and_eq_true, decide_eq_true_eq] at h
  exact ⟨h.1, fun k hk => by simpa [cok] using allN_iff.1 h.2 k hk⟩
/-- A list's length where it could be made, else 0. -/
def len16 (v : Bool) : Nat := if v = true then 16 else 0
theorem len16_le (v : Bool) : len16 v ≤ 1048576 := by unfold len16; split <;> omega

theorem mk_ints16 : ∀ w : World, (Instr.makeSlice 25 (.int .i64 16) (.int .i64 16)).run Try.prog w = .ok (.slice (some ⟨w.heap.size, 0, none⟩) 16 16) (w.alloc (.cells (madeCells #[.int .i64 0] 16) 3)) :=
  fun w => run_make_row' (P := Try.prog) 25 3 (.int .i64 0) 8 Try.underlying25 info_int rfl .i64 .i64 16 (by omega) (by omega) w
theorem mk_bools16 : ∀ w : World, (Instr.makeSlice 23 (.int .i64 16) (.int .i64 16)).run Try.prog w = .ok (.slice (some ⟨w.heap.size, 0, none⟩) 16 16) (w.alloc (.cells (madeCells #[.bool false] 16) 4)) :=
  fun w => run_make_row' (P := Try.prog) 23 4 (.bool false) 1 Try.underlying23 info_bool rfl .i64 .i64 16 (by omega) (by omega) w

set_option maxHeartbeats 1000000 in
theorem c_sCoverValid (A : Option Addr) (n c : Nat) (f : Nat → Bool) (w : World) (hn : n ≤ 1048576) (h : Rd w w.heap.size A n (fun k => .bool (f k))) :
    Calls Try.prog 31 #[.slice A n c] w fun e w' => e = .returned (.bool (cvB n f)) ∧ ∃ m, w' = w.drewN m := by
  by_cases hnn : n = 16
  · subst hnn
    go_enter Try.func31, Try.ntmps31
    go_wp2_with (go_at_call 32; refine (c_l21Cells _).mono ?_; rintro e w' ⟨rfl, rfl⟩)
    go_loopw [3] (fun i wr => ∃ k m : Nat, k ≤ 16 ∧ i = .int .i64 k ∧ wr = w.drewN m ∧ AllTo (cok f) k) (fun i _ => 16 - (intOf i).toNat)
    case atStart => exact ⟨0, 0, Nat.zero_le _, rfl, rfl, AllTo.zero _⟩
    case round =>
      obtain ⟨k, m, hk, rfl, rfl, ha⟩ := hrel
      have HA := Lib.hid ha
      clear ha
      by_cases hlt : k < 16
      · obtain ⟨ad, rfl, _, hc⟩ := h.at_ hlt
        have h1 : w.cell? (ad.add k) = some (.bool (f k)) := hc k hlt
        have h2 : w.cell? (ad.add (oppN k)) = some (.bool (f (oppN k))) := hc _ (oppN_lt k)
        have hz : (k : Int) < (16 : Int) := by omega
        have hz2 : ((oppN k : Nat) : Int) < (16 : Int) := by have := oppN_lt k; omega
        clear hc h
        by_cases e : cok f k = true
        · have he : (f k == f (oppN k)) = true := e
          go_wp2_with (go_at_call 32; refine (c_l21Cells _).mono ?_; rintro e w' ⟨rfl, rfl⟩)
          go_quiet ((go_at_call 46; exact qsa (c_l21At' _ _ (oppN k) rfl _)))
          go_wp2
          go_roundw
          case rel => exact ⟨k + 1, _, by omega, by go_num, rfl, HA.out.succ e⟩
          case measure => simp [intOf]; omega
        · have e' : cok f k = false := by simpa using e
          have he : (f k == f (oppN k)) = false := e'
          clear e
          go_wp2_with (go_at_call 32; refine (c_l21Cells _).mono ?_; rintro e w' ⟨rfl, rfl⟩)
          go_quiet ((go_at_call 46; exact qsa (c_l21At' _ _ (oppN k) rfl _)))
          go_wp2
          go_ret
          exact ⟨ret_bool (cvB_bad hlt e'), drew2 _ _ _⟩
      · go_wp2_with (go_at_call 32; refine (c_l21Cells _).mono ?_; rintro e w' ⟨rfl, rfl⟩)
        go_ret
        exact ⟨ret_bool (cvB_good (fun j hj => HA.out j (by omega))), _, rfl⟩
  · have hz : ((n : Int) == 16) = false := by simpa using (by omega : (n : Int) ≠ 16)
    have HN := Lib.hid hnn
    clear hnn
    go_enter Try.func31, Try.ntmps31
    go_wp2_with (go_at_call 32; refine (c_l21Cells _).mono ?_; rintro e w' ⟨rfl, rfl⟩)
    go_ret
    exact ⟨ret_bool (cvB_len HN.out), 0, rfl⟩
set_option maxHeartbeats 1000000 in
theorem c_CoverValid (A : Option Addr) (n c : Nat) (f : Nat → Bool) (w : World) (hn : n ≤ 1048576) (h : Rd w w.heap.size A n (fun k => .bool (f k))) :
    Calls Try.prog 37 #[.slice A n c] w fun e w' => e = .returned (.bool (cvB n f)) ∧ ∃ m, w' = w.drewN m := by
  by_cases hnn : n = 16
  · subst hnn
    go_enter Try.func37, Try.ntmps37
    go_wp2
    go_loopw [10] (fun i wr => ∃ k m : Nat, k ≤ 16 ∧ i = .int .i64 k ∧ wr = w.drewN m ∧ AllTo (cok f) k) (fun i _ => 16 - (intOf i).toNat)
    case atStart => exact ⟨0, 0, Nat.zero_le _, rfl, rfl, AllTo.zero _⟩
    case round =>
      obtain ⟨k, m, hk, rfl, rfl, ha⟩ := hrel
      have HA := Lib.hid ha
      clear ha
      by_cases hlt : k < 16
      · obtain ⟨ad, rfl, _, hc⟩ := h.at_ hlt
        have h1 : w.cell? (ad.add k) = some (.bool (f k)) := hc k hlt
        have h2 : w.cell? (ad.add (oppN k)) = some (.bool (f (oppN k))) := hc _ (oppN_lt k)
        have hz : (k : Int) < (16 : Int) := by omega
        have hz2 : ((oppN k : Nat) : Int) < (16 : Int) := by have := oppN_lt k; omega
        clear hc h
        by_cases e : cok f k = true
        · have he : (f (oppN k) == f k) = true := by rw [Bool.beq_comm]; exact e
          go_wp2_with (go_at_call 40; refine (c_opposite _ hlt _).mono ?_; rintro e w' ⟨rfl, rfl⟩)
          go_roundw
          case rel => exact ⟨k + 1, _, by omega, by go_num, rfl, HA.out.succ e⟩
          case measure => simp [intOf]; omega
        · have e' : cok f k = false := by simpa using e
          have he : (f (oppN k) == f k) = false := by rw [Bool.beq_comm]; exact e'
          clear e
          go_wp2_with (go_at_call 40; refine (c_opposite _ hlt _).mono ?_; rintro e w' ⟨rfl, rfl⟩)
          go_ret
          exact ⟨ret_bool (cvB_bad hlt e'), _, rfl⟩
      · go_wp2
        go_ret
        exact ⟨ret_bool (cvB_good (fun j hj => HA.out j (by omega))), _, rfl⟩
  · have hz : ((n : Int) == 16) = false := by simpa using (by omega : (n : Int) ≠ 16)
    have HN := Lib.hid hnn
    clear hnn
    go_enter Try.func37, Try.ntmps37
    go_wp2
    go_ret
    exact ⟨ret_bool (cvB_len HN.out), 0, rfl⟩
/-- Uniform weights. -/
def uni (f : Nat → Bool) (k : Nat) : Int := if f k = true then 1 else 0
set_option maxHeartbeats 1000000 in
theorem c_WeightUniform (A : Option Addr) (n c : Nat) (f : Nat → Bool) (w : World) (hn : n ≤ 1048576) (h : Rd w w.heap.size A n (fun k => .bool (f k))) :
    Calls Try.prog 15 #[.slice A n c] w (Rets 3 w (len16 (cvB n f)) (fun k => .int .i64 (uni f k)) (cvB n f)) := by
  by_cases hv : cvB n f = true
  · obtain ⟨hnn, _⟩ := cvB_true hv
    subst hnn
    rw [hv]
    have hmk := mk_ints16
    go_enter Try.func15, Try.ntmps15
    go_wp2_with (go_at_call 37; refine (c_CoverValid _ _ _ f _ (by omega) h).mono ?_; rintro e w' ⟨rfl, m0, rfl⟩)
    clear hmk
    go_loopw [15] (fun i wr => ∃ k : Nat, k ≤ 16 ∧ i = .int .i64 k ∧ Below w.heap.size w wr ∧ Row wr w.heap.size 3 16 (fun j => if j < k then .int .i64 (uni f j) else .int .i64 0)) (fun i _ => 16 - (intOf i).toNat)
    case atStart => exact ⟨0, Nat.zero_le _, rfl, below_drewN ((Below.refl _ _).alloc (Nat.le_refl _) _) m0, ((Row.made _ _ _ _).drewN m0).congr (fun i _ => by simp)⟩
    case round =>
      obtain ⟨k, hk, rfl, hb, hr⟩ := hrel
      by_cases hlt : k < 16
      · obtain ⟨ad, rfl, hab, hc⟩ := h.at_ hlt
        have h1 : wr.cell? (ad.add k) = some (.bool (f k)) := (hb.cell (by rw [block_add]; exact hab)).trans (hc k hlt)
        have h2 : wr.cell? ⟨w.heap.size, k, none⟩ = some (.int .i64 0) := by simpa using hr.cell hlt
        have h3 : wr.frozen? ⟨w.heap.size, k, none⟩ = false := hr.frozen k
        by_cases hf : f k = true
        · have R : Row (wr.setCell ⟨w.heap.size, k, none⟩ (.int .i64 1)) w.heap.size 3 16 (fun j => if j < k + 1 then .int .i64 (uni f j) else .int .i64 0) := (hr.set k _).congr (fun j _ => by
            by_cases e : j = k
            · subst e; simp [uni, hf]
            · rw [if_neg e]; by_cases h : j < k
              · rw [if_pos h, if_pos (by omega)]
              · rw [if_neg h, if_neg (by omega)])
          rw [hf] at h1
          clear hc h hr hf
          go_wp2
          go_roundw
          case rel => exact ⟨k + 1, by omega, by go_num, hb.setCell (Nat.le_refl _) _, R⟩
          case measure => simp [intOf]; omega
        · have R : Row wr w.heap.size 3 16 (fun j => if j < k + 1 then .int .i64 (uni f j) else .int .i64 0) := hr.congr (fun j _ => by
            by_cases e : j = k
            · subst e; simp [uni, hf]
            · by_cases h : j < k
              · rw [if_pos h, if_pos (by omega)]
              · rw [if_neg h, if_neg (by omega)])
          rw [show f k = false from by simpa using hf] at h1
          clear hc h hr hf
          go_wp2
          go_roundw
          case rel => exact ⟨k + 1, by omega, by go_num, hb, R⟩
          case measure => simp [intOf]; omega
      · go_wp2
        go_ret2
        exact ⟨_, _, rfl, hb, fun _ => ⟨_, rfl, Nat.le_refl _, hr.congr (fun j hj => by rw [if_pos (show j < k from by have : j < 16 := hj; omega)])⟩⟩
  · have hv' : cvB n f = false := by simpa using hv
    clear hv
    rw [hv']
    go_enter Try.func15, Try.ntmps15
    go_wp2_with (go_at_call 37; refine (c_CoverValid _ _ _ f _ (by omega) h).mono ?_; rintro e w' ⟨rfl, m0, rfl⟩)
    go_ret2
    exact ⟨_, _, rfl, below_drewN (Below.refl _ _) _, Made.nil _ _ _ _ _⟩
end Go.Proofs.Ytbnfnloaomjjbaa
