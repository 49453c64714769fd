/-
  Contracts of the functions over lists of antennas: copies, comparisons, marks.
-/
import Derived.Test.YtpabcpiiolfakaaFlat
import Derived.Laws.StructEq
import Derived.Deep.RegionHeld3
import Derived.Deep.RegionWith
import Derived.Deep.SlicePairs
namespace Go.Proofs.Ytpabcpiiolfakaa
open Go.RowKit Go.Deep

/-- What a function answers that makes a pair. -/
def Gp (x y : Int) (w : World) (e : Ending) (w' : World) : Prop := e = .returned (.agg #[.int .i64 x, .int .i64 y]) ∧ Below w.heap.size w w'

theorem c_szAntS (A : Option Addr) (n c : Nat) (x : Int) (w : World) (h1 : 0 ≤ x) (h2 : x ≤ 1048576) (hn : n ≤ maxLen) :
    Calls Try.prog 35 #[.slice A n c, .int .i64 x] w fun e w' => e = .returned (.int .i64 (if (n : Int) ≤ x then x - n else -1)) ∧ w = w' := by
  unfold maxLen at hn
  by_cases h : (n : Int) ≤ x
  · rw [if_pos h]
    go_enter Try.func35, Try.ntmps35
    go_wp2
    go_ret
    exact ⟨rfl, rfl⟩
  · rw [if_neg h]
    go_enter Try.func35, Try.ntmps35
    go_wp2
    go_ret
    exact ⟨rfl, rfl⟩
theorem c_toAnt (x y : Int) (w : World) : Calls Try.prog 69 #[.agg #[.int .i64 x, .int .i64 y]] w (Gp x y w) := by
  go_enter Try.func69, Try.ntmps69
  go_wp2
  refine bodyPost_ret (v := .agg #[.int .i64 x, .int .i64 y]) (by simp [results, Try.results69, go_sem]) rfl ⟨rfl, ?_⟩
  repeat first | exact Below.refl _ _ | refine Below.setCell ?_ (by first | (simp; done) | (simp; omega)) _ | refine Below.alloc ?_ (by first | (simp; done) | (simp; omega)) _
theorem c_eqAnt (x y x' y' : Int) (w : World) : Calls Try.prog 70 #[.agg #[.int .i64 x, .int .i64 y], .agg #[.int .i64 x', .int .i64 y']] w fun e w' => e = .returned (.bool (decide (x = x' ∧ y = y'))) ∧ Below w.heap.size w w' := by
  by_cases h1 : x = x'
  · by_cases h2 : y = y'
    · subst h1 h2
      go_enter Try.func70, Try.ntmps70
      go_wp2
      go_ret
      refine ⟨ret_bool (by simp), ?_⟩
      repeat first | exact Below.refl _ _ | refine Below.setCell ?_ (by first | (simp; done) | (simp; omega)) _ | refine Below.alloc ?_ (by first | (simp; done) | (simp; omega)) _
    · have hz : (y == y') = false := by simpa using h2
      subst h1
      have H := Lib.hid h2
      clear h2
      go_enter Try.func70, Try.ntmps70
      go_wp2
      go_ret
      refine ⟨ret_bool (by simpa using H.out), ?_⟩
      repeat first | exact Below.refl _ _ | refine Below.setCell ?_ (by first | (simp; done) | (simp; omega)) _ | refine Below.alloc ?_ (by first | (simp; done) | (simp; omega)) _
  · have hz : (x == x') = false := by simpa using h1
    have H := Lib.hid h1
    clear h1
    go_enter Try.func70, Try.ntmps70
    go_wp2
    go_ret
    refine ⟨ret_bool (by simpa using fun h => absurd h H.out), ?_⟩
    repeat first | exact Below.refl _ _ | refine Below.setCell ?_ (by first | (simp; done) | (simp; omega)) _ | refine Below.alloc ?_ (by first | (simp; done) | (simp; omega)) _
theorem mk_ants (n : Nat) (hn : n ≤ 1048576) : ∀ w : World, (Instr.makeSlice 23 (.int .i64 (n : Int)) (.int .i64 (n : Int))).run Try.prog w = .ok (.slice (some ⟨w.heap.size, 0, none⟩) n n) (w.alloc (.cells (madeCells #[.int .i64 0, .int .i64 0] (n * 2)) 62)) := fun w => by
  obtain ⟨i, hi, hz0, hz1, hz2⟩ := info_parts info_ant
  have h := run_make (P := Try.prog) w 23 62 i (.agg #[.int .i64 0, .int .i64 0]) Try.underlying23 hi hz0 .i64 .i64 n n (by omega) (by omega) (by rw [hz2]; omega) (by omega)
  simp only [Int.toNat_natCast, hz1] at h
  exact h
theorem row_made2 (w : World) (n : Nat) (t : TypeId) : Row (w.alloc (.cells (madeCells #[.int .i64 0, .int .i64 0] (n * 2)) t)) w.heap.size t (n * 2) (flat (fun _ => 0) (fun _ => 0)) := by
  refine ⟨_, heap_alloc_new w _, fun i hi => ?_⟩
  have e : flat (fun _ => 0) (fun _ => 0) i = .int .i64 0 := by unfold flat; split <;> rfl
  rw [e]
  have hm : i % 2 = 0 ∨ i % 2 = 1 := by omega
  rcases hm with hm | hm <;> simp [madeCells, hi, hm]
theorem row_set2 {w : World} {g n k : Nat} {t : TypeId} {F G F' G' : Nat → Int} (h : Row w g t (n * 2) (flat F G)) (h1 : ∀ j, j < n → F' j = if j = k then F' k else F j) (h2 : ∀ j, j < n → G' j = if j = k then G' k else G j) :
    Row ((w.setCell ⟨g, k * 2, none⟩ (.int .i64 (F' k))).setCell ⟨g, k * 2 + 1, none⟩ (.int .i64 (G' k))) g t (n * 2) (flat F' G') := by
  refine ((h.set _ _).set _ _).congr fun j hj => ?_
  by_cases e1 : j = k * 2 + 1
  · subst e1; rw [flat_odd F' G']; simp
  · rw [if_neg e1]
    by_cases e2 : j = k * 2
    · subst e2; rw [flat_even F' G']; simp
    · rw [if_neg e2]
      unfold flat
      split
      · rw [h1 _ (by omega), if_neg (by omega)]
      · rw [h2 _ (by omega), if_neg (by omega)]

set_option maxHeartbeats 1000000 in
/-- A copy: a new row, the same numbers. -/
theorem c_toAntS (A : Option Addr) (n c : Nat) (X Y : Nat → Int) (w : World) (hn : n ≤ 1048576) (h : RdA w w.heap.size A n X Y) :
    Calls Try.prog 36 #[.slice A n c] w fun e w' => e = .returned (.slice (some ⟨w.heap.size, 0, none⟩) n n) ∧ Below w.heap.size w w' ∧ Row w' w.heap.size 62 (n * 2) (flat X Y) := by
  have hmk := mk_ants n hn
  go_enter Try.func36, Try.ntmps36
  go_wp2
  clear hmk
  go_loopw [4] (fun i wr => ∃ k : Nat, k ≤ n ∧ i = .int .i64 k ∧ Below w.heap.size w wr ∧ Row wr w.heap.size 62 (n * 2) (flat (fun j => if j < k then X j else 0) (fun j => if j < k then Y j else 0))) (fun i _ => n - (intOf i).toNat)
  case atStart => exact ⟨0, Nat.zero_le _, rfl, (Below.refl _ _).alloc (Nat.le_refl _) _, (row_made2 _ _ _).congr (flat_congr (fun i _ => by simp) (fun i _ => by simp))⟩
  case round =>
    obtain ⟨k, hk, rfl, hb, hr⟩ := hrel
    by_cases hlt : k < n
    · obtain ⟨ad, rfl, hab, hc⟩ := h.at_ hlt
      have h1 : wr.cell? (ad.add (k * 2)) = some (.int .i64 (X k)) := (hb.cell (by simp only [block_add]; exact hab)).trans (hc k hlt).1
      have h2 : wr.cell? ⟨(ad.add (k * 2)).block, (ad.add (k * 2)).off + 1, none⟩ = some (.int .i64 (Y k)) := (hb.cell (by simp only [block_add]; exact hab)).trans (hc k hlt).2
      clear hc h
      go_wp2_with (go_at_call 69; refine (c_toAnt _ _ _).mono ?_; rintro e w1 ⟨rfl, hb1⟩; have hr1 := hr.step hb1; have o1 := hr1.frozen (k * 2); have o2 := hr1.frozen (k * 2 + 1); have o3 := hr1.cell (i := k * 2) (by omega); have o4 := hr1.cell (i := k * 2 + 1) (by omega))
      go_roundw
      case rel =>
        refine ⟨k + 1, by omega, by go_num, ((hb.trans (hb1.mono hb.size)).setCell (p := ⟨w.heap.size, _, none⟩) (Nat.le_refl _) _).setCell (p := ⟨w.heap.size, _, none⟩) (Nat.le_refl _) _, ?_⟩
        have R := row_set2 (k := k) (F' := fun j => if j < k + 1 then X j else 0) (G' := fun j => if j < k + 1 then Y j else 0) hr1 (fun j _ => by by_cases e : j = k <;> simp [e]; by_cases e2 : j < k <;> simp [e2] <;> omega) (fun j _ => by by_cases e : j = k <;> simp [e]; by_cases e2 : j < k <;> simp [e2] <;> omega)
        simpa using R
      case measure => simp [intOf]; omega
    · go_wp2
      go_ret
      exact ⟨rfl, hb, hr.congr (flat_congr (fun j hj => by rw [if_pos (by omega)]) (fun j hj => by rw [if_pos (by omega)]))⟩
set_option maxHeartbeats 1000000 in
theorem c_eqAntS (A A' : Option Addr) (n n' c c' : Nat) (X Y X' Y' : Nat → Int) (w : World) (hn : n ≤ 1048576) (hn' : n' ≤ 1048576) (h : RdA w w.heap.size A n X Y) (h' : RdA w w.heap.size A' n' X' Y') :
    Calls Try.prog 38 #[.slice A n c, .slice A' n' c'] w fun e w' => e = .returned (.bool (eqN n n' X X' && eqN n n' Y Y')) ∧ Below w.heap.size w w' := by
  by_cases hnn : n = n'
  · subst hnn
    go_enter Try.func38, Try.ntmps38
    go_wp2
    go_loopw [5] (fun i wr => ∃ k : Nat, k ≤ n ∧ i = .int .i64 k ∧ Below w.heap.size w wr ∧ AllTo (fun k => decide (X k = X' k ∧ Y k = Y' k)) k) (fun i _ => n - (intOf i).toNat)
    case atStart => exact ⟨0, Nat.zero_le _, rfl, Below.refl _ _, AllTo.zero _⟩
    case round =>
      obtain ⟨k, hk, rfl, hb, ha⟩ := hrel
      have HA := Lib.hid ha
      clear ha
      by_cases hlt : k < n
      · obtain ⟨ad, rfl, hab, hc⟩ := h.at_ hlt
        obtain ⟨ad', rfl, hab', hc'⟩ := h'.at_ hlt
        have h1 : wr.cell? (ad.add (k * 2)) = some (.int .i64 (X k)) := (hb.cell (by simp only [block_add]; exact hab)).trans (hc k hlt).1
        have h2 : wr.cell? ⟨(ad.add (k * 2)).block, (ad.add (k * 2)).off + 1, none⟩ = some (.int .i64 (Y k)) := (hb.cell (by simp only [block_add]; exact hab)).trans (hc k hlt).2
        have h3 : wr.cell? (ad'.add (k * 2)) = some (.int .i64 (X' k)) := (hb.cell (by simp only [block_add]; exact hab')).trans (hc' k hlt).1
        have h4 : wr.cell? ⟨(ad'.add (k * 2)).block, (ad'.add (k * 2)).off + 1, none⟩ = some (.int .i64 (Y' k)) := (hb.cell (by simp only [block_add]; exact hab')).trans (hc' k hlt).2
        have hz : (k : Int) < (n : Int) := by omega
        have C := Lib.hid (fun w => c_eqAnt (X k) (Y k) (X' k) (Y' k) w)
        clear hc hc' h h'
        obtain ⟨b, hbv⟩ : ∃ b, decide (X k = X' k ∧ Y k = Y' k) = b := ⟨_, rfl⟩
        have HB := Lib.hid hbv
        rw [hbv] at C
        clear hbv
        cases b with
        | true =>
          go_wp2
          go_region_with (go_at_call 70; refine (C.out _).mono ?_; rintro e w1 ⟨rfl, hb1⟩; have hB1 : Below wr.heap.size wr w1 := ⟨hb1.os, hb1.tape, hb1.output, hb1.size, hb1.block⟩)
          all_goals
            go_wp2
            go_roundw
            case rel => exact ⟨k + 1, by omega, by go_num, hb.trans (hB1.mono hb.size), HA.out.succ HB.out⟩
            case measure => simp [intOf]; omega
        | false =>
          go_wp2
          go_region_with (go_at_call 70; refine (C.out _).mono ?_; rintro e w1 ⟨rfl, hb1⟩; have hB1 : Below wr.heap.size wr w1 := ⟨hb1.os, hb1.tape, hb1.output, hb1.size, hb1.block⟩)
          all_goals
            go_wp2
            go_ret
            refine ⟨ret_bool ?_, hb.trans (hB1.mono hb.size)⟩
            have := HB.out
            rw [decide_eq_false_iff_not] at this
            by_cases e : X k = X' k
            · rw [eqN_bad (f := Y) (g := Y') hlt (fun e2 => this ⟨e, e2⟩), Bool.and_false]
            · rw [eqN_bad (f := X) (g := X') hlt e, Bool.false_and]
      · go_wp2
        go_ret
        have g : ∀ j, j < n → X j = X' j ∧ Y j = Y' j := fun j hj => by simpa using HA.out j (by omega)
        exact ⟨ret_bool (by rw [eqN_good (fun j hj => (g j hj).1), eqN_good (fun j hj => (g j hj).2)]; rfl), hb⟩
  · have hz : ((n : Int) == (n' : Int)) = false := by simpa using (by omega : (n : Int) ≠ (n' : Int))
    have HN := Lib.hid hnn
    clear hnn
    go_enter Try.func38, Try.ntmps38
    go_wp2
    go_ret
    exact ⟨ret_bool (by rw [eqN_len HN.out]; rfl), Below.refl _ _⟩
set_option maxHeartbeats 1000000 in
/-- Marks: the list's own block is written, nothing else. -/
theorem c_markAntS (g n c k0 : Nat) (f : Nat → Value) (w : World) (hn : n ≤ 1048576) (hk0 : k0 ≤ 1048577) (h : Row w g 62 (n * 2) f) :
    Calls Try.prog 39 #[.slice (some ⟨g, 0, none⟩) n c, .int .i64 k0] w fun e w' => e = .returned (.int .i64 (k0 + n * 2 : Nat)) ∧ Only w w' (some ⟨g, 0, none⟩) := by
  go_enter Try.func39, Try.ntmps39
  go_wp2
  go_loopw [1, 5] (fun q i wr => ∃ k : Nat, k ≤ n ∧ q = .int .i64 (k0 + k * 2 : Nat) ∧ i = .int .i64 k ∧ Only w wr (some ⟨g, 0, none⟩) ∧ ∃ f', Row wr g 62 (n * 2) f') (fun _ i _ => n - (intOf i).toNat)
  case atStart => exact ⟨0, Nat.zero_le _, rfl, rfl, Only.refl _ _, f, h⟩
  case round =>
    obtain ⟨k, hk, rfl, rfl, ho, f', hr⟩ := hrel
    by_cases hlt : k < n
    · have o1 := hr.cell (i := k * 2) (by omega)
      have o2 := hr.cell (i := k * 2 + 1) (by omega)
      have o3 := hr.frozen (k * 2)
      have o4 := hr.frozen (k * 2 + 1)
      have O := (ho.set (p := ⟨g, k * 2, none⟩) (ad := ⟨g, 0, none⟩) rfl rfl (.int .i64 (k0 + k * 2 : Nat))).set (p := ⟨g, k * 2 + 1, none⟩) (ad := ⟨g, 0, none⟩) rfl rfl (.int .i64 (k0 + k * 2 + 1 : Nat))
      have R := (hr.set (k * 2) (.int .i64 (k0 + k * 2 : Nat))).set (k * 2 + 1) (.int .i64 (k0 + k * 2 + 1 : Nat))
      clear hr h
      go_wp2
      go_roundw
      case rel => exact ⟨k + 1, by omega, by go_num, by go_num, O, _, R⟩
      case measure => simp [intOf]; omega
    · go_wp2
      go_ret
      exact ⟨ret_int (by omega), ho⟩
end Go.Proofs.Ytpabcpiiolfakaa
