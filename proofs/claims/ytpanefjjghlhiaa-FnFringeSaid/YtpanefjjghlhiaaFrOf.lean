/-
  Contracts: the fringes of a delay, a rate and a start (the program's and the reference's).
-/
import Derived.Test.YtpanefjjghlhiaaFrVal
import Derived.Test.YtpanefjjghlhiaaFrSt
namespace Go.Proofs.Ytpanefjjghlhiaa
open Go.RowKit

theorem frOk_false {d r p ch ti : Int} (h : q3 d r p = false ∨ ch < 1 ∨ 8 < ch ∨ ti < 1 ∨ 8 < ti) : frOk d r p ch ti = false := by
  rw [Bool.eq_false_iff]
  intro e
  have := frOk_true e
  rcases h with h | h | h | h | h
  · rw [h] at this; cases this.1
  all_goals omega
theorem frOk_mk {d r p ch ti : Int} (h : q3 d r p = true) (h1 : 1 ≤ ch) (h2 : ch ≤ 8) (h3 : 1 ≤ ti) (h4 : ti ≤ 8) : frOk d r p ch ti = true := by
  simp [frOk, h, inB_mk h1 h2, inB_mk h3 h4]

set_option maxHeartbeats 1000000 in
theorem c_FringeOf_no (d r p ch ti : Int) (w : World) (h : q3 d r p = false ∨ (q3 d r p = true ∧ (ch < 1 ∨ (1 ≤ ch ∧ 8 < ch) ∨ (1 ≤ ch ∧ ch ≤ 8 ∧ ti < 1) ∨ (1 ≤ ch ∧ ch ≤ 8 ∧ 1 ≤ ti ∧ 8 < ti)))) :
    Calls Try.prog 9 #[.int .i64 d, .int .i64 r, .int .i64 p, .int .i64 ch, .int .i64 ti] w fun e w' => e = .returned (.tuple #[.slice none 0 0, .bool false]) ∧ Below w.heap.size w w' := by
  rcases h with h | ⟨h, h1 | ⟨h1, h2⟩ | ⟨h1, h2, h3⟩ | ⟨h1, h2, h3, h4⟩⟩
  all_goals
    go_enter Try.func9, Try.ntmps9
    go_wp2_with (go_at_call 16; refine (c_areQuarters3 d r p w).mono ?_; rintro e w' ⟨rfl, rfl⟩)
    go_ret2
    exact ⟨rfl, (Below.refl _ _).alloc (Nat.le_refl _) _⟩
set_option maxHeartbeats 2000000 in
theorem c_FringeOf_yes (d r p : Int) (n l : Nat) (w : World) (h : q3 d r p = true) (h1 : 1 ≤ n) (h2 : n ≤ 8) (h3 : 1 ≤ l) (h4 : l ≤ 8) :
    Calls Try.prog 9 #[.int .i64 d, .int .i64 r, .int .i64 p, .int .i64 (n : Nat), .int .i64 (l : Nat)] w (RetsR 26 3 w n (fun _ => l) (frF d r p) true) := by
  have hq := q3_true h
  obtain ⟨⟨d1, d2⟩, ⟨r1, r2⟩, p1, p2⟩ := hq
  have hmk := run_make_row' (P := Try.prog) 23 26 (.slice none 0 0) 24 Try.underlying23 info_ints rfl .i64 .i64 n (by omega) (by omega)
  go_enter Try.func9, Try.ntmps9
  go_wp2_with (go_at_call 16; refine (c_areQuarters3 d r p w).mono ?_; rintro e w' ⟨rfl, rfl⟩)
  clear hmk
  go_loopw [41] (fun i wr => ∃ k : Nat, k ≤ n ∧ i = .int .i64 k ∧ FrSt w (w.heap.size + 1) n k 0 l (frF d r p) wr) (fun i _ => n - (intOf i).toNat)
  case atStart => exact ⟨0, Nat.zero_le _, rfl, FrSt.start _ _ _ _ _⟩
  case round =>
    obtain ⟨k, hk, rfl, S⟩ := hrel
    by_cases hlt : k < n
    · go_wp2
      go_loopw [45] (fun i wr => ∃ j : Nat, j ≤ l ∧ i = .int .i64 j ∧ FrSt w (w.heap.size + 1) n k j l (frF d r p) wr) (fun i _ => l - (intOf i).toNat)
      case atStart => exact ⟨0, Nat.zero_le _, rfl, S⟩
      case round =>
        obtain ⟨j, hj, rfl, S1⟩ := hrel
        clear S
        by_cases hjt : j < l
        · obtain ⟨V, hB, hR, hO⟩ := S1
          have o1 := hO.row k hlt
          rw [upTo_self] at o1
          have a1 : wr.cell? ⟨w.heap.size + 1, k, none⟩ = some (V k) := hR.cell hlt
          have hsz := hB.size
          have m1 := mul38 (k := k) d1 d2 (by omega)
          have m2 := mul38 (k := j) r1 r2 (by omega)
          obtain ⟨m11, m12⟩ := m1
          obtain ⟨m21, m22⟩ := m2
          go_wp2_with (at_builtin; refine wpList_app1at wr (.int .i64 (frF d r p k j)) rfl _ _ 26 rfl w.heap.size 3 (.int .i64 0) 8 Try.underlying26 info_int rfl (by omega) (V k) j (fun i => .int .i64 (frF d r p k i)) (by rfl) (by exact o1) (by rfl) rfl rfl (by omega) hsz ?_; intro v' w1 hown' hb1 hg1 hat1; obtain ⟨A', c', rfl⟩ := hown'.slice; have R1 := fr_kept hR hO hlt hg1; have a2 : w1.cell? ⟨w.heap.size + 1, k, none⟩ = some (V k) := R1.cell hlt; have a3 : w1.frozen? ⟨w.heap.size + 1, k, none⟩ = false := R1.frozen k)
          go_roundw
          case rel => exact ⟨j + 1, by omega, by go_num, fr_store hB hR hO hlt (by omega) hb1 hg1 hown' hat1⟩
          case measure => simp [intOf]; omega
        · have e : j = l := by omega
          rw [e] at S1
          clear e
          go_wp2
          go_roundw
          case rel => exact ⟨k + 1, by omega, by go_num, S1.next⟩
          case measure => simp [intOf]; omega
    · have e : k = n := by omega
      rw [e] at S
      clear e
      obtain ⟨V, hB, hM⟩ := S.made (by omega)
      clear S
      go_wp2
      go_ret2
      exact ⟨_, _, V, rfl, hB, hM⟩
theorem c_FringeOf (d r p ch ti : Int) (w : World) : Calls Try.prog 9 #[.int .i64 d, .int .i64 r, .int .i64 p, .int .i64 ch, .int .i64 ti] w
    (RetsR 26 3 w (many (frOk d r p ch ti) ch.toNat) (fun _ => ti.toNat) (frF d r p) (frOk d r p ch ti)) := by
  by_cases h : frOk d r p ch ti = true
  · obtain ⟨hq, h1, h2⟩ := frOk_true h
    obtain ⟨n, rfl⟩ : ∃ n : Nat, ch = n := ⟨ch.toNat, by omega⟩
    obtain ⟨l, rfl⟩ : ∃ l : Nat, ti = l := ⟨ti.toNat, by omega⟩
    rw [h]
    exact c_FringeOf_yes d r p n l w hq (by omega) (by omega) (by omega) (by omega)
  · have h' : frOk d r p ch ti = false := by simpa using h
    rw [h']
    refine (c_FringeOf_no d r p ch ti w ?_).mono ?_
    · by_cases hq : q3 d r p = true
      · refine .inr ⟨hq, ?_⟩
        by_cases c1 : 1 ≤ ch
        · by_cases c2 : ch ≤ 8
          · by_cases c3 : 1 ≤ ti
            · exact .inr (.inr (.inr ⟨c1, c2, c3, by
                by_cases c4 : ti ≤ 8
                · exact absurd (frOk_mk hq c1 c2 c3 c4) h
                · omega⟩))
            · exact .inr (.inr (.inl ⟨c1, c2, by omega⟩))
          · exact .inr (.inl ⟨c1, by omega⟩)
        · exact .inl (by omega)
      · exact .inl (by simpa using hq)
    · rintro e w' ⟨rfl, hb⟩
      exact ⟨_, _, fun _ => .slice none 0 0, rfl, hb, MadeR.nil _ _ _ _ _ _ _ _⟩
set_option maxHeartbeats 1000000 in
theorem c_sFringeOf_no (d r p ch ti : Int) (w : World) (h : q3 d r p = false ∨ (q3 d r p = true ∧ (inB 1 8 ch = false ∨ (inB 1 8 ch = true ∧ inB 1 8 ti = false)))) :
    Calls Try.prog 10 #[.int .i64 d, .int .i64 r, .int .i64 p, .int .i64 ch, .int .i64 ti] w fun e w' => e = .returned (.tuple #[.slice (some ⟨w.heap.size, 0, none⟩) 0 0, .bool false]) ∧ Below w.heap.size w w' := by
  rcases h with h | ⟨h, h1 | ⟨h1, h2⟩⟩
  all_goals
    go_enter Try.func10, Try.ntmps10
    go_wp2_with (first | (go_at_call 19; refine (c_l25Three _ _ _ _).mono ?_; rintro e w' ⟨rfl, rfl⟩) | (go_at_call 17; refine (c_l6In _ _ _ _).mono ?_; rintro e w' ⟨rfl, rfl⟩))
    go_ret2
    exact ⟨rfl, (Below.refl _ _).alloc (Nat.le_refl _) _⟩
/-- The reference's lists, as they can be appended to. -/
def RetsS (w : World) (n l : Nat) (F : Nat → Nat → Int) (e : Ending) (w' : World) : Prop := ∃ vo, e = .returned (.tuple #[vo, .bool true]) ∧ SfSt w n l F vo w'
set_option maxHeartbeats 2000000 in
theorem c_sFringeOf_st (d r p : Int) (n l : Nat) (w : World) (h : q3 d r p = true) (h1 : 1 ≤ n) (h2 : n ≤ 8) (h3 : 1 ≤ l) (h4 : l ≤ 8) :
    Calls Try.prog 10 #[.int .i64 d, .int .i64 r, .int .i64 p, .int .i64 (n : Nat), .int .i64 (l : Nat)] w (RetsS w n l (frF d r p)) := by
  have hq := q3_true h
  obtain ⟨⟨d1, d2⟩, ⟨r1, r2⟩, p1, p2⟩ := hq
  have i1 : inB 1 8 (n : Int) = true := inB_mk (by omega) (by omega)
  have i2 : inB 1 8 (l : Int) = true := inB_mk (by omega) (by omega)
  go_enter Try.func10, Try.ntmps10
  go_wp2_with (first | (go_at_call 19; refine (c_l25Three _ _ _ _).mono ?_; rintro e w' ⟨rfl, rfl⟩) | (go_at_call 17; refine (c_l6In _ _ _ _).mono ?_; rintro e w' ⟨rfl, rfl⟩))
  go_loopw [12, 13] (fun vo i wr => ∃ k : Nat, k ≤ n ∧ i = .int .i64 k ∧ SfSt w k l (frF d r p) vo wr) (fun _ i _ => n - (intOf i).toNat)
  case atStart => exact ⟨0, Nat.zero_le _, rfl, SfSt.start (Below.refl _ _) _ _⟩
  case round =>
    obtain ⟨k, hk, rfl, S⟩ := hrel
    by_cases hlt : k < n
    · have S0 := S.row
      clear S
      go_wp2
      go_loopw [14, 15] (fun v i wr => ∃ j : Nat, j ≤ l ∧ i = .int .i64 j ∧ SfIn w k j l (frF d r p) u12 v wr) (fun _ i _ => l - (intOf i).toNat)
      case atStart => exact ⟨0, Nat.zero_le _, rfl, S0⟩
      case round =>
        obtain ⟨j, hj, rfl, S1⟩ := hrel
        clear S0
        by_cases hjt : j < l
        · obtain ⟨V, hB, o1, o2, o3, o4⟩ := id S1
          have hsz := hB.size
          have m1 := mul38 (k := k) d1 d2 (by omega)
          have m2 := mul38 (k := j) r1 r2 (by omega)
          obtain ⟨m11, m12⟩ := m1
          obtain ⟨m21, m22⟩ := m2
          go_wp2_with (at_builtin; refine wpList_app1at wr (.int .i64 (frF d r p k j)) rfl _ _ 26 rfl w.heap.size 3 (.int .i64 0) 8 Try.underlying26 info_int rfl (by omega) _ j (fun i => .int .i64 (frF d r p k i)) (by rfl) (by exact o3) (by rfl) rfl rfl (by omega) hsz ?_; intro v' w1 hown' hb1 hg1 hat1)
          go_roundw
          case rel => exact ⟨j + 1, by omega, by go_num, S1.app hb1 hg1 hown' hat1⟩
          case measure => simp [intOf]; omega
        · have e : j = l := by omega
          rw [e] at S1
          clear e
          obtain ⟨V, hB, o1, o2, o3, o4⟩ := S1
          have hsz := hB.size
          obtain ⟨Ar, cr, rfl⟩ := o3.slice
          have o5 : Own wr w.heap.size 26 u12 k (fun r => if r = k then .slice Ar l cr else V r) := o1.congr fun r hr => by rw [if_neg (by omega)]
          go_wp2_with (at_builtin; refine wpList_app1at wr (.slice Ar l cr) rfl _ _ 23 rfl w.heap.size 26 (.slice none 0 0) 24 Try.underlying23 info_ints rfl (by omega) _ k (fun r => if r = k then .slice Ar l cr else V r) (by rfl) (by exact o5) (by rfl) (by simp) rfl (by omega) hsz ?_; intro v' w1 hown' hb1 hg1 hat1)
          go_roundw
          case rel => exact ⟨k + 1, by omega, by go_num, SfIn.push hB o1 o2 o3 o4 hb1 hg1 hown'⟩
          case measure => simp [intOf]; omega
    · have e : k = n := by omega
      rw [e] at S
      clear e
      go_wp2
      go_ret2
      exact ⟨_, rfl, S⟩
theorem c_sFringeOf_yes (d r p : Int) (n l : Nat) (w : World) (h : q3 d r p = true) (h1 : 1 ≤ n) (h2 : n ≤ 8) (h3 : 1 ≤ l) (h4 : l ≤ 8) :
    Calls Try.prog 10 #[.int .i64 d, .int .i64 r, .int .i64 p, .int .i64 (n : Nat), .int .i64 (l : Nat)] w (RetsR 26 3 w n (fun _ => l) (frF d r p) true) := by
  refine (c_sFringeOf_st d r p n l w h h1 h2 h3 h4).mono ?_
  rintro e w' ⟨vo, rfl, S⟩
  obtain ⟨a, c, V, rfl, hB, hM⟩ := S.made
  exact ⟨_, _, V, rfl, hB, hM⟩
theorem c_sFringeOf (d r p ch ti : Int) (w : World) : Calls Try.prog 10 #[.int .i64 d, .int .i64 r, .int .i64 p, .int .i64 ch, .int .i64 ti] w
    (RetsR 26 3 w (many (frOk d r p ch ti) ch.toNat) (fun _ => ti.toNat) (frF d r p) (frOk d r p ch ti)) := by
  by_cases h : frOk d r p ch ti = true
  · obtain ⟨hq, h1, h2⟩ := frOk_true h
    obtain ⟨n, rfl⟩ : ∃ n : Nat, ch = n := ⟨ch.toNat, by omega⟩
    obtain ⟨l, rfl⟩ : ∃ l : Nat, ti = l := ⟨ti.toNat, by omega⟩
    rw [h]
    exact c_sFringeOf_yes d r p n l w hq (by omega) (by omega) (by omega) (by omega)
  · have h' : frOk d r p ch ti = false := by simpa using h
    rw [h']
    refine (c_sFringeOf_no d r p ch ti w ?_).mono ?_
    · by_cases hq : q3 d r p = true
      · refine .inr ⟨hq, ?_⟩
        by_cases c1 : inB 1 8 ch = true
        · refine .inr ⟨c1, ?_⟩
          rw [Bool.eq_false_iff]
          intro c2
          have e1 := inB_true c1
          have e2 := inB_true c2
          exact h (frOk_mk hq e1.1 e1.2 e2.1 e2.2)
        · exact .inl (by simpa using c1)
      · exact .inl (by simpa using hq)
    · rintro e w' ⟨rfl, hb⟩
      exact ⟨_, _, fun _ => .slice none 0 0, rfl, hb, MadeR.nil _ _ _ _ _ _ _ _⟩
end Go.Proofs.Ytpanefjjghlhiaa
