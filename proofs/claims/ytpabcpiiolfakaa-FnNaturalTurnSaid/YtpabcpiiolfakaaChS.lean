/-
  Contracts: the reference's coverages turned, joined, counted; channels and tracks.
-/
import Derived.Test.YtpabcpiiolfakaaChP
namespace Go.Proofs.Ytpabcpiiolfakaa
open Go.RowKit Go.Deep Go.Shelf

theorem rot_wrapped (k : Nat) (hk : k < 16) : cellN (IntKind.i64.wrap (-IntKind.i64.wrap ((k : Int) / 4))) ((k : Int).tmod 4) = rotN k := by
  have h : ∀ j : Fin 16, cellN (IntKind.i64.wrap (-IntKind.i64.wrap (((j.val : Nat) : Int) / 4))) (((j.val : Nat) : Int).tmod 4) = rotN j.val := by decide +kernel
  exact h ⟨k, hk⟩
theorem rot_wrapped2 (k : Nat) (hk : k < 16) : cellN (IntKind.i64.wrap (0 - IntKind.i64.wrap ((k : Int) / 4))) ((k : Int).tmod 4) = rotN k := by
  have h : ∀ j : Fin 16, cellN (IntKind.i64.wrap (0 - IntKind.i64.wrap (((j.val : Nat) : Int) / 4))) (((j.val : Nat) : Int).tmod 4) = rotN j.val := by decide +kernel
  exact h ⟨k, hk⟩
set_option maxHeartbeats 1000000 in
theorem c_sCoverTurn (A : Option Addr) (n c : Nat) (f : Nat → Bool) (w : World) (hn : n ≤ 1048576) (h : Rd w w.heap.size A n (fun k => .bool (f k))) :
    Calls Try.prog 59 #[.slice A n c] w (Rets 4 w (len16 (cvB n f)) (fun c => .bool (f (tornN c))) (cvB n f)) := by
  have C1 := Lib.hid (c_sCoverValid A n c f w hn h)
  by_cases hv : cvB n f = true
  · obtain ⟨rfl, -⟩ := cvB_true hv
    rw [hv] at C1 ⊢
    have hmk := mk_bools16
    clear hv
    go_enter Try.func59, Try.ntmps59
    go_wp2_with fail
    refine C1.out.mono ?_
    rintro e w' ⟨rfl, m0, rfl⟩
    go_wp2_with (go_at_call 57; refine (c_l21Cells _).mono ?_; rintro e w' ⟨rfl, rfl⟩)
    clear hmk C1
    go_loopw [5] (fun i wr => ∃ k : Nat, k ≤ 16 ∧ i = .int .i64 k ∧ Below w.heap.size w wr ∧ Row wr w.heap.size 4 16 (fun c => .bool (turnK f k c))) (fun i _ => 16 - (intOf i).toNat)
    case atStart => exact ⟨0, Nat.zero_le _, rfl, (below_drewN (Below.refl w.heap.size w) m0).alloc (Nat.le_refl _) _, (Row.made (w.drewN m0) (.bool false) 16 4).congr (fun i _ => by simp [turnK])⟩
    case round =>
      obtain ⟨k, hk, rfl, hb, hr⟩ := hrel
      by_cases hlt : k < 16
      · obtain ⟨ad, rfl, hab, hc⟩ := h.at_ hlt
        have h1 : wr.cell? (ad.add k) = some (.bool (f k)) := (hb.cell (by rw [block_add]; exact hab)).trans (hc k hlt)
        have h3 := hr.cell (rotN_lt k)
        have h4 := hr.frozen (rotN k)
        have hz : (k : Int) < 16 := by omega
        have hz2 : ((rotN k : Nat) : Int) < 16 := by have := rotN_lt k; omega
        have R := (hr.set (rotN k) (.bool (f k))).congr (f' := fun c => .bool (turnK f (k + 1) c)) (fun j hj => by
          rw [turnK_step f hj]
          by_cases e : j = rotN k <;> simp [e, hlt])
        clear hc h hr
        have HR := Lib.hid R
        clear R
        go_wp2_with (go_at_call 57; refine (c_l21Cells _).mono ?_; rintro e w' ⟨rfl, rfl⟩)
        refine wp_region_still_tail 12 (by kernel_rfl) (by kernel_rfl) ?_
        simp only [List.take_succ_cons, List.take_zero, List.drop_succ_cons, List.drop_zero]
        change wpStill _ _ wr.drew _ _ _
        repeat still_step
        still_call (l21At_still _ _ (rotN k) (by first | rfl | exact rot_wrapped k hlt | exact rot_wrapped2 k hlt) _)
        repeat still_step
        refine wpStill_nil ?_
        change wpList _ _ _ _ _ wr.drew
        go_wp2
        go_roundw
        case rel => exact ⟨k + 1, by omega, by go_num, below_drew (hb.setCell (p := ⟨w.heap.size, _, none⟩) (Nat.le_refl _) _), HR.out⟩
        case measure => simp [intOf]; omega
      · obtain rfl : k = 16 := by omega
        go_wp2_with (go_at_call 57; refine (c_l21Cells _).mono ?_; rintro e w' ⟨rfl, rfl⟩)
        go_ret2
        exact ⟨_, _, rfl, hb, fun _ => ⟨_, rfl, Nat.le_refl _, hr.congr (fun j hj => by rw [turnK, if_pos (tornN_lt _)])⟩⟩
  · have hv2 : cvB n f = false := by simpa using hv
    rw [hv2] at C1 ⊢
    clear hv hv2 h
    go_enter Try.func59, Try.ntmps59
    go_wp2_with fail
    refine C1.out.mono ?_
    rintro e w' ⟨rfl, m0, rfl⟩
    go_wp2
    go_ret2
    exact ⟨_, _, rfl, (below_drewN (Below.refl w.heap.size w) m0).alloc (Nat.le_refl _) _, Made.nil _ _ _ _ _⟩
set_option maxHeartbeats 1000000 in
theorem c_sCoverMany (A : Option Addr) (n c : Nat) (f : Nat → Bool) (w : World) (hn : n ≤ 1048576) (h : Rd w w.heap.size A n (fun k => .bool (f k))) :
    Calls Try.prog 56 #[.slice A n c] w fun e w' => e = .returned (.int .i64 (cmanyB n f)) ∧ ∃ m, w' = w.drewN m := by
  by_cases hv : cvB n f = true
  · obtain ⟨hnn, -⟩ := cvB_true hv
    subst hnn
    have hs := fun k (hk : k ≤ 16) => sumN_bd (f := uni f) (M := 1) (n := 16) (fun k _ => by unfold uni; split <;> omega) k hk
    have HS := Lib.hid hs
    clear hs
    go_enter Try.func56, Try.ntmps56
    go_wp2_with (first | (go_at_call 78; refine (c_sCoverValid _ _ _ f _ (by omega) h).mono ?_; rintro e w' ⟨rfl, m0, rfl⟩) | (go_at_call 57; refine (c_l21Cells _).mono ?_; rintro e w' ⟨rfl, rfl⟩))
    go_loopw [3, 4] (fun s i wr => ∃ k m : Nat, k ≤ 16 ∧ s = .int .i64 (sumN (uni f) k) ∧ i = .int .i64 k ∧ wr = w.drewN m) (fun _ i _ => 16 - (intOf i).toNat)
    case atStart => exact ⟨0, m0, Nat.zero_le _, rfl, rfl, rfl⟩
    case round =>
      obtain ⟨k, m, hk, rfl, rfl, rfl⟩ := hrel
      have hsb := HS.out k hk
      obtain ⟨hs1, hs2⟩ := hsb
      by_cases hlt : k < 16
      · obtain ⟨ad, rfl, _, hc⟩ := h.at_ hlt
        have h1 : w.cell? (ad.add k) = some (.bool (f k)) := hc k hlt
        clear hc h
        by_cases hf : f k = true
        · rw [hf] at h1
          have HU := Lib.hid (show uni f k = 1 from by simp [uni, hf])
          clear hf
          go_wp2_with (go_at_call 57; refine (c_l21Cells _).mono ?_; rintro e w' ⟨rfl, rfl⟩)
          go_roundw
          case rel => exact ⟨k + 1, _, by omega, by rw [sumN, HU.out], by go_num, rfl⟩
          case measure => simp [intOf]; omega
        · rw [show f k = false from by simpa using hf] at h1
          have HU := Lib.hid (show uni f k = 0 from by simp [uni, hf])
          clear hf
          go_wp2_with (go_at_call 57; refine (c_l21Cells _).mono ?_; rintro e w' ⟨rfl, rfl⟩)
          go_roundw
          case rel => exact ⟨k + 1, _, by omega, by rw [sumN, HU.out, Int.add_zero], by go_num, rfl⟩
          case measure => simp [intOf]; omega
      · go_wp2_with (go_at_call 57; refine (c_l21Cells _).mono ?_; rintro e w' ⟨rfl, rfl⟩)
        go_ret
        exact ⟨ret_int (by rw [cmanyB, if_pos hv, cmany]; congr 1; omega), _, rfl⟩
  · have hv' : cvB n f = false := by simpa using hv
    clear hv
    go_enter Try.func56, Try.ntmps56
    go_wp2_with (first | (go_at_call 78; refine (c_sCoverValid _ _ _ f _ (by omega) h).mono ?_; rintro e w' ⟨rfl, m0, rfl⟩) | (go_at_call 57; refine (c_l21Cells _).mono ?_; rintro e w' ⟨rfl, rfl⟩))
    go_ret
    exact ⟨ret_int (by rw [cmanyB, if_neg (by rw [hv']; simp)]), _, rfl⟩
set_option maxHeartbeats 1000000 in
theorem c_sCoverJoin (A A' : Option Addr) (c c' : Nat) (f f' : Nat → Bool) (w : World) (hv : cvB 16 f = true) (hv' : cvB 16 f' = true) (h : Rd w w.heap.size A 16 (fun k => .bool (f k))) (h' : Rd w w.heap.size A' 16 (fun k => .bool (f' k))) :
    Calls Try.prog 60 #[.slice A 16 c, .slice A' 16 c'] w (Rets 4 w 16 (fun k => .bool (f k || f' k)) true) := by
  have hb0 : Below w.heap.size w (w.alloc (.cells #[] 4)) := (Below.refl _ _).alloc (Nat.le_refl _) _
  have g := h.step hb0
  have g' := h'.step hb0
  have C1 := Lib.hid (fun m => c_sCoverValid A 16 c f ((w.alloc (.cells #[] 4)).drewN m) (by omega) (g.drewN m))
  have C2 := Lib.hid (fun m => c_sCoverValid A' 16 c' f' ((w.alloc (.cells #[] 4)).drewN m) (by omega) (g'.drewN m))
  rw [hv] at C1
  rw [hv'] at C2
  clear hv hv' g g'
  go_enter Try.func60, Try.ntmps60
  go_wp2_with fail
  refine (C1.out 0).mono ?_
  rintro e w' ⟨rfl, m0, rfl⟩
  go_wp2_with fail
  refine (C2.out m0).mono ?_
  rintro e w' ⟨rfl, m1, rfl⟩
  go_wp2_with (go_at_call 57; refine (c_l21Cells _).mono ?_; rintro e w' ⟨rfl, rfl⟩)
  clear C1 C2
  go_loopw [6, 7] (fun v i wr => ∃ k : Nat, k ≤ 16 ∧ i = .int .i64 k ∧ Below w.heap.size w wr ∧ Own wr w.heap.size 4 v k (fun j => .bool (f j || f' j))) (fun _ i _ => 16 - (intOf i).toNat)
  case atStart => exact ⟨0, Nat.zero_le _, rfl, below_drewN hb0 _, (Own.empty w 4 _ (Nat.le_refl _)).drewN _⟩
  case round =>
    obtain ⟨k, hk, rfl, hb, hr⟩ := hrel
    by_cases hlt : k < 16
    · obtain ⟨ad, rfl, hab, hc⟩ := h.at_ hlt
      obtain ⟨ad', rfl, hab', hc'⟩ := h'.at_ hlt
      have h1 : wr.cell? (ad.add k) = some (.bool (f k)) := (hb.cell (by rw [block_add]; exact hab)).trans (hc k hlt)
      have h2 : wr.cell? (ad'.add k) = some (.bool (f' k)) := (hb.cell (by rw [block_add]; exact hab')).trans (hc' k hlt)
      have hz : (k : Int) < 16 := by omega
      have hsz := hb.size
      obtain ⟨d, hd⟩ : ∃ d, f k = d := ⟨_, rfl⟩
      have HD := Lib.hid hd
      rw [hd] at h1
      clear hc hc' h h' hd
      cases d with
      | true =>
        have e1 : (fun j => Value.bool (f j || f' j)) k = .bool true := by show Value.bool (f k || f' k) = _; rw [HD.out]; rfl
        go_wp2_with (first | (go_at_call 57; refine (c_l21Cells _).mono ?_; rintro e w' ⟨rfl, rfl⟩) | (at_builtin; refine wpList_app1 wr (.bool true) rfl _ _ 26 rfl w.heap.size 4 (.bool false) 1 Try.underlying26 info_bool rfl (by omega) _ k _ (by rfl) (by exact hr) (by rfl) e1 rfl (by omega) hsz ?_; intro v' w1 hown' hb1 _))
        go_roundw
        case rel => exact ⟨k + 1, by omega, by go_num, hb.trans hb1, hown'⟩
        case measure => simp [intOf]; omega
      | false =>
        have e1 : (fun j => Value.bool (f j || f' j)) k = .bool (f' k) := by show Value.bool (f k || f' k) = _; rw [HD.out, Bool.false_or]
        go_wp2_with (first | (go_at_call 57; refine (c_l21Cells _).mono ?_; rintro e w' ⟨rfl, rfl⟩) | (at_builtin; refine wpList_app1 wr (.bool (f' k)) rfl _ _ 26 rfl w.heap.size 4 (.bool false) 1 Try.underlying26 info_bool rfl (by omega) _ k _ (by rfl) (by exact hr) (by rfl) e1 rfl (by omega) hsz ?_; intro v' w1 hown' hb1 _))
        go_roundw
        case rel => exact ⟨k + 1, by omega, by go_num, hb.trans hb1, hown'⟩
        case measure => simp [intOf]; omega
    · obtain rfl : k = 16 := by omega
      obtain ⟨A1, c1, rfl, hm⟩ := hr.made
      go_wp2_with (go_at_call 57; refine (c_l21Cells _).mono ?_; rintro e w' ⟨rfl, rfl⟩)
      go_ret2
      exact ⟨_, _, rfl, hb, hm⟩
end Go.Proofs.Ytpabcpiiolfakaa
