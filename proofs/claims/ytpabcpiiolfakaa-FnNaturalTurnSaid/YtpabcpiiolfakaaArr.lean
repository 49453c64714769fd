/-
  Contracts of the functions that say whether a list of antennas is an array.
-/
import Derived.Test.YtpabcpiiolfakaaAnts
import Derived.Deep.QuietTactic
import Derived.BigQuiet
namespace Go.Proofs.Ytpabcpiiolfakaa
open Go.RowKit Go.Deep

/-- A list holds a pair. -/
def hasB (X Y : Nat → Int) (n : Nat) (x y : Int) : Bool := anyN n fun j => decide (X j = x ∧ Y j = y)
theorem has_dup (X Y : Nat → Int) (i m : Nat) : dupB X Y i m = hasB X Y m (X i) (Y i) := rfl
theorem has_yes {X Y : Nat → Int} {n j : Nat} {x y : Int} (hj : j < n) (h1 : X j = x) (h2 : Y j = y) : hasB X Y n x y = true := anyN_iff.2 ⟨j, hj, by simp [h1, h2]⟩
theorem has_step {X Y : Nat → Int} {n : Nat} {x y : Int} (h : hasB X Y n x y = false) (h' : ¬ (X n = x ∧ Y n = y)) : hasB X Y (n + 1) x y = false := by
  unfold hasB at *
  rw [anyN_succ, h]
  simpa using h'
theorem ne_pair {X Y : Nat → Int} {j : Nat} {x y : Int} (h : X j ≠ x) : ¬ (X j = x ∧ Y j = y) := fun e => h e.1
theorem ne_pair2 {X Y : Nat → Int} {j : Nat} {x y : Int} (h : Y j ≠ y) : ¬ (X j = x ∧ Y j = y) := fun e => h e.2

theorem c_inRange (n : Int) (w : World) : Calls Try.prog 63 #[.int .i64 n, .int .i64 1000] w fun e w' => e = .returned (.bool (inB (-1000) 1000 n)) ∧ w = w' := by
  by_cases h1 : -1000 ≤ n
  · by_cases h2 : n ≤ 1000
    · go_enter Try.func63, Try.ntmps63
      go_wp2
      go_ret
      exact ⟨by simp [inB, h1, h2], rfl⟩
    · go_enter Try.func63, Try.ntmps63
      go_wp2
      go_ret
      exact ⟨by simp [inB, h1, h2], rfl⟩
  · go_enter Try.func63, Try.ntmps63
    go_wp2
    go_ret
    exact ⟨by simp [inB]; omega, rfl⟩
theorem c_isPlace (x y : Int) (w : World) : Calls Try.prog 75 #[.agg #[.int .i64 x, .int .i64 y]] w fun e w' => e = .returned (.bool (plB x y)) ∧ Below w.heap.size w w' := by
  have C := Lib.hid (fun n w => c_inRange n w)
  by_cases h1 : inB (-1000) 1000 x = true
  · have H := Lib.hid h1
    have hp : plB x y = inB (-1000) 1000 y := by rw [plB, h1]; rfl
    rw [hp]
    clear h1 hp
    go_enter Try.func75, Try.ntmps75
    go_wp2_with (go_at_call 63; refine (C.out _ _).mono ?_; rintro e w' ⟨rfl, rfl⟩; try rw [H.out])
    go_ret
    exact ⟨rfl, (Below.refl _ _).alloc (Nat.le_refl _) _⟩
  · have h2 : inB (-1000) 1000 x = false := by simpa using h1
    have H := Lib.hid h2
    have hp : plB x y = false := by rw [plB, h2]; rfl
    rw [hp]
    clear h1 h2 hp
    go_enter Try.func75, Try.ntmps75
    go_wp2_with (go_at_call 63; refine (C.out _ _).mono ?_; rintro e w' ⟨rfl, rfl⟩; try rw [H.out])
    go_ret
    exact ⟨rfl, (Below.refl _ _).alloc (Nat.le_refl _) _⟩
theorem c_l3Place (x y : Int) (w : World) : Calls Try.prog 77 #[.agg #[.int .i64 x, .int .i64 y]] w fun e w' => e = .returned (.bool (plB x y)) ∧ Below w.heap.size w w' := by
  have C := Lib.hid (fun n w => c_l6In n (-1000) 1000 w)
  by_cases h1 : inB (-1000) 1000 x = true
  · have H := Lib.hid h1
    have hp : plB x y = inB (-1000) 1000 y := by rw [plB, h1]; rfl
    rw [hp]
    clear h1 hp
    go_enter Try.func77, Try.ntmps77
    go_wp2_with (go_at_call 65; refine (C.out _ _).mono ?_; rintro e w' ⟨rfl, rfl⟩; try rw [H.out])
    go_ret
    exact ⟨rfl, (Below.refl _ _).alloc (Nat.le_refl _) _⟩
  · have h2 : inB (-1000) 1000 x = false := by simpa using h1
    have H := Lib.hid h2
    have hp : plB x y = false := by rw [plB, h2]; rfl
    rw [hp]
    clear h1 h2 hp
    go_enter Try.func77, Try.ntmps77
    go_wp2_with (go_at_call 65; refine (C.out _ _).mono ?_; rintro e w' ⟨rfl, rfl⟩; try rw [H.out])
    go_ret
    exact ⟨rfl, (Below.refl _ _).alloc (Nat.le_refl _) _⟩
set_option maxHeartbeats 1000000 in
theorem c_Index (A : Option Addr) (n c : Nat) (X Y : Nat → Int) (x y : Int) (w : World) (hn : n ≤ 1048576) (h : RdA w w.heap.size A n X Y) :
    Calls Try.prog 82 #[.slice A n c, .agg #[.int .i64 x, .int .i64 y]] w fun e w' => ∃ r : Int, e = .returned (.int .i64 r) ∧ -1 ≤ r ∧ r ≤ 1048576 ∧ hasB X Y n x y = decide (0 ≤ r) ∧ Below w.heap.size w w' := by
  go_enter Try.func82, Try.ntmps82
  go_wp2
  have q1 : (w.alloc (.cells #[.int .i64 x, .int .i64 y] 62)).cell? ⟨w.heap.size, 0, none⟩ = some (.int .i64 x) := by simp
  have q2 : (w.alloc (.cells #[.int .i64 x, .int .i64 y] 62)).cell? ⟨w.heap.size, 1, none⟩ = some (.int .i64 y) := by simp
  have hB0 : Below w.heap.size w (w.alloc (.cells #[.int .i64 x, .int .i64 y] 62)) := (Below.refl _ _).alloc (Nat.le_refl _) _
  have h' := h.below hB0
  clear h
  generalize w.alloc (.cells #[.int .i64 x, .int .i64 y] 62) = W at q1 q2 hB0 h' ⊢
  go_loopw [8] (fun i wr => ∃ k m : Nat, k ≤ n ∧ i = .int .i64 k ∧ wr = W.drewN m ∧ hasB X Y k x y = false) (fun i _ => n - (intOf i).toNat)
  case atStart => exact ⟨0, 0, Nat.zero_le _, rfl, rfl, rfl⟩
  case round =>
    obtain ⟨k, m, hk, rfl, rfl, ha⟩ := hrel
    have HA := Lib.hid ha
    clear ha
    by_cases hlt : k < n
    · obtain ⟨ad, rfl, hab, hc⟩ := h'.at_ hlt
      obtain ⟨h1, h2⟩ := hc k hlt
      have hz : (k : Int) < (n : Int) := by omega
      clear hc h'
      by_cases e1 : X k = x
      · by_cases e2 : Y k = y
        · subst e1 e2
          go_wp2
          go_quiet (fail)
          go_wp2
          go_ret
          exact ⟨_, rfl, by omega, by omega, by rw [has_yes hlt rfl rfl]; simp, below_drewN (below_drewN hB0 _) _⟩
        · have he : (y == Y k) = false := by simpa using fun h => e2 h.symm
          subst e1
          have HE := Lib.hid e2
          clear e2
          go_wp2
          go_quiet (fail)
          go_wp2
          go_roundw
          case rel => exact ⟨k + 1, _, by omega, by go_num, rfl, has_step HA.out (ne_pair2 HE.out)⟩
          case measure => simp [intOf]; omega
      · have he : (x == X k) = false := by simpa using fun h => e1 h.symm
        have HE := Lib.hid e1
        clear e1
        go_wp2
        go_quiet (fail)
        go_wp2
        go_roundw
        case rel => exact ⟨k + 1, _, by omega, by go_num, rfl, has_step HA.out (ne_pair HE.out)⟩
        case measure => simp [intOf]; omega
    · obtain rfl : k = n := by omega
      go_wp2
      go_ret
      exact ⟨_, rfl, by omega, by omega, by rw [HA.out]; rfl, below_drewN hB0 _⟩
theorem c_Contains (A : Option Addr) (n c : Nat) (X Y : Nat → Int) (x y : Int) (w : World) (hn : n ≤ 1048576) (h : RdA w w.heap.size A n X Y) :
    Calls Try.prog 76 #[.slice A n c, .agg #[.int .i64 x, .int .i64 y]] w fun e w' => e = .returned (.bool (hasB X Y n x y)) ∧ Below w.heap.size w w' := by
  have hB0 : Below w.heap.size w (w.alloc (.cells #[.int .i64 x, .int .i64 y] 62)) := (Below.refl _ _).alloc (Nat.le_refl _) _
  have C := Lib.hid (c_Index A n c X Y x y _ hn (h.step hB0))
  clear h
  go_enter Try.func76, Try.ntmps76
  go_wp2_with (go_at_call 82; refine C.out.mono ?_; rintro e w1 ⟨r, rfl, hr1, hr2, hr, hb1⟩)
  go_ret
  exact ⟨ret_bool hr, below_seq hB0 hb1⟩
set_option maxHeartbeats 1000000 in
theorem c_ArrayValid (A : Option Addr) (n c : Nat) (X Y : Nat → Int) (w : World) (hn : n ≤ 1048576) (hnc : n ≤ c) (h : RdA w w.heap.size A n X Y) :
    Calls Try.prog 54 #[.slice A n c] w fun e w' => e = .returned (.bool (avB X Y n)) ∧ Below w.heap.size w w' := by
  by_cases h2 : 2 ≤ n
  · by_cases h7 : n ≤ 7
    · go_enter Try.func54, Try.ntmps54
      go_wp2
      go_loopw [15] (fun i wr => ∃ k : Nat, k ≤ n ∧ i = .int .i64 k ∧ Below w.heap.size w wr ∧ AllTo (aokB X Y) k) (fun i _ => n - (intOf i).toNat)
      case atStart => exact ⟨0, Nat.zero_le _, rfl, Below.refl _ _, AllTo.zero _⟩
      case round =>
        obtain ⟨k, hk, rfl, hb, ha⟩ := hrel
        have HA := Lib.hid ha
        clear ha
        by_cases hlt : k < n
        · have hA := h.below hb
          obtain ⟨ad, rfl, hab, hc⟩ := h.at_ hlt
          have h1 : wr.cell? (ad.add (k * 2)) = some (.int .i64 (X k)) := (hb.cell (by rw [block_add]; exact hab)).trans (hc k hlt).1
          have h3 : wr.cell? ⟨(ad.add (k * 2)).block, (ad.add (k * 2)).off + 1, none⟩ = some (.int .i64 (Y k)) := (hb.cell (by simp only [block_add]; exact hab)).trans (hc k hlt).2
          clear hc h
          go_wp2
          have b1 : (wr.alloc (.cells #[.int .i64 (X k), .int .i64 (Y k)] 62)).cell? ⟨wr.heap.size, 0, none⟩ = some (.int .i64 (X k)) := by simp
          have b2 : (wr.alloc (.cells #[.int .i64 (X k), .int .i64 (Y k)] 62)).cell? ⟨wr.heap.size, 1, none⟩ = some (.int .i64 (Y k)) := by simp
          have BW : Below w.heap.size w (wr.alloc (.cells #[.int .i64 (X k), .int .i64 (Y k)] 62)) := hb.alloc hb.size _
          have hs : wr.heap.size < (wr.alloc (.cells #[.int .i64 (X k), .int .i64 (Y k)] 62)).heap.size := by simp
          have hA' := hA.below (BW.trans (Below.refl _ _) |> fun _ => (Below.refl w.heap.size wr).alloc hb.size (.cells #[.int .i64 (X k), .int .i64 (Y k)] 62))
          generalize wr.alloc (.cells #[.int .i64 (X k), .int .i64 (Y k)] 62) = W at b1 b2 BW hs hA' ⊢
          clear hA h1 h3
          have hsW := BW.size
          have kc : (k : Int) ≤ (c : Int) := by omega
          by_cases hp : plB (X k) (Y k) = true
          · have C1 := Lib.hid (fun w => c_isPlace (X k) (Y k) w)
            rw [hp] at C1
            obtain ⟨d, hd⟩ : ∃ d, hasB X Y k (X k) (Y k) = d := ⟨_, rfl⟩
            have HD := Lib.hid hd
            have HP := Lib.hid hp
            have C2 := Lib.hid (fun w' (hw : RdA w' w'.heap.size (some ad) k X Y) => c_Contains (some ad) k c X Y (X k) (Y k) w' (by omega) hw)
            rw [hd] at C2
            clear hd hp
            cases d with
            | false =>
              go_region_with (first
                | (go_at_call 75; refine (C1.out _).mono ?_; rintro e w1 ⟨rfl, hb1⟩; have hB1 : Below W.heap.size W w1 := ⟨hb1.os, hb1.tape, hb1.output, hb1.size, hb1.block⟩; clear hb1; have b1' := (hB1.cell (p := ⟨wr.heap.size, 0, none⟩) hs).trans b1; have b2' := (hB1.cell (p := ⟨wr.heap.size, 1, none⟩) hs).trans b2; have hA1 : RdA w1 w1.heap.size (some ad) k X Y := ((hA'.less (by omega)).below (hB1.mono hsW)).more (Nat.le_trans hsW hB1.size))
                | (go_at_call 76; refine (C2.out _ hA1).mono ?_; rintro e w2 ⟨rfl, hb2⟩; have hB2 : Below W.heap.size W w2 := hB1.trans (Below.mono ⟨hb2.os, hb2.tape, hb2.output, hb2.size, hb2.block⟩ hB1.size)))
              all_goals
                go_wp2
                go_roundw
                case rel => exact ⟨k + 1, by omega, by go_num, BW.trans (hB2.mono hsW), HA.out.succ (aok_yes HP.out HD.out)⟩
                case measure => simp [intOf]; omega
            | true =>
              go_region_with (first
                | (go_at_call 75; refine (C1.out _).mono ?_; rintro e w1 ⟨rfl, hb1⟩; have hB1 : Below W.heap.size W w1 := ⟨hb1.os, hb1.tape, hb1.output, hb1.size, hb1.block⟩; clear hb1; have b1' := (hB1.cell (p := ⟨wr.heap.size, 0, none⟩) hs).trans b1; have b2' := (hB1.cell (p := ⟨wr.heap.size, 1, none⟩) hs).trans b2; have hA1 : RdA w1 w1.heap.size (some ad) k X Y := ((hA'.less (by omega)).below (hB1.mono hsW)).more (Nat.le_trans hsW hB1.size))
                | (go_at_call 76; refine (C2.out _ hA1).mono ?_; rintro e w2 ⟨rfl, hb2⟩; have hB2 : Below W.heap.size W w2 := hB1.trans (Below.mono ⟨hb2.os, hb2.tape, hb2.output, hb2.size, hb2.block⟩ hB1.size)))
              all_goals
                go_wp2
                go_ret
                exact ⟨ret_bool (avB_bad hlt (aok_dup HD.out)), BW.trans (hB2.mono hsW)⟩
          · have hp' : plB (X k) (Y k) = false := by simpa using hp
            have C1 := Lib.hid (fun w => c_isPlace (X k) (Y k) w)
            rw [hp'] at C1
            have HP := Lib.hid hp'
            clear hp hp'
            first | (go_region_with (first
              | (go_at_call 75; refine (C1.out _).mono ?_; rintro e w1 ⟨rfl, hb1⟩; have hB1 : Below W.heap.size W w1 := ⟨hb1.os, hb1.tape, hb1.output, hb1.size, hb1.block⟩; clear hb1))) | fail
            all_goals
              go_wp2
              go_ret
              exact ⟨ret_bool (avB_bad hlt (aok_pl HP.out)), BW.trans (hB1.mono hsW)⟩
        · go_wp2
          go_ret
          exact ⟨ret_bool (avB_all h2 h7 (fun j hj => HA.out j (by omega))), hb⟩
    · go_enter Try.func54, Try.ntmps54
      go_wp2
      go_ret
      exact ⟨ret_bool (avB_len (n := n) (.inr (by omega))), Below.refl _ _⟩
  · go_enter Try.func54, Try.ntmps54
    go_wp2
    go_ret
    exact ⟨ret_bool (avB_len (n := n) (.inl (by omega))), Below.refl _ _⟩
set_option maxHeartbeats 1000000 in
theorem c_sArrayValid (A : Option Addr) (n c : Nat) (X Y : Nat → Int) (w : World) (hn : n ≤ 1048576) (h : RdA w w.heap.size A n X Y) :
    Calls Try.prog 55 #[.slice A n c] w fun e w' => e = .returned (.bool (avB X Y n)) ∧ Below w.heap.size w w' := by
  go_enter Try.func55, Try.ntmps55
  go_wp2
  go_loopw [3] (fun i wr => ∃ k : Nat, k ≤ n ∧ i = .int .i64 k ∧ Below w.heap.size w wr ∧ AllTo (aokB X Y) k) (fun i _ => n - (intOf i).toNat)
  case atStart => exact ⟨0, Nat.zero_le _, rfl, Below.refl _ _, AllTo.zero _⟩
  case round =>
    obtain ⟨k, hk, rfl, hb, ha⟩ := hrel
    have HA := Lib.hid ha
    clear ha
    by_cases hlt : k < n
    · obtain ⟨ad, rfl, hab, hc⟩ := h.at_ hlt
      have h1 : wr.cell? (ad.add (k * 2)) = some (.int .i64 (X k)) := (hb.cell (by rw [block_add]; exact hab)).trans (hc k hlt).1
      have h3 : wr.cell? ⟨(ad.add (k * 2)).block, (ad.add (k * 2)).off + 1, none⟩ = some (.int .i64 (Y k)) := (hb.cell (by simp only [block_add]; exact hab)).trans (hc k hlt).2
      have hz : (k : Int) < (n : Int) := by omega
      by_cases hp : plB (X k) (Y k) = true
      · have C1 := Lib.hid (fun w => c_l3Place (X k) (Y k) w)
        rw [hp] at C1
        have HP := Lib.hid hp
        have HC := Lib.hid hc
        clear hp hc h
        go_wp2_with (go_at_call 77; refine (C1.out _).mono ?_; rintro e w1 ⟨rfl, hb1⟩)
        have B1 := below_seq hb hb1
        clear hb1 h1 h3
        go_loopw [4] (fun i wr => ∃ j : Nat, j ≤ k ∧ i = .int .i64 j ∧ Below w.heap.size w wr ∧ hasB X Y j (X k) (Y k) = false) (fun i _ => k - (intOf i).toNat)
        case atStart => exact ⟨0, Nat.zero_le _, rfl, B1, rfl⟩
        case round =>
          obtain ⟨j, hj, rfl, hbj, hh⟩ := hrel
          have HH := Lib.hid hh
          clear hh
          by_cases hjt : j < k
          · have h1 := (hbj.cell (p := ad.add (k * 2)) (by rw [block_add]; exact hab)).trans (HC.out k hlt).1
            have h3 := (hbj.cell (p := ⟨(ad.add (k * 2)).block, (ad.add (k * 2)).off + 1, none⟩) (by simp only [block_add]; exact hab)).trans (HC.out k hlt).2
            have h5 := (hbj.cell (p := ad.add (j * 2)) (by rw [block_add]; exact hab)).trans (HC.out j (by omega)).1
            have h6 := (hbj.cell (p := ⟨(ad.add (j * 2)).block, (ad.add (j * 2)).off + 1, none⟩) (by simp only [block_add]; exact hab)).trans (HC.out j (by omega)).2
            have hz2 : (j : Int) < (n : Int) := by omega
            by_cases e1 : X j = X k
            · by_cases e2 : Y j = Y k
              · have q1 : (X j == X k) = true := by simpa using e1
                have q2 : (Y j == Y k) = true := by simpa using e2
                have E := Lib.hid (has_yes (X := X) (Y := Y) hjt e1 e2)
                clear e1 e2
                go_wp2
                go_quiet (fail)
                go_wp2
                go_ret
                exact ⟨ret_bool (avB_bad hlt (aok_dup E.out)), below_drewN hbj _⟩
              · have q1 : (X j == X k) = true := by simpa using e1
                have q2 : (Y j == Y k) = false := by simpa using e2
                have E := Lib.hid (has_step HH.out (ne_pair2 e2))
                clear e1 e2
                go_wp2
                go_quiet (fail)
                go_wp2
                go_roundw
                case rel => exact ⟨j + 1, by omega, by go_num, below_drewN hbj _, E.out⟩
                case measure => simp [intOf]; omega
            · have q1 : (X j == X k) = false := by simpa using e1
              have E := Lib.hid (has_step HH.out (ne_pair e1))
              clear e1
              go_wp2
              go_quiet (fail)
              go_wp2
              go_roundw
              case rel => exact ⟨j + 1, by omega, by go_num, below_drewN hbj _, E.out⟩
              case measure => simp [intOf]; omega
          · obtain rfl : j = k := by omega
            go_wp2
            go_roundw
            case rel => exact ⟨j + 1, by omega, by go_num, hbj, HA.out.succ (aok_yes HP.out HH.out)⟩
            case measure => simp [intOf]; omega
      · have hp' : plB (X k) (Y k) = false := by simpa using hp
        have C1 := Lib.hid (fun w => c_l3Place (X k) (Y k) w)
        rw [hp'] at C1
        have HP := Lib.hid hp'
        clear hp hp' hc h
        go_wp2_with (go_at_call 77; refine (C1.out _).mono ?_; rintro e w1 ⟨rfl, hb1⟩)
        go_ret
        exact ⟨ret_bool (avB_bad hlt (aok_pl HP.out)), below_seq hb hb1⟩
    · obtain rfl : k = n := by omega
      have e : avB X Y k = inB 2 7 k := by
        unfold avB
        rw [allN_mk HA.out, Bool.and_true]
      have C := Lib.hid (fun w => c_l6In k 2 7 w)
      rw [← e] at C
      clear e
      go_wp2_with (go_at_call 65; refine (C.out _).mono ?_; rintro e w' ⟨rfl, rfl⟩)
      go_ret
      exact ⟨rfl, hb⟩
end Go.Proofs.Ytpabcpiiolfakaa
