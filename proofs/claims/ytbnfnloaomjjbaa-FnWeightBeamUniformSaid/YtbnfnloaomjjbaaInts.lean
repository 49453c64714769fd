/-
  Contracts of the functions over lists of integers: copies, comparisons, marks; valid weights and their sums.
-/
import Derived.Test.YtbnfnloaomjjbaaSmall
import Derived.Deep.QuietTactic
import Derived.BigQuiet
namespace Go.Proofs.Ytbnfnloaomjjbaa
open Go.RowKit

theorem info_int : (Try.prog.info? 3).map (fun i => (i.zero, i.size, i.bytes)) = some (some (.int .i64 0), 1, 8) := by kernel_rfl

set_option maxHeartbeats 1000000 in
theorem c_sWeightValid (A : Option Addr) (n c : Nat) (f : Nat → Int) (w : World) (hn : n ≤ 1048576) (h : Rd w w.heap.size A n (fun k => .int .i64 (f k))) :
    Calls Try.prog 42 #[.slice A n c] w fun e w' => e = .returned (.bool (wvB n f)) ∧ ∃ m, w' = w.drewN m := by
  by_cases hnn : n = 16
  · subst hnn
    go_enter Try.func42, Try.ntmps42
    go_wp2_with (go_at_call 32; refine (c_l21Cells _).mono ?_; rintro e w' ⟨rfl, rfl⟩)
    go_loopw [3] (fun i wr => ∃ k m : Nat, k ≤ 16 ∧ i = .int .i64 k ∧ wr = w.drewN m ∧ AllTo (wok f) k) (fun i _ => 16 - (intOf i).toNat)
    case atStart => exact ⟨0, 0, Nat.zero_le _, rfl, rfl, AllTo.zero _⟩
    case round =>
      obtain ⟨k, m, hk, rfl, rfl, ha⟩ := hrel
      have HA := Lib.hid ha
      clear ha
      by_cases hlt : k < 16
      · obtain ⟨ad, rfl, _, hc⟩ := h.at_ hlt
        have h1 : w.cell? (ad.add k) = some (.int .i64 (f k)) := hc k hlt
        have h2 : w.cell? (ad.add (oppN k)) = some (.int .i64 (f (oppN k))) := hc _ (oppN_lt k)
        have hz : (k : Int) < (16 : Int) := by omega
        have hz2 : ((oppN k : Nat) : Int) < (16 : Int) := by have := oppN_lt k; omega
        clear hc h
        by_cases hin : inB 0 100 (f k) = true
        · by_cases e : f k = f (oppN k)
          · have he : (f k == f (oppN k)) = true := by simpa using e
            have HE := Lib.hid e
            clear e
            go_wp2_with (go_at_call 32; refine (c_l21Cells _).mono ?_; rintro e w' ⟨rfl, rfl⟩)
            go_quiet (first | (go_at_call 52; exact qsa (c_l6In _ _ _ _)) | (go_at_call 46; exact qsa (c_l21At' _ _ (oppN k) rfl _)))
            go_wp2
            go_roundw
            case rel => exact ⟨k + 1, _, by omega, by go_num, rfl, HA.out.succ (wok_yes hin HE.out)⟩
            case measure => simp [intOf]; omega
          · have he : (f k == f (oppN k)) = false := by simpa using e
            have HE := Lib.hid e
            clear e
            go_wp2_with (go_at_call 32; refine (c_l21Cells _).mono ?_; rintro e w' ⟨rfl, rfl⟩)
            go_quiet (first | (go_at_call 52; exact qsa (c_l6In _ _ _ _)) | (go_at_call 46; exact qsa (c_l21At' _ _ (oppN k) rfl _)))
            go_wp2
            go_ret
            exact ⟨ret_bool (wvB_bad hlt (wok_ne HE.out)), drew2 _ _ _⟩
        · have hin' : inB 0 100 (f k) = false := by simpa using hin
          clear hin
          go_wp2_with (go_at_call 32; refine (c_l21Cells _).mono ?_; rintro e w' ⟨rfl, rfl⟩)
          go_quiet (first | (go_at_call 52; exact qsa (c_l6In _ _ _ _)) | (go_at_call 46; exact qsa (c_l21At' _ _ (oppN k) rfl _)))
          go_wp2
          go_ret
          exact ⟨ret_bool (wvB_bad hlt (wok_no hin')), drew2 _ _ _⟩
      · go_wp2_with (go_at_call 32; refine (c_l21Cells _).mono ?_; rintro e w' ⟨rfl, rfl⟩)
        go_ret
        exact ⟨ret_bool (wvB_good (fun j hj => HA.out j (by omega))), _, rfl⟩
  · have hz : ((n : Int) == 16) = false := by simpa using (by omega : (n : Int) ≠ 16)
    have HN := Lib.hid hnn
    clear hnn
    go_enter Try.func42, Try.ntmps42
    go_wp2_with (go_at_call 32; refine (c_l21Cells _).mono ?_; rintro e w' ⟨rfl, rfl⟩)
    go_ret
    exact ⟨ret_bool (wvB_len HN.out), 0, rfl⟩
set_option maxHeartbeats 1000000 in
theorem c_WeightValid (A : Option Addr) (n c : Nat) (f : Nat → Int) (w : World) (hn : n ≤ 1048576) (h : Rd w w.heap.size A n (fun k => .int .i64 (f k))) :
    Calls Try.prog 18 #[.slice A n c] w fun e w' => e = .returned (.bool (wvB n f)) ∧ ∃ m, w' = w.drewN m := by
  by_cases hnn : n = 16
  · subst hnn
    go_enter Try.func18, Try.ntmps18
    go_wp2
    go_loopw [10] (fun i wr => ∃ k m : Nat, k ≤ 16 ∧ i = .int .i64 k ∧ wr = w.drewN m ∧ AllTo (wok f) k) (fun i _ => 16 - (intOf i).toNat)
    case atStart => exact ⟨0, 0, Nat.zero_le _, rfl, rfl, AllTo.zero _⟩
    case round =>
      obtain ⟨k, m, hk, rfl, rfl, ha⟩ := hrel
      have HA := Lib.hid ha
      clear ha
      by_cases hlt : k < 16
      · obtain ⟨ad, rfl, _, hc⟩ := h.at_ hlt
        have h1 : w.cell? (ad.add k) = some (.int .i64 (f k)) := hc k hlt
        have h2 : w.cell? (ad.add (oppN k)) = some (.int .i64 (f (oppN k))) := hc _ (oppN_lt k)
        have hz : (k : Int) < (16 : Int) := by omega
        have hz2 : ((oppN k : Nat) : Int) < (16 : Int) := by have := oppN_lt k; omega
        clear hc h
        by_cases hlo : f k < 0
        · go_wp2_with (go_at_call 40; refine (c_opposite _ hlt _).mono ?_; rintro e w' ⟨rfl, rfl⟩)
          go_ret
          exact ⟨ret_bool (wvB_bad hlt (wok_no (by unfold inB; simp; omega))), _, rfl⟩
        · by_cases hhi : 100 < f k
          · go_wp2_with (go_at_call 40; refine (c_opposite _ hlt _).mono ?_; rintro e w' ⟨rfl, rfl⟩)
            go_ret
            exact ⟨ret_bool (wvB_bad hlt (wok_no (by unfold inB; simp; omega))), _, rfl⟩
          · by_cases e : f k = f (oppN k)
            · have he : (f (oppN k) == f k) = true := by simpa using e.symm
              have HE := Lib.hid e
              clear e
              go_wp2_with (go_at_call 40; refine (c_opposite _ hlt _).mono ?_; rintro e w' ⟨rfl, rfl⟩)
              go_roundw
              case rel => exact ⟨k + 1, _, by omega, by go_num, rfl, HA.out.succ (wok_yes (inB_mk (by omega) (by omega)) HE.out)⟩
              case measure => simp [intOf]; omega
            · have he : (f (oppN k) == f k) = false := by simpa using fun h => e h.symm
              have HE := Lib.hid e
              clear e
              go_wp2_with (go_at_call 40; refine (c_opposite _ hlt _).mono ?_; rintro e w' ⟨rfl, rfl⟩)
              go_ret
              exact ⟨ret_bool (wvB_bad hlt (wok_ne HE.out)), _, rfl⟩
      · go_wp2
        go_ret
        exact ⟨ret_bool (wvB_good (fun j hj => HA.out j (by omega))), _, rfl⟩
  · have hz : ((n : Int) == 16) = false := by simpa using (by omega : (n : Int) ≠ 16)
    have HN := Lib.hid hnn
    clear hnn
    go_enter Try.func18, Try.ntmps18
    go_wp2
    go_ret
    exact ⟨ret_bool (wvB_len HN.out), 0, rfl⟩
set_option maxHeartbeats 1000000 in
theorem c_WeightSum (A : Option Addr) (n c : Nat) (f : Nat → Int) (w : World) (hn : n ≤ 1048576) (h : Rd w w.heap.size A n (fun k => .int .i64 (f k))) :
    Calls Try.prog 19 #[.slice A n c] w fun e w' => e = .returned (.int .i64 (wsum n f)) ∧ ∃ m, w' = w.drewN m := by
  by_cases hv : wvB n f = true
  · obtain ⟨hnn, hok⟩ := wvB_true hv
    subst hnn
    have hs := fun k (hk : k ≤ 16) => sumN_bd (f := f) (M := 100) (n := 16) (fun k hk => ⟨(wok_bd (hok k hk)).1, (wok_bd (hok k hk)).2.1⟩) k hk
    have hf := fun k (hk : k < 16) => wok_bd (hok k hk)
    have HS := Lib.hid hs
    have HF := Lib.hid hf
    clear hok hs hf
    go_enter Try.func19, Try.ntmps19
    go_wp2_with (go_at_call 18; refine (c_WeightValid _ _ _ f _ (by omega) h).mono ?_; rintro e w' ⟨rfl, m0, rfl⟩)
    go_loopw [3, 11] (fun s i wr => ∃ k m : Nat, k ≤ 16 ∧ s = .int .i64 (sumN f k) ∧ i = .int .i64 k ∧ wr = w.drewN m) (fun _ i _ => 16 - (intOf i).toNat)
    case atStart => exact ⟨0, m0, Nat.zero_le _, rfl, rfl, rfl⟩
    case round =>
      obtain ⟨k, m, hk, rfl, rfl, rfl⟩ := hrel
      have hsb := HS.out k hk
      obtain ⟨hs1, hs2⟩ := hsb
      by_cases hlt : k < 16
      · obtain ⟨ad, rfl, _, hc⟩ := h.at_ hlt
        have h1 : w.cell? (ad.add k) = some (.int .i64 (f k)) := hc k hlt
        have hf1 := (HF.out k hlt).1
        have hf2 := (HF.out k hlt).2.1
        clear hc h
        go_wp2
        go_roundw
        case rel => exact ⟨k + 1, _, by omega, rfl, by go_num, rfl⟩
        case measure => simp [intOf]; omega
      · go_wp2
        go_ret
        exact ⟨ret_int (by rw [wsum, if_pos hv]; congr 1; omega), _, rfl⟩
  · have hv' : wvB n f = false := by simpa using hv
    clear hv
    go_enter Try.func19, Try.ntmps19
    go_wp2_with (go_at_call 18; refine (c_WeightValid _ _ _ f _ (by omega) h).mono ?_; rintro e w' ⟨rfl, m0, rfl⟩)
    go_ret
    exact ⟨ret_int (by rw [wsum, if_neg (by rw [hv']; simp)]), _, rfl⟩
end Go.Proofs.Ytbnfnloaomjjbaa
