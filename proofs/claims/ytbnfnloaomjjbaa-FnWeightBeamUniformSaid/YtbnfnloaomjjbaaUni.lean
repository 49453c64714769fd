/-
  The reference's uniform weights, and the marks of bools.
-/
import Derived.Test.YtbnfnloaomjjbaaCovers
import Derived.Test.YtbnfnloaomjjbaaApp
namespace Go.Proofs.Ytbnfnloaomjjbaa
open Go.RowKit

set_option maxHeartbeats 1000000 in
theorem c_sWeightUniform (A : Option Addr) (n c : Nat) (f : Nat → Bool) (w : World) (hn : n ≤ 1048576) (h : Rd w w.heap.size A n (fun k => .bool (f k))) :
    Calls Try.prog 16 #[.slice A n c] w (Rets 3 w (len16 (cvB n f)) (fun k => .int .i64 (uni f k)) (cvB n f)) := by
  have h' : ∀ o, Rd (w.alloc o) (w.alloc o).heap.size A n (fun k => .bool (f k)) := fun o => h.step ((Below.refl _ _).alloc (Nat.le_refl _) _)
  by_cases hv : cvB n f = true
  · obtain ⟨hnn, _⟩ := cvB_true hv
    subst hnn
    rw [hv]
    go_enter Try.func16, Try.ntmps16
    go_wp2_with (go_at_call 31; refine (c_sCoverValid _ _ _ f _ (by omega) (h' _)).mono ?_; rintro e w' ⟨rfl, m0, rfl⟩)
    go_loopw [4, 5] (fun v i wr => ∃ k : Nat, k ≤ 16 ∧ i = .int .i64 k ∧ Below w.heap.size w wr ∧ Own wr w.heap.size 3 v k (fun k => .int .i64 (uni f k))) (fun _ i _ => 16 - (intOf i).toNat)
    case atStart => exact ⟨0, Nat.zero_le _, rfl, below_drewN ((Below.refl _ _).alloc (Nat.le_refl _) _) m0, (Own.empty _ _ _ (Nat.le_refl _)).drewN m0⟩
    case round =>
      obtain ⟨k, hk, rfl, hb, hr⟩ := hrel
      by_cases hlt : k < 16
      · obtain ⟨ad, rfl, hab, hc⟩ := h.at_ hlt
        have h1 : wr.cell? (ad.add k) = some (.bool (f k)) := (hb.cell (by rw [block_add]; exact hab)).trans (hc k hlt)
        have hsz := hb.size
        by_cases hf : f k = true
        · rw [hf] at h1
          have hu : uni f k = 1 := by simp [uni, hf]
          have HU := Lib.hid hu
          clear hc h h' hf hu
          go_wp2_with (first | (go_at_call 32; refine (c_l21Cells _).mono ?_; rintro e w' ⟨rfl, rfl⟩) | (at_builtin; refine wpList_app1 wr (.int .i64 1) rfl _ _ 25 rfl w.heap.size 3 (.int .i64 0) 8 Try.underlying25 info_int rfl (by omega) _ k _ (by rfl) (by exact hr) (by rfl) (congrArg (Value.int .i64) HU.out) rfl (by omega) hsz ?_; intro v' w1 hown' hb1 _))
          go_roundw
          case rel => exact ⟨k + 1, by omega, by go_num, hb.trans hb1, hown'⟩
          case measure => simp [intOf]; omega
        · rw [show f k = false from by simpa using hf] at h1
          have hu : uni f k = 0 := by simp [uni, hf]
          have HU := Lib.hid hu
          clear hc h h' hf hu
          go_wp2_with (first | (go_at_call 32; refine (c_l21Cells _).mono ?_; rintro e w' ⟨rfl, rfl⟩) | (at_builtin; refine wpList_app1 wr (.int .i64 0) rfl _ _ 25 rfl w.heap.size 3 (.int .i64 0) 8 Try.underlying25 info_int rfl (by omega) _ k _ (by rfl) (by exact hr) (by rfl) (congrArg (Value.int .i64) HU.out) rfl (by omega) hsz ?_; intro v' w1 hown' hb1 _))
          go_roundw
          case rel => exact ⟨k + 1, by omega, by go_num, hb.trans hb1, hown'⟩
          case measure => simp [intOf]; omega
      · go_wp2_with (go_at_call 32; refine (c_l21Cells _).mono ?_; rintro e w' ⟨rfl, rfl⟩)
        obtain rfl : k = 16 := by omega
        obtain ⟨A1, c1, rfl, hm⟩ := hr.made
        go_ret2
        exact ⟨_, _, rfl, hb, hm⟩
  · have hv' : cvB n f = false := by simpa using hv
    clear hv
    rw [hv']
    go_enter Try.func16, Try.ntmps16
    go_wp2_with (go_at_call 31; refine (c_sCoverValid _ _ _ f _ (by omega) (h' _)).mono ?_; rintro e w' ⟨rfl, m0, rfl⟩)
    go_ret2
    exact ⟨_, _, rfl, below_drewN ((Below.refl _ _).alloc (Nat.le_refl _) _) _, Made.nil _ _ _ _ _⟩
end Go.Proofs.Ytbnfnloaomjjbaa
