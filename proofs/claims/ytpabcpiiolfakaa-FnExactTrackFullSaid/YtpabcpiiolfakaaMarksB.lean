/-
  Marks on lists of bools.
-/
import Derived.Test.YtpabcpiiolfakaaMarks
namespace Go.Proofs.Ytpabcpiiolfakaa
open Go.RowKit

/-- The mark with a number. -/
def mark3 (k : Nat) : Bool := ((k : Nat) : Int) % 3 == 0
/-- Marks: the list's own block is written, nothing else. -/
theorem c_markBoolS (B : Nat) (A : Option Addr) (n c k0 : Nat) (f : Nat → Value) (w : World) (hn : n ≤ 1048576) (hk0 : k0 ≤ 1048577) (h : Made w B 4 A n f) :
    Calls Try.prog 40 #[.slice A n c, .int .i64 k0] w fun e w' => e = .returned (.int .i64 (k0 + n : Nat)) ∧ Only w w' (if n = 0 then none else A) ∧ Made w' B 4 A n (fun j => .bool (mark3 (k0 + j))) := by
  by_cases hn0 : n = 0
  · subst hn0
    go_enter Try.func40, Try.ntmps40
    go_wp2
    refine wp_loop_rounds 1 ?_
    rw [rounds_succ]
    go_wp2
    go_ret
    exact ⟨rfl, Only.refl _ _, Made.nil _ _ _ _ _⟩
  · obtain ⟨g, rfl, hg, hr⟩ := h (by omega)
    rw [if_neg hn0]
    clear hn0
    go_enter Try.func40, Try.ntmps40
    go_wp2
    go_loopw [1, 5] (fun q i wr => ∃ k : Nat, k ≤ n ∧ q = .int .i64 (k0 + k : Nat) ∧ i = .int .i64 k ∧ Only w wr (some ⟨g, 0, none⟩) ∧ Row wr g 4 n (fun j => if j < k then .bool (mark3 (k0 + j)) else f j)) (fun _ i _ => n - (intOf i).toNat)
    case atStart => exact ⟨0, Nat.zero_le _, rfl, rfl, Only.refl _ _, hr.congr (fun i _ => by simp)⟩
    case round =>
      obtain ⟨k, hk, rfl, rfl, ho, hrw⟩ := hrel
      by_cases hlt : k < n
      · have h2 : wr.cell? ⟨g, k, none⟩ = some (f k) := by simpa using hrw.cell hlt
        have h3 : wr.frozen? ⟨g, k, none⟩ = false := hrw.frozen k
        have R : Row (wr.setCell ⟨g, k, none⟩ (.bool (mark3 (k0 + k)))) g 4 n (fun j => if j < k + 1 then .bool (mark3 (k0 + j)) else f j) := (hrw.set k _).congr (fun j _ => by
          by_cases e : j = k
          · subst e; simp
          · rw [if_neg e]; by_cases h : j < k
            · rw [if_pos h, if_pos (by omega)]
            · rw [if_neg h, if_neg (by omega)])
        have O := ho.set (p := ⟨g, k, none⟩) (ad := ⟨g, 0, none⟩) rfl rfl (.bool (mark3 (k0 + k)))
        have hm3 : (((k0 + k : Nat) : Int) % 3 == 0) = mark3 (k0 + k) := rfl
        clear hr hrw h
        go_wp2
        go_roundw
        case rel => exact ⟨k + 1, by omega, by go_num, by go_num, O, R⟩
        case measure => simp [intOf]; omega
      · go_wp2
        go_ret
        exact ⟨ret_int (by omega), ho, fun _ => ⟨g, rfl, hg, hrw.congr (fun j hj => by rw [if_pos (by omega)])⟩⟩
theorem c_heldBoolS (A : Option Addr) (n c k0 : Nat) (w : World) (hn : n ≤ 1048576) (hk0 : k0 ≤ 1048577) (h : Rd w w.heap.size A n (fun j => .bool (mark3 (k0 + j)))) :
    Calls Try.prog 41 #[.slice A n c, .int .i64 k0] w fun e w' => e = .returned (.int .i64 (k0 + n : Nat)) ∧ ∃ m, w' = w.drewN m := by
  go_enter Try.func41, Try.ntmps41
  go_wp2
  go_loopw [1, 5] (fun q i wr => ∃ k m : Nat, k ≤ n ∧ q = .int .i64 (k0 + k : Nat) ∧ i = .int .i64 k ∧ wr = w.drewN m) (fun _ i _ => n - (intOf i).toNat)
  case atStart => exact ⟨0, 0, Nat.zero_le _, rfl, rfl, rfl⟩
  case round =>
    obtain ⟨k, m, hk, rfl, rfl, rfl⟩ := hrel
    by_cases hlt : k < n
    · obtain ⟨ad, rfl, _, hc⟩ := h.at_ hlt
      have h1 : w.cell? (ad.add k) = some (.bool (mark3 (k0 + k))) := hc k hlt
      obtain ⟨b, hb⟩ : ∃ b, mark3 (k0 + k) = b := ⟨_, rfl⟩
      have hm3 : (((k0 + k : Nat) : Int) % 3 == 0) = b := hb
      rw [hb] at h1
      clear hc h hb
      cases b with
      | true =>
        have hm4 : ((k0 : Int) + (k : Int)) % 3 = 0 := by simpa using hm3
        go_wp2
        go_roundw
        case rel => exact ⟨k + 1, m, by omega, by go_num, by go_num, rfl⟩
        case measure => simp [intOf]; omega
      | false =>
        have hm4 : ¬ ((k0 : Int) + (k : Int)) % 3 = 0 := by simpa using hm3
        go_wp2
        go_roundw
        case rel => exact ⟨k + 1, m, by omega, by go_num, by go_num, rfl⟩
        case measure => simp [intOf]; omega
    · go_wp2
      go_ret
      exact ⟨ret_int (by omega), _, rfl⟩
end Go.Proofs.Ytpabcpiiolfakaa
