/-
  Joined and turned coverages, for a seat of beams.
-/
import Derived.Test.YtbnfnloaomjjbaaTrPlain
import Derived.Test.YtbnfnloaomjjbaaSame
namespace Go.Proofs.Ytbnfnloaomjjbaa
open Go.RowKit

set_option maxHeartbeats 1000000 in
theorem c_CoverJoin (A A' : Option Addr) (n n' c c' : Nat) (f f' : Nat → Bool) (w : World) (hn : n ≤ 1048576) (hn' : n' ≤ 1048576) (h : Rd w w.heap.size A n (fun k => .bool (f k))) (h' : Rd w w.heap.size A' n' (fun k => .bool (f' k))) :
    Calls Try.prog 22 #[.slice A n c, .slice A' n' c'] w (Rets 4 w (len16 (cvB n f && cvB n' f')) (fun k => .bool (f k || f' k)) (cvB n f && cvB n' f')) := by
  have C1 := Lib.hid (fun m => c_CoverValid A n c f (w.drewN m) hn (h.drewN m))
  have C2 := Lib.hid (fun m => c_CoverValid A' n' c' f' (w.drewN m) hn' (h'.drewN m))
  by_cases hv : cvB n f = true
  · rw [hv] at C1 ⊢
    by_cases hv' : cvB n' f' = true
    · obtain ⟨rfl, -⟩ := cvB_true hv
      obtain ⟨rfl, -⟩ := cvB_true hv'
      rw [hv'] at C2 ⊢
      have hmk := mk_bools16
      clear hv hv'
      go_enter Try.func22, Try.ntmps22
      go_wp2_with fail
      refine (C1.out 0).mono ?_
      rintro e w' ⟨rfl, m0, rfl⟩
      go_wp2_with fail
      refine (C2.out m0).mono ?_
      rintro e w' ⟨rfl, m1, rfl⟩
      go_wp2
      clear hmk C1 C2
      go_loopw [21] (fun i wr => ∃ k : Nat, k ≤ 16 ∧ i = .int .i64 k ∧ Below w.heap.size w wr ∧ Row wr w.heap.size 4 16 (fun j => .bool (if j < k then f j || f' j else false))) (fun i _ => 16 - (intOf i).toNat)
      case atStart => exact ⟨0, Nat.zero_le _, rfl, (below_drewN (Below.refl w.heap.size w) _).alloc (Nat.le_refl _) _, (Row.made (w.drewN (m0 + m1)) (.bool false) 16 4).congr (fun i _ => by simp)⟩
      case round =>
        obtain ⟨k, hk, rfl, hb, hr⟩ := hrel
        by_cases hlt : k < 16
        · obtain ⟨ad, rfl, hab, hc⟩ := h.at_ hlt
          obtain ⟨ad', rfl, hab', hc'⟩ := h'.at_ hlt
          have h1 : wr.cell? (ad.add k) = some (.bool (f k)) := (hb.cell (by rw [block_add]; exact hab)).trans (hc k hlt)
          have h2 : wr.cell? (ad'.add k) = some (.bool (f' k)) := (hb.cell (by rw [block_add]; exact hab')).trans (hc' k hlt)
          have h3 := hr.cell hlt
          have h4 := hr.frozen k
          have hz : (k : Int) < 16 := by omega
          have R := (hr.set k (.bool (f k || f' k))).congr (f' := fun j => .bool (if j < k + 1 then f j || f' j else false)) (fun j _ => by
            by_cases e : j = k
            · subst e; simp
            · rw [if_neg e]; by_cases h : j < k
              · rw [if_pos h, if_pos (by omega)]
              · rw [if_neg h, if_neg (by omega)])
          have HR := Lib.hid R
          clear hc hc' h h' hr R
          obtain ⟨d, hd⟩ : ∃ d, f k = d := ⟨_, rfl⟩
          rw [hd] at h1 HR
          clear hd
          cases d with
          | true =>
            go_wp2
            go_roundw
            case rel => exact ⟨k + 1, by omega, by go_num, hb.setCell (Nat.le_refl _) _, HR.out⟩
            case measure => simp [intOf]; omega
          | false =>
            go_wp2
            go_roundw
            case rel => exact ⟨k + 1, by omega, by go_num, hb.setCell (Nat.le_refl _) _, by have h9 := HR.out; rw [Bool.false_or] at h9; exact h9⟩
            case measure => simp [intOf]; omega
        · go_wp2
          go_ret2
          exact ⟨_, _, rfl, hb, fun _ => ⟨_, rfl, Nat.le_refl _, hr.congr (fun j hj => by rw [if_pos (show j < k from by have : j < 16 := hj; omega)])⟩⟩
    · have hv2 : cvB n' f' = false := by simpa using hv'
      rw [hv2] at C2 ⊢
      clear hv hv' hv2 h h'
      go_enter Try.func22, Try.ntmps22
      go_wp2_with fail
      refine (C1.out 0).mono ?_
      rintro e w' ⟨rfl, m0, rfl⟩
      go_wp2_with fail
      refine (C2.out m0).mono ?_
      rintro e w' ⟨rfl, m1, rfl⟩
      go_wp2
      go_ret2
      exact ⟨_, _, rfl, below_drewN (Below.refl _ _) _, Made.nil _ _ _ _ _⟩
  · have hv2 : cvB n f = false := by simpa using hv
    rw [hv2] at C1 ⊢
    clear hv hv2 h h'
    go_enter Try.func22, Try.ntmps22
    go_wp2_with fail
    refine (C1.out 0).mono ?_
    rintro e w' ⟨rfl, m0, rfl⟩
    go_wp2
    go_ret2
    exact ⟨_, _, rfl, below_drewN (Below.refl _ _) _, Made.nil _ _ _ _ _⟩
theorem c_cellAt' (x y : Int) (r : Nat) (h : cellN x y = r) (w : World) : Calls Try.prog 44 #[.int .i64 x, .int .i64 y] w fun e w' => e = .returned (.int .i64 (r : Nat)) ∧ w = w' := by
  subst h; exact c_cellAt x y w
/-- What has been turned when k cells are done. -/
def turnK (f : Nat → Bool) (k c : Nat) : Bool := if tornN c < k then f (tornN c) else false
theorem turnK_step (f : Nat → Bool) {k c : Nat} (hc : c < 16) : turnK f (k + 1) c = if c = rotN k ∧ k < 16 then f k else turnK f k c := by
  have rt := rot_torn ⟨c, hc⟩
  simp only at rt
  unfold turnK
  by_cases e : tornN c = k
  · rw [e] at rt ⊢
    rw [if_pos (by omega), if_pos ⟨rt.symm, by rw [← e]; exact tornN_lt _⟩]
  · have hne : ¬ (c = rotN k ∧ k < 16) := fun h => by
      have tr := torn_rot ⟨k, h.2⟩
      simp only at tr
      rw [h.1] at e
      exact e tr
    rw [if_neg hne]
    by_cases h : tornN c < k
    · rw [if_pos h, if_pos (by omega)]
    · rw [if_neg h, if_neg (by omega)]
set_option maxHeartbeats 1000000 in
theorem c_CoverTurn (A : Option Addr) (n c : Nat) (f : Nat → Bool) (w : World) (hn : n ≤ 1048576) (h : Rd w w.heap.size A n (fun k => .bool (f k))) :
    Calls Try.prog 28 #[.slice A n c] w (Rets 4 w (len16 (cvB n f)) (fun c => .bool (f (tornN c))) (cvB n f)) := by
  have C1 := Lib.hid (c_CoverValid A n c f w hn h)
  by_cases hv : cvB n f = true
  · obtain ⟨rfl, -⟩ := cvB_true hv
    rw [hv] at C1 ⊢
    have hmk := mk_bools16
    clear hv
    go_enter Try.func28, Try.ntmps28
    go_wp2_with fail
    refine C1.out.mono ?_
    rintro e w' ⟨rfl, m0, rfl⟩
    go_wp2
    clear hmk C1
    go_loopw [15] (fun i wr => ∃ k : Nat, k ≤ 16 ∧ i = .int .i64 k ∧ Below w.heap.size w wr ∧ Row wr w.heap.size 4 16 (fun c => .bool (turnK f k c))) (fun i _ => 16 - (intOf i).toNat)
    case atStart => exact ⟨0, Nat.zero_le _, rfl, (below_drewN (Below.refl w.heap.size w) m0).alloc (Nat.le_refl _) _, (Row.made (w.drewN m0) (.bool false) 16 4).congr (fun i _ => by simp [turnK])⟩
    case round =>
      obtain ⟨k, hk, rfl, hb, hr⟩ := hrel
      by_cases hlt : k < 16
      · obtain ⟨ad, rfl, hab, hc⟩ := h.at_ hlt
        have h1 : wr.cell? (ad.add k) = some (.bool (f k)) := (hb.cell (by rw [block_add]; exact hab)).trans (hc k hlt)
        have h3 := hr.cell (rotN_lt k)
        have h4 := hr.frozen (rotN k)
        have hz : (k : Int) < 16 := by omega
        have hz2 : ((rotN k : Nat) : Int) < 16 := by have := rotN_lt k; omega
        have R := (hr.set (rotN k) (.bool (f k))).congr (f' := fun c => .bool (turnK f (k + 1) c)) (fun j hj => by
          rw [turnK_step f hj]
          by_cases e : j = rotN k <;> simp [e, hlt])
        clear hc h hr
        go_wp2_with (go_at_call 44; refine (c_cellAt' _ _ (rotN k) rfl _).mono ?_; rintro e w' ⟨rfl, rfl⟩)
        go_roundw
        case rel => exact ⟨k + 1, by omega, by go_num, hb.setCell (Nat.le_refl _) _, R⟩
        case measure => simp [intOf]; omega
      · obtain rfl : k = 16 := by omega
        go_wp2
        go_ret2
        exact ⟨_, _, rfl, hb, fun _ => ⟨_, rfl, Nat.le_refl _, hr.congr (fun j hj => by rw [turnK, if_pos (tornN_lt _)])⟩⟩
  · have hv2 : cvB n f = false := by simpa using hv
    rw [hv2] at C1 ⊢
    clear hv hv2 h
    go_enter Try.func28, Try.ntmps28
    go_wp2_with fail
    refine C1.out.mono ?_
    rintro e w' ⟨rfl, m0, rfl⟩
    go_wp2
    go_ret2
    exact ⟨_, _, rfl, below_drewN (Below.refl _ _) _, Made.nil _ _ _ _ _⟩
end Go.Proofs.Ytbnfnloaomjjbaa
