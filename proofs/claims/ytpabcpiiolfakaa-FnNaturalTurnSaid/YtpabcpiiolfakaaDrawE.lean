/-
  Drawn arrays with a number of channels; drawn arrays for the search; plain laws on tracks.
-/
import Derived.Test.YtpabcpiiolfakaaChan
namespace Go.Proofs.Ytpabcpiiolfakaa
open Go.RowKit Go.Deep

def lit2 (y : Nat) : Int := if y = 0 then 0 else 101
theorem lit2_bd (y : Nat) : 0 ≤ lit2 y ∧ lit2 y ≤ 101 := by unfold lit2; split <;> omega
theorem lit2_cell (W : World) (y : Nat) (hy : y < 2) : (W.alloc (.cells #[.int .i64 0, .int .i64 101] 3)).cell? ⟨W.heap.size, y, none⟩ = some (.int .i64 (lit2 y)) := by
  have h : y = 0 ∨ y = 1 := by omega
  unfold World.cell?
  rw [show (⟨W.heap.size, y, none⟩ : Addr).block = W.heap.size from rfl, heap_alloc_new]
  rcases h with rfl | rfl <;> rfl
set_option maxHeartbeats 1000000 in
theorem c_DrawTrackChannels (A : Option Addr) (n c : Nat) (f : Nat → Int) (w : World) (hn : n ≤ 1048576) (hnc : n ≤ c) (h : Code8 w w.heap.size A n f) :
    Calls Try.prog 32 #[.slice A n c] w (DrewK w) := by
  go_enter Try.func32, Try.ntmps32
  go_wp2_with fail
  refine (c_l6Open A n c f _ hn hnc h).mono ?_
  rintro e w1 ⟨g, hg, rfl, hr, hb⟩
  go_wp2_with fail
  refine (c_l91Array g 0 _ hr (by omega)).mono ?_
  rintro e w2 ⟨v, p', rfl, hd, hr2, hp, hG⟩
  have hg1 := hr.lt
  obtain ⟨hd2, hb2⟩ := drewA_of hg hb hd hG
  go_wp2_with fail
  refine (c_pick g p' 12 _ hr2 (by omega) (by omega) (by omega)).mono ?_
  rintro e w3 ⟨x, hx, rfl, hr3, ho3⟩
  have hd3 := hd.grow (Grow.of_only ho3) hg1
  have hb3 := hb2.trans (ho3.below (fun ad e => by injection e with e; subst e; exact hg))
  clear hr2 ho3 hd hd2 hb2 hG h
  have sz3 := hb3.size
  have hg3 := hr3.lt
  by_cases x0 : x = 0
  · subst x0
    go_wp2
    go_region_with (first
      | (go_at_call 52; refine (c_pick g (p' + 1) 2 _ (by exact (hr3.alloc _).drew) (by omega) (by omega) (by omega)).mono ?_; rintro e w4 ⟨y, hy, rfl, hr4, ho4⟩; have hq : w4.cell? ⟨w3.heap.size, y, none⟩ = some (.int .i64 (lit2 y)) := (World.cell?_of_block (ho4.block w3.heap.size (fun ad e => by injection e with e; subst e; show g ≠ _; omega))).trans (lit2_cell w3 y hy); have hb4 : Below w.heap.size w w4 := hb3.trans ((below_dw ((Below.refl _ w3).alloc sz3 _)).trans (Only.below ⟨ho4.os, ho4.tape, ho4.output, ho4.size, ho4.block⟩ (fun ad e => by injection e with e; subst e; exact hg))); have hd4 := (hd3.grow (g := g) (Grow.of_below (below_dw ((Below.refl _ w3).alloc (Nat.le_refl _) _))) hg1).grow (Grow.of_only ⟨ho4.os, ho4.tape, ho4.output, ho4.size, ho4.block⟩) hg1)
      | (go_at_call 52; refine (c_pick g (p' + 1) 2 _ (by exact hr3.drew) (by omega) (by omega) (by omega)).mono ?_; rintro e w4 ⟨y, hy, rfl, hr4, ho4⟩; have hq := lit2_cell w4 y hy; have ho5 : Only w3 w4 (some ⟨g, 0, none⟩) := ⟨ho4.os, ho4.tape, ho4.output, ho4.size, ho4.block⟩; have hb4 : Below w.heap.size w w4 := hb3.trans (ho5.below (fun ad e => by injection e with e; subst e; exact hg)); have hd4 := hd3.grow (Grow.of_only ho5) hg1))
    all_goals
      go_wp2
      go_ret2
      have b := lit2_bd y
      first
        | exact ⟨_, _, rfl, b.1, b.2, hd4.less hb.size, hb4⟩
        | exact ⟨_, _, rfl, b.1, b.2, (hd4.grow (g := g) (Grow.of_below ((Below.refl _ w4).alloc (Nat.le_refl _) _)) hg1).less hb.size, hb4.alloc hb4.size _⟩
  · have b0 : ((x : Int) == 0) = false := by simpa using (by omega : (x : Int) ≠ 0)
    go_wp2_with fail
    refine (c_pick g (p' + 1) 6 _ hr3 (by omega) (by omega) (by omega)).mono ?_
    rintro e w4 ⟨y, hy, rfl, hr4, ho4⟩
    have hd4 := hd3.grow (Grow.of_only ho4) hg1
    have hb4 := hb3.trans (ho4.below (fun ad e => by injection e with e; subst e; exact hg))
    go_wp2
    go_ret2
    exact ⟨_, _, rfl, by omega, by omega, hd4.less hb.size, hb4⟩
set_option maxHeartbeats 1000000 in
theorem c_DrawTrackFull (A : Option Addr) (n c : Nat) (f : Nat → Int) (w : World) (hn : n ≤ 1048576) (hnc : n ≤ c) (h : Code8 w w.heap.size A n f) :
    Calls Try.prog 17 #[.slice A n c] w (Drew DrawnA w) := by
  go_enter Try.func17, Try.ntmps17
  go_wp2_with fail
  refine (c_l6Open A n c f _ hn hnc h).mono ?_
  rintro e w1 ⟨g, hg, rfl, hr, hb⟩
  clear h
  go_wp2_with fail
  refine (c_pick g 0 3 _ hr (by omega) (by omega) (by omega)).mono ?_
  rintro e w2 ⟨x, hx, rfl, hr2, ho2⟩
  have hb2 := hb.trans (ho2.below (B := w.heap.size) (fun ad e => by injection e with e; subst e; exact hg))
  clear hr ho2 hb
  by_cases x0 : x = 0
  · subst x0
    go_wp2_with fail
    refine (c_pick g (0 + 1) 3 _ hr2 (by omega) (by omega) (by omega)).mono ?_
    rintro e w3 ⟨y, hy, rfl, hr3, ho3⟩
    have hb3 := hb2.trans (ho3.below (B := w.heap.size) (fun ad e => by injection e with e; subst e; exact hg))
    clear hr2 ho3 hb2
    go_wp2_with fail
    refine (c_pick g (0 + 1 + 1) 2 _ hr3 (by omega) (by omega) (by omega)).mono ?_
    rintro e w4 ⟨z, hz, rfl, hr4, ho4⟩
    have hb4 := hb3.trans (ho4.below (B := w.heap.size) (fun ad e => by injection e with e; subst e; exact hg))
    clear hr3 ho4 hb3
    go_wp2_with fail
    refine (c_pick g (0 + 1 + 1 + 1) 2 _ hr4 (by omega) (by omega) (by omega)).mono ?_
    rintro e w5 ⟨u, hu, rfl, hr5, ho5⟩
    have hb5 := hb4.trans (ho5.below (B := w.heap.size) (fun ad e => by injection e with e; subst e; exact hg))
    have s5 := hb5.size
    clear hr4 ho5 hb4
    go_wp2
    go_ret
    refine ⟨_, rfl, ⟨w5.heap.size, 6, 6, fun j => if j = 1 then 1 else if j = 3 then 2 + 4 * (y : Int) else if j = 4 then 1 else if j = 5 then 3 + 4 * (u : Int) else 0, fun j => if j = 2 then 1 else if j = 3 then 1 else if j = 4 then 3 + 4 * (z : Int) else if j = 5 then 2 else 0, s5, rfl, by omega, by omega, by omega, ⟨_, heap_alloc_new w5 _, fun i hi => ?_⟩⟩, hb5.alloc s5 _⟩
    have h6 : i = 0 ∨ i = 1 ∨ i = 2 ∨ i = 3 ∨ i = 4 ∨ i = 5 ∨ i = 6 ∨ i = 7 ∨ i = 8 ∨ i = 9 ∨ i = 10 ∨ i = 11 := by omega
    rcases h6 with rfl | rfl | rfl | rfl | rfl | rfl | rfl | rfl | rfl | rfl | rfl | rfl <;> rfl
  · have b0 : ((x : Int) == 0) = false := by simpa using (by omega : (x : Int) ≠ 0)
    go_wp2_with fail
    refine (c_l91Array g (0 + 1) _ hr2 (by omega)).mono ?_
    rintro e w3 ⟨v, p', rfl, hd, hr3, hp, hG⟩
    go_wp2
    go_ret
    exact ⟨_, rfl, hd.less hb2.size, hb2.trans (hG.below hg hb2.size)⟩

theorem cmany_or (f g : Nat → Bool) : cmany (fun c => f c || g c) ≤ cmany f + cmany g := by
  have e : ∀ n, sumN (uni (fun c => f c || g c)) n ≤ sumN (uni f) n + sumN (uni g) n := by
    intro n
    induction n with
    | zero => simp [sumN]
    | succ n ih =>
      have h : uni (fun c => f c || g c) n ≤ uni f n + uni g n := by
        show (if (f n || g n) = true then (1 : Int) else 0) ≤ (if f n = true then 1 else 0) + (if g n = true then 1 else 0)
        cases f n <;> cases g n <;> decide
      simp only [sumN]; omega
  exact e 16
theorem cmany_torn (f : Nat → Bool) : cmany (fun c => f (tornN c)) = cmany f := by
  have v : ∀ c : Fin 16, tornN c.val = [0, 12, 8, 4, 1, 13, 9, 5, 2, 14, 10, 6, 3, 15, 11, 7].getD c.val 0 := by decide
  have e : ∀ (c : Nat) (hc : c < 16), uni (fun c => f (tornN c)) c = uni f ([0, 12, 8, 4, 1, 13, 9, 5, 2, 14, 10, 6, 3, 15, 11, 7].getD c 0) := fun c hc => by
    have h := v ⟨c, hc⟩
    simp only at h
    show (if f (tornN c) = true then (1 : Int) else 0) = _
    rw [h]
    rfl
  unfold cmany
  simp only [sumN, e 0 (by omega), e 1 (by omega), e 2 (by omega), e 3 (by omega), e 4 (by omega), e 5 (by omega), e 6 (by omega), e 7 (by omega), e 8 (by omega), e 9 (by omega), e 10 (by omega), e 11 (by omega), e 12 (by omega), e 13 (by omega), e 14 (by omega), e 15 (by omega)]
  simp
  omega
theorem cmany_kv (X Y : Nat → Int) (n : Nat) : cmany (kvB X Y n) ≤ 2 * cmany (trB 1 X Y n) := by
  have h1 := cmany_or (trB 1 X Y n) (fun c => trB 1 X Y n (tornN c))
  rw [cmany_torn] at h1
  have h2 : cmany (kvB X Y n) = cmany (fun c => trB 1 X Y n c || trB 1 X Y n (tornN c)) := rfl
  omega
theorem cmany_pos {f : Nat → Bool} {a : Nat} (ha : a < 16) (h : f a = true) : 1 ≤ cmany f := by
  have e : ∀ n, n ≤ 16 → 0 ≤ sumN (uni f) n ∧ (a < n → 1 ≤ sumN (uni f) n) := by
    intro n
    induction n with
    | zero => intro _; exact ⟨by simp [sumN], fun h => by omega⟩
    | succ n ih =>
      intro hn
      obtain ⟨i1, i2⟩ := ih (by omega)
      have u := uni_bd' f n
      simp only [sumN]
      refine ⟨by omega, fun hl => ?_⟩
      by_cases e : n = a
      · subst e
        have : uni f n = 1 := by simp [uni, h]
        omega
      · have := i2 (by omega); omega
  exact (e 16 (by omega)).2 ha
theorem cmany_kv_pos (X Y : Nat → Int) {n : Nat} (h2 : 2 ≤ n) : 1 ≤ cmany (kvB X Y n) := by
  refine cmany_pos (a := cellK 1 X Y 0 1) (cellK_lt _ _ _ _ _) ?_
  unfold kvB
  rw [show trB 1 X Y n (cellK 1 X Y 0 1) = true from trB_iff.2 ⟨0, 1, by omega, by omega, by omega, rfl⟩]
  rfl
theorem kv_tr (X Y : Nat → Int) (n c : Nat) : (kvB X Y n c || trB 1 X Y n c) = kvB X Y n c := by
  unfold kvB; cases trB 1 X Y n c <;> cases trB 1 X Y n (tornN c) <;> rfl
theorem c_valid_sym (A : Option Addr) (c : Nat) (f : Nat → Bool) (w : World) (hs : SymB f) (h : Rd w w.heap.size A 16 (fun c => .bool (f c))) :
    Calls Try.prog 30 #[.slice A 16 c] w fun e w' => e = .returned (.bool true) ∧ ∃ m, w' = w.drewN m := by
  have C := c_CoverValid A 16 c f w (by omega) h
  rwa [hs.cv] at C
theorem c_many_sym (A : Option Addr) (c : Nat) (f : Nat → Bool) (w : World) (hs : SymB f) (h : Rd w w.heap.size A 16 (fun c => .bool (f c))) :
    Calls Try.prog 31 #[.slice A 16 c] w fun e w' => e = .returned (.int .i64 (cmany f)) ∧ ∃ m, w' = w.drewN m := by
  have C := c_CoverMany A 16 c f w (by omega) h
  rwa [cmanyB, if_pos hs.cv] at C
theorem c_join_sym (A A' : Option Addr) (c c' : Nat) (f f' : Nat → Bool) (w : World) (hs : SymB f) (hs' : SymB f') (h : Rd w w.heap.size A 16 (fun c => .bool (f c))) (h' : Rd w w.heap.size A' 16 (fun c => .bool (f' c))) :
    Calls Try.prog 27 #[.slice A 16 c, .slice A' 16 c'] w (Rets 4 w 16 (fun k => .bool (f k || f' k)) true) := by
  have C := c_CoverJoin A A' 16 16 c c' f f' w (by omega) (by omega) h h'
  rwa [hs.cv, hs'.cv] at C
theorem c_join_no (A A' : Option Addr) (c c' : Nat) (f f' : Nat → Bool) (w : World) (h : Rd w w.heap.size A 0 (fun c => .bool (f c))) (h' : Rd w w.heap.size A' 16 (fun c => .bool (f' c))) :
    Calls Try.prog 27 #[.slice A 0 c, .slice A' 16 c'] w (Rets 4 w 0 (fun k => .bool (f k || f' k)) false) := by
  have C := c_CoverJoin A A' 0 16 c c' f f' w (by omega) (by omega) h h'
  rwa [cvB_len (by omega)] at C
theorem c_turn_sym (A : Option Addr) (c : Nat) (f : Nat → Bool) (w : World) (hs : SymB f) (h : Rd w w.heap.size A 16 (fun c => .bool (f c))) :
    Calls Try.prog 25 #[.slice A 16 c] w (Rets 4 w 16 (fun c => .bool (f (tornN c))) true) := by
  have C := c_CoverTurn A 16 c f w (by omega) h
  rwa [hs.cv] at C
end Go.Proofs.Ytpabcpiiolfakaa
