/-
  Drawn weights.
-/
import Derived.Test.YtbnfnloaomjjbaaDrawLib
import Derived.Test.YtbnfnloaomjjbaaCovers
import Derived.StillTailTactics
import Derived.Deep.RegionWith
namespace Go.Proofs.Ytbnfnloaomjjbaa
open Go.RowKit

set_option maxHeartbeats 2000000 in
theorem c_l93Weights (g p : Nat) (w : World) (h : Rdr w g p) (hp : p ≤ 1000) :
    Calls Try.prog 41 #[.pointer (some ⟨g, 0, none⟩)] w (Draws (DrawnI 2000) w g p) := by
  have hmk := mk_ints16
  have hg := h.lt
  go_enter Try.func41, Try.ntmps41
  go_wp2_with (go_at_call 32; refine (c_l21Cells _).mono ?_; rintro e w' ⟨rfl, rfl⟩)
  refine (c_pick g p 7 _ (h.alloc _) (by omega) (by omega) (by omega)).mono ?_
  rintro e w1 ⟨x, hx, rfl, hr1, ho1⟩
  have hg1 : Grow g w w1 := ((Grow.refl g w).alloc _).only ho1
  have R1 : Row w1 w.heap.size 3 16 (fun _ => .int .i64 0) := (Row.made w (.int .i64 0) 16 3).only ho1 (fun ad e => by injection e with e; subst e; show g ≠ w.heap.size; omega)
  clear hmk ho1
  go_wp2
  go_loopw [5] (fun i wr => ∃ (k p1 : Nat) (F : Nat → Int), k ≤ x ∧ i = .int .i64 k ∧ p1 = p + 1 + 2 * k ∧ Rdr wr g p1 ∧ Grow g w wr ∧ Row wr w.heap.size 3 16 (fun k => .int .i64 (F k)) ∧ ∀ k, -1000 ≤ F k ∧ F k ≤ 1000) (fun i _ => x - (intOf i).toNat)
  case atStart => exact ⟨0, p + 1, fun _ => 0, Nat.zero_le _, rfl, rfl, hr1, hg1, R1, fun _ => by show (-1000 : Int) ≤ 0 ∧ (0 : Int) ≤ 1000; omega⟩
  case round =>
    obtain ⟨k, p1, F, hk, rfl, hp1, hr, hgr, R, hF⟩ := hrel
    have HP := Lib.hid hp1
    have hp2 : p1 ≤ 1100 := by omega
    have HF := Lib.hid hF
    clear hp1 hF R1 hr1 hg1 h
    by_cases hlt : k < x
    · go_wp2_with (go_at_call 32; refine (c_l21Cells _).mono ?_; rintro e w' ⟨rfl, rfl⟩)
      refine (c_pick g p1 16 _ hr (by omega) (by omega) (by omega)).mono ?_
      rintro e w2 ⟨y, hy, rfl, hr2, ho2⟩
      go_wp2_with fail
      refine (c_pick g (p1 + 1) 9 _ hr2 (by omega) (by omega) (by omega)).mono ?_
      rintro e w3 ⟨z, hz, rfl, hr3, ho3⟩
      have G3 : Grow g w w3 := (hgr.only ho2).only ho3
      have R3 : Row w3 w.heap.size 3 16 (fun k => .int .i64 (F k)) := (R.only ho2 (fun ad e => by injection e with e; subst e; show g ≠ w.heap.size; omega)).only ho3 (fun ad e => by injection e with e; subst e; show g ≠ w.heap.size; omega)
      clear hr hgr R ho2 ho3 hr2
      have o1 : w3.cell? ⟨w.heap.size, y, none⟩ = some (.int .i64 (F y)) := R3.cell hy
      have o2 : w3.frozen? ⟨w.heap.size, y, none⟩ = false := R3.frozen y
      go_wp2
      obtain ⟨w4, hw4⟩ : ∃ w4, w4 = w3.setCell ⟨w.heap.size, y, none⟩ (.int .i64 (z : Nat)) := ⟨_, rfl⟩
      have G4 : Grow g w w4 := by rw [hw4]; exact G3.set (Nat.le_refl _) _
      have r4 : Rdr w4 g (p1 + 1 + 1) := by rw [hw4]; exact hr3.set hg _
      have R4 : Row w4 w.heap.size 3 16 (fun k => .int .i64 (if k = y then (z : Int) else F k)) := by rw [hw4]; exact (R3.set y _).congr (fun i _ => by by_cases e : i = y <;> simp [e])
      rw [← hw4]
      clear hw4 o1 o2 G3 hr3 R3
      have q1 : w4.cell? ⟨w.heap.size, y, none⟩ = some (.int .i64 (z : Int)) := by simpa using R4.cell hy
      have q2 : w4.frozen? ⟨w.heap.size, oppN y, none⟩ = false := R4.frozen _
      obtain ⟨u, q3⟩ : ∃ u, w4.cell? ⟨w.heap.size, oppN y, none⟩ = some u := ⟨_, R4.cell (oppN_lt y)⟩
      have i1 : (y : Int) < 16 := by omega
      have i2 : ((oppN y : Nat) : Int) < 16 := by have := oppN_lt y; omega
      go_region_with (go_at_call 46; refine (c_l21At' _ _ (oppN y) (opp_wrapped y hy) _).mono ?_; rintro e w' ⟨rfl, rfl⟩)
      all_goals
        go_wp2
        go_roundw
        case rel =>
          refine ⟨k + 1, p1 + 1 + 1, fun k => if k = oppN y then (z : Int) else if k = y then (z : Int) else F k, by omega, by go_num, by rw [HP.out]; omega, (r4.set hg _).drew, (G4.set (Nat.le_refl _) _).drew, ((R4.set _ _).congr (fun i _ => ?_)).drew, fun i => ?_⟩
          · by_cases e : i = oppN y <;> simp [e]
          · have := HF.out i
            show -1000 ≤ (if i = oppN y then (z : Int) else if i = y then (z : Int) else F i) ∧ (if i = oppN y then (z : Int) else if i = y then (z : Int) else F i) ≤ 1000
            split
            · omega
            · split <;> omega
        case measure => simp [intOf]; omega
    · go_wp2_with fail
      refine (c_pick g p1 24 _ hr (by omega) (by omega) (by omega)).mono ?_
      rintro e w2 ⟨y, hy, rfl, hr2, ho2⟩
      have G2 : Grow g w w2 := hgr.only ho2
      have R2 : Row w2 w.heap.size 3 16 (fun k => .int .i64 (F k)) := R.only ho2 (fun ad e => by injection e with e; subst e; show g ≠ w.heap.size; omega)
      clear hr hgr R ho2
      by_cases y0 : y = 0
      · subst y0
        have o1 : w2.cell? ⟨w.heap.size, 1, none⟩ = some (.int .i64 (F 1)) := R2.cell (by omega)
        have o2 : w2.frozen? ⟨w.heap.size, 1, none⟩ = false := R2.frozen 1
        have f1 := (HF.out 1).1
        have f2 := (HF.out 1).2
        have R4 : Row (w2.setCell ⟨w.heap.size, 1, none⟩ (.int .i64 (F 1 + 1))) w.heap.size 3 16 (fun k => .int .i64 (if k = 1 then F 1 + 1 else F k)) := (R2.set 1 _).congr (fun i _ => by by_cases e : i = 1 <;> simp [e])
        clear R2
        go_wp2
        go_ret
        refine ⟨_, _, rfl, ⟨w.heap.size, 0, 16, 16, fun k => if k = 1 then F 1 + 1 else F k, Nat.le_refl _, rfl, by omega, by omega, R4, fun i => ?_⟩, hr2.set hg _, by rw [HP.out]; omega, G2.set (Nat.le_refl _) _⟩
        have := HF.out i
        show -2000 ≤ (if i = 1 then F 1 + 1 else F i) ∧ (if i = 1 then F 1 + 1 else F i) ≤ 2000
        split <;> omega
      · by_cases y1 : y = 1
        · subst y1
          go_wp2_with fail
          refine (c_pick g (p1 + 1) 3 _ (hr2.alloc _) (by omega) (by omega) (by omega)).mono ?_
          rintro e w3 ⟨z, hz, rfl, hr3, ho3⟩
          have hs2 := G2.size
          have G3 : Grow g w w3 := (G2.alloc _).only ho3
          have R3 : Row w3 w.heap.size 3 16 (fun k => .int .i64 (F k)) := (R2.alloc _).only ho3 (fun ad e => by injection e with e; subst e; show g ≠ w.heap.size; omega)
          have T3 : Row w3 w2.heap.size 3 3 (fun i => .int .i64 (if i = 0 then -1 else if i = 1 then 101 else 100)) := by
            refine Row.only (w := w2.alloc _) ⟨_, heap_alloc_new w2 _, fun i hi => ?_⟩ ho3 (fun ad e => by injection e with e; subst e; show g ≠ w2.heap.size; omega)
            match i, hi with
            | 0, _ => rfl
            | 1, _ => rfl
            | 2, _ => rfl
          have t1 : w3.cell? ⟨w2.heap.size, z, none⟩ = some (.int .i64 (if z = 0 then -1 else if z = 1 then 101 else 100)) := T3.cell hz
          have o1 : w3.cell? ⟨w.heap.size, 0, none⟩ = some (.int .i64 (F 0)) := R3.cell (by omega)
          have o2 : w3.frozen? ⟨w.heap.size, 0, none⟩ = false := R3.frozen 0
          obtain ⟨q, hq, eq⟩ : ∃ q : Int, (-1 ≤ q ∧ q ≤ 101) ∧ (if z = 0 then (-1 : Int) else if z = 1 then 101 else 100) = q := ⟨_, by split <;> (try split) <;> omega, rfl⟩
          rw [eq] at t1
          have R4 : Row (w3.setCell ⟨w.heap.size, 0, none⟩ (.int .i64 q)) w.heap.size 3 16 (fun k => .int .i64 (if k = 0 then q else F k)) := (R3.set 0 _).congr (fun i _ => by by_cases e : i = 0 <;> simp [e])
          clear R2 R3 T3 eq hr2 G2 ho3
          go_wp2
          go_ret
          refine ⟨_, _, rfl, ⟨w.heap.size, 0, 16, 16, fun k => if k = 0 then q else F k, Nat.le_refl _, rfl, by omega, by omega, R4, fun i => ?_⟩, hr3.set hg _, by rw [HP.out]; omega, G3.set (Nat.le_refl _) _⟩
          have := HF.out i
          show -2000 ≤ (if i = 0 then q else F i) ∧ (if i = 0 then q else F i) ≤ 2000
          split <;> omega
        · by_cases y2 : y = 2
          · subst y2
            go_wp2
            go_ret
            exact ⟨_, _, rfl, ⟨w.heap.size, 1, 15, 15, F, Nat.le_refl _, rfl, by omega, by omega, R2, fun i => by have := HF.out i; omega⟩, hr2, by rw [HP.out]; omega, G2⟩
          · have b0 : ((y : Int) == 0) = false := by simpa using (by omega : (y : Int) ≠ 0)
            have b1 : ((y : Int) == 1) = false := by simpa using (by omega : (y : Int) ≠ 1)
            have b2 : ((y : Int) == 2) = false := by simpa using (by omega : (y : Int) ≠ 2)
            go_wp2
            go_ret
            exact ⟨_, _, rfl, ⟨w.heap.size, 0, 16, 16, F, Nat.le_refl _, rfl, by omega, by omega, R2, fun i => by have := HF.out i; omega⟩, hr2, by rw [HP.out]; omega, G2⟩
theorem DrawnI.less {M : Int} {B B' : Nat} {v : Value} {w : World} (h : DrawnI M B v w) (hB : B' ≤ B) : DrawnI M B' v w := by
  obtain ⟨b, off, n, c, F, hb, r⟩ := h
  exact ⟨b, off, n, c, F, by omega, r⟩
theorem drew_of {D : Nat → Value → World → Prop} (hD : ∀ (B B' : Nat) (v : Value) (w : World), D B v w → B' ≤ B → D B' v w) {w w1 w2 : World} {g : Nat} {v : Value} (hg : w.heap.size ≤ g) (hb : Below w.heap.size w w1) (hd : D w1.heap.size v w2) (hG : Grow g w1 w2) :
    D w.heap.size v w2 ∧ Below w.heap.size w w2 := ⟨hD _ _ _ _ hd hb.size, hb.trans (hG.below hg hb.size)⟩

theorem c_DrawWeightBeam (A : Option Addr) (n c : Nat) (f : Nat → Int) (w : World) (hn : n ≤ 1048576) (hnc : n ≤ c) (h : Code8 w w.heap.size A n f) :
    Calls Try.prog 25 #[.slice A n c] w (Drew (DrawnI 2000) w) := by
  go_enter Try.func25, Try.ntmps25
  go_wp2_with fail
  refine (c_l6Open A n c f _ hn hnc h).mono ?_
  rintro e w1 ⟨g, hg, rfl, hr, hb⟩
  go_wp2_with fail
  refine (c_l93Weights g 0 _ hr (by omega)).mono ?_
  rintro e w2 ⟨v, p', rfl, hd, hr2, hp, hG⟩
  go_wp2
  go_ret
  obtain ⟨hd', hb'⟩ := drew_of (D := DrawnI 2000) (fun _ _ _ _ h k => h.less k) hg hb hd hG
  exact ⟨_, rfl, hd', hb'⟩
end Go.Proofs.Ytbnfnloaomjjbaa
