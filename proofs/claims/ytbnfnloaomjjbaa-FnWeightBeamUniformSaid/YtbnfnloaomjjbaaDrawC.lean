/-
  Drawn coverages.
-/
import Derived.Test.YtbnfnloaomjjbaaDrawLib
import Derived.Test.YtbnfnloaomjjbaaCovers
namespace Go.Proofs.Ytbnfnloaomjjbaa
open Go.RowKit

theorem DrawnB.less {B B' : Nat} {v : Value} {w : World} (h : DrawnB B v w) (hB : B' ≤ B) : DrawnB B' v w := by
  obtain ⟨b, off, n, c, F, hb, r⟩ := h
  exact ⟨b, off, n, c, F, by omega, r⟩
theorem drewB_of {w w1 w2 : World} {g : Nat} {v : Value} (hg : w.heap.size ≤ g) (hb : Below w.heap.size w w1) (hd : DrawnB w1.heap.size v w2) (hG : Grow g w1 w2) :
    DrawnB w.heap.size v w2 ∧ Below w.heap.size w w2 := ⟨hd.less hb.size, hb.trans (hG.below hg hb.size)⟩
/-- What stands when the cells are drawn: a row of sixteen bools, the reader, nothing else turned. -/
def CovSt (w : World) (g p B : Nat) (w' : World) : Prop := ∃ F : Nat → Bool, Rdr w' g p ∧ Grow g w w' ∧ Row w' B 4 16 (fun k => .bool (F k))
theorem CovSt.set {w w' : World} {g p B k : Nat} (h : CovSt w g p B w') (hg : g < B) (hB : w.heap.size ≤ B) (b : Bool) : CovSt w g p B (w'.setCell ⟨B, k, none⟩ (.bool b)) := by
  obtain ⟨F, hr, hG, hR⟩ := h
  exact ⟨fun j => if j = k then b else F j, hr.set hg _, hG.set hB _, (hR.set k _).congr (fun i _ => by by_cases e : i = k <;> simp [e])⟩
theorem CovSt.only {w w' w'' : World} {g p p' B : Nat} (h : CovSt w g p B w') (hg : g < B) (hr : Rdr w'' g p') (ho : Only w' w'' (some ⟨g, 0, none⟩)) : CovSt w g p' B w'' := by
  obtain ⟨F, _, hG, hR⟩ := h
  exact ⟨F, hr, hG.only ho, hR.only ho (fun ad e => by injection e with e; subst e; show g ≠ B; omega)⟩
theorem CovSt.cell {w w' : World} {g p B k : Nat} (h : CovSt w g p B w') (hk : k < 16) : ∃ b, w'.cell? ⟨B, k, none⟩ = some (.bool b) := by
  obtain ⟨F, _, _, hR⟩ := h
  exact ⟨_, hR.cell hk⟩
theorem CovSt.frozen {w w' : World} {g p B : Nat} (h : CovSt w g p B w') (k : Nat) : w'.frozen? ⟨B, k, none⟩ = false := by
  obtain ⟨F, _, _, hR⟩ := h
  exact hR.frozen k
theorem CovSt.rdr {w w' : World} {g p B : Nat} (h : CovSt w g p B w') : Rdr w' g p := by
  obtain ⟨F, hr, _, _⟩ := h
  exact hr
theorem CovSt.draws {w w' : World} {g p p0 B off n : Nat} (h : CovSt w g p B w') (hB : w.heap.size ≤ B) (hn : off + n = 16) (hp : p ≤ p0 + 100) (c : Nat) (hc : n ≤ c) :
    Draws DrawnB w g p0 (.returned (.slice (some ⟨B, off, none⟩) n c)) w' := by
  obtain ⟨F, hr, hG, hR⟩ := h
  exact ⟨_, _, rfl, ⟨B, off, n, c, F, hB, rfl, by omega, hc, hR.less (by omega)⟩, hr, hp, hG⟩

set_option maxHeartbeats 2000000 in
theorem c_l92Cover (g p : Nat) (w : World) (h : Rdr w g p) (hp : p ≤ 1000) :
    Calls Try.prog 29 #[.pointer (some ⟨g, 0, none⟩)] w (Draws DrawnB w g p) := by
  have hmk := mk_bools16
  have hg := h.lt
  go_enter Try.func29, Try.ntmps29
  go_wp2_with (go_at_call 32; refine (c_l21Cells _).mono ?_; rintro e w' ⟨rfl, rfl⟩)
  refine (c_pick g p 7 _ (h.alloc _) (by omega) (by omega) (by omega)).mono ?_
  rintro e w1 ⟨x, hx, rfl, hr1, ho1⟩
  have S1 : CovSt w g (p + 1) w.heap.size w1 := CovSt.only (w' := w.alloc (.cells (madeCells #[.bool false] 16) 4)) ⟨fun _ => false, h.alloc _, (Grow.refl g w).alloc _, Row.made w (.bool false) 16 4⟩ hg hr1 ho1
  clear hmk ho1 hr1 h
  go_wp2
  go_loopw [5] (fun i wr => ∃ (k p1 : Nat), k ≤ x ∧ i = .int .i64 k ∧ p1 = p + 1 + k ∧ CovSt w g p1 w.heap.size wr) (fun i _ => x - (intOf i).toNat)
  case atStart => exact ⟨0, p + 1, Nat.zero_le _, rfl, rfl, S1⟩
  case round =>
    obtain ⟨k, p1, hk, rfl, hp1, S⟩ := hrel
    have HP := Lib.hid hp1
    have hp2 : p1 ≤ 1100 := by omega
    clear hp1 S1
    by_cases hlt : k < x
    · go_wp2_with (go_at_call 32; refine (c_l21Cells _).mono ?_; rintro e w' ⟨rfl, rfl⟩)
      refine (c_pick g p1 16 _ S.rdr (by omega) (by omega) (by omega)).mono ?_
      rintro e w2 ⟨y, hy, rfl, hr2, ho2⟩
      have S2 := S.only hg hr2 ho2
      have S3 := S2.set (k := y) hg (Nat.le_refl _) true
      have S4 := S3.set (k := oppN y) hg (Nat.le_refl _) true
      obtain ⟨b1, o1⟩ := S2.cell hy
      have o2 := S2.frozen y
      obtain ⟨b2, o3⟩ := S3.cell (oppN_lt y)
      have o4 := S3.frozen (oppN y)
      have i1 : (y : Int) < 16 := by omega
      have i2 : ((oppN y : Nat) : Int) < 16 := by have := oppN_lt y; omega
      clear S S2 S3 ho2 hr2
      go_wp2_with (go_at_call 46; refine (c_l21At' _ _ (oppN y) rfl _).mono ?_; rintro e w' ⟨rfl, rfl⟩)
      go_roundw
      case rel => exact ⟨k + 1, p1 + 1, by omega, by go_num, by rw [HP.out]; omega, S4⟩
      case measure => simp [intOf]; omega
    · go_wp2_with fail
      refine (c_pick g p1 12 _ S.rdr (by omega) (by omega) (by omega)).mono ?_
      rintro e w2 ⟨y, hy, rfl, hr2, ho2⟩
      have S2 := S.only hg hr2 ho2
      clear S ho2 hr2
      have fin : ∀ w5 : World, CovSt w g (p1 + 1) w.heap.size w5 → CovSt w g (p1 + 1) w.heap.size w5 := fun _ h => h
      clear fin
      by_cases y0 : y = 0
      · subst y0
        go_wp2
        go_loopw [7] (fun i wr => ∃ (k : Nat), k ≤ 16 ∧ i = .int .i64 k ∧ CovSt w g (p1 + 1) w.heap.size wr) (fun i _ => 16 - (intOf i).toNat)
        case atStart => exact ⟨0, Nat.zero_le _, rfl, S2⟩
        case round =>
          obtain ⟨j, hj, rfl, S⟩ := hrel
          clear S2
          by_cases hjt : j < 16
          · obtain ⟨b1, o1⟩ := S.cell hjt
            have o2 := S.frozen j
            have S3 := S.set (k := j) hg (Nat.le_refl _) true
            clear S
            go_wp2
            go_roundw
            case rel => exact ⟨j + 1, by omega, by go_num, S3⟩
            case measure => simp [intOf]; omega
          · go_wp2_with fail
            refine (c_pick g (p1 + 1) 30 _ S.rdr (by omega) (by omega) (by omega)).mono ?_
            rintro e w3 ⟨z, hz, rfl, hr3, ho3⟩
            have S3 := S.only hg hr3 ho3
            clear S ho3 hr3
            by_cases z0 : z = 0
            · subst z0
              obtain ⟨b1, o1⟩ := S3.cell (k := 1) (by omega)
              have o2 := S3.frozen 1
              have S4 := S3.set (k := 1) hg (Nat.le_refl _) (!b1)
              clear S3
              go_wp2
              go_ret
              exact S4.draws (Nat.le_refl _) (by omega) (by rw [HP.out]; omega) _ (by omega)
            · by_cases z1 : z = 1
              · subst z1
                go_wp2
                go_ret
                exact S3.draws (Nat.le_refl _) (by omega) (by rw [HP.out]; omega) _ (by omega)
              · have c0 : ((z : Int) == 0) = false := by simpa using (by omega : (z : Int) ≠ 0)
                have c1 : ((z : Int) == 1) = false := by simpa using (by omega : (z : Int) ≠ 1)
                go_wp2
                go_ret
                exact S3.draws (Nat.le_refl _) (by omega) (by rw [HP.out]; omega) _ (by omega)
      · have c0 : ((y : Int) == 0) = false := by simpa using (by omega : (y : Int) ≠ 0)
        go_wp2_with fail
        refine (c_pick g (p1 + 1) 30 _ S2.rdr (by omega) (by omega) (by omega)).mono ?_
        rintro e w3 ⟨z, hz, rfl, hr3, ho3⟩
        have S3 := S2.only hg hr3 ho3
        clear S2 ho3 hr3
        by_cases z0 : z = 0
        · subst z0
          obtain ⟨b1, o1⟩ := S3.cell (k := 1) (by omega)
          have o2 := S3.frozen 1
          have S4 := S3.set (k := 1) hg (Nat.le_refl _) (!b1)
          clear S3
          go_wp2
          go_ret
          exact S4.draws (Nat.le_refl _) (by omega) (by rw [HP.out]; omega) _ (by omega)
        · by_cases z1 : z = 1
          · subst z1
            go_wp2
            go_ret
            exact S3.draws (Nat.le_refl _) (by omega) (by rw [HP.out]; omega) _ (by omega)
          · have c0 : ((z : Int) == 0) = false := by simpa using (by omega : (z : Int) ≠ 0)
            have c1 : ((z : Int) == 1) = false := by simpa using (by omega : (z : Int) ≠ 1)
            go_wp2
            go_ret
            exact S3.draws (Nat.le_refl _) (by omega) (by rw [HP.out]; omega) _ (by omega)
theorem c_DrawWeightUniform (A : Option Addr) (n c : Nat) (f : Nat → Int) (w : World) (hn : n ≤ 1048576) (hnc : n ≤ c) (h : Code8 w w.heap.size A n f) :
    Calls Try.prog 14 #[.slice A n c] w (Drew DrawnB w) := by
  go_enter Try.func14, Try.ntmps14
  go_wp2_with fail
  refine (c_l6Open A n c f _ hn hnc h).mono ?_
  rintro e w1 ⟨g, hg, rfl, hr, hb⟩
  go_wp2_with fail
  refine (c_l92Cover g 0 _ hr (by omega)).mono ?_
  rintro e w2 ⟨v, p', rfl, hd, hr2, hp, hG⟩
  go_wp2
  go_ret
  obtain ⟨hd', hb'⟩ := drewB_of hg hb hd hG
  exact ⟨_, rfl, hd', hb'⟩
theorem c_DrawBeamOf (A : Option Addr) (n c : Nat) (f : Nat → Int) (w : World) (hn : n ≤ 1048576) (hnc : n ≤ c) (h : Code8 w w.heap.size A n f) :
    Calls Try.prog 8 #[.slice A n c] w (Drew DrawnB w) := by
  go_enter Try.func8, Try.ntmps8
  go_wp2_with fail
  refine (c_l6Open A n c f _ hn hnc h).mono ?_
  rintro e w1 ⟨g, hg, rfl, hr, hb⟩
  go_wp2_with fail
  refine (c_l92Cover g 0 _ hr (by omega)).mono ?_
  rintro e w2 ⟨v, p', rfl, hd, hr2, hp, hG⟩
  go_wp2
  go_ret
  obtain ⟨hd', hb'⟩ := drewB_of hg hb hd hG
  exact ⟨_, rfl, hd', hb'⟩
end Go.Proofs.Ytbnfnloaomjjbaa
