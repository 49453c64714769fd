/-
  The transform of a list of sixteen Gaussian integers.
-/
import Derived.Test.YtbnfnloaomjjbaaGrid
import Derived.Deep.RegionHeld3
import Derived.Deep.RegionWith
namespace Go.Proofs.Ytbnfnloaomjjbaa
open Go.RowKit

theorem bcell {W w1 : World} (hb : Below W.heap.size W w1) : (∀ b o, b < W.heap.size → w1.cell? ⟨b, o, none⟩ = W.cell? ⟨b, o, none⟩) ∧ (∀ b o, b < W.heap.size → w1.frozen? ⟨b, o, none⟩ = W.frozen? ⟨b, o, none⟩) :=
  ⟨fun b o h => hb.cell (p := ⟨b, o, none⟩) h, fun b o h => hb.frozen (p := ⟨b, o, none⟩) h⟩

def pRe (F G : Nat → Int) (k l : Nat) : Int := F l * uRe (phi k l) - G l * uIm (phi k l)
def pIm (F G : Nat → Int) (k l : Nat) : Int := F l * uIm (phi k l) + G l * uRe (phi k l)
def trRe (F G : Nat → Int) (k : Nat) : Int := sumN (pRe F G k) 16
def trIm (F G : Nat → Int) (k : Nat) : Int := sumN (pIm F G k) 16

theorem mk_gauss16 : ∀ w : World, (Instr.makeSlice 29 (.int .i64 16) (.int .i64 16)).run Try.prog w = .ok (.slice (some ⟨w.heap.size, 0, none⟩) 16 16) (w.alloc (.cells (madeCells #[.int .i64 0, .int .i64 0] 32) 33)) := fun w => by
  obtain ⟨i, hi, hz0, hz1, hz2⟩ := info_parts info_gauss
  have h := run_make (P := Try.prog) w 29 33 i (.agg #[.int .i64 0, .int .i64 0]) Try.underlying29 hi hz0 .i64 .i64 16 16 (by omega) (by omega) (by rw [hz2]; omega) (by omega)
  rw [hz1] at h
  exact h

/-- What has been summed up when k cells are done and l terms of the next. -/
def stRe (F G : Nat → Int) (k l j : Nat) : Int := if j < k then trRe F G j else if j = k then sumN (pRe F G k) l else 0
def stIm (F G : Nat → Int) (k l j : Nat) : Int := if j < k then trIm F G j else if j = k then sumN (pIm F G k) l else 0

theorem row_set2 {w : World} {g n k : Nat} {t : TypeId} {F G F' G' : Nat → Int} (h : Row w g t (n * 2) (flat F G)) (h1 : ∀ j, j < n → F' j = if j = k then F' k else F j) (h2 : ∀ j, j < n → G' j = if j = k then G' k else G j) :
    Row ((w.setCell ⟨g, k * 2, none⟩ (.int .i64 (F' k))).setCell ⟨g, k * 2 + 1, none⟩ (.int .i64 (G' k))) g t (n * 2) (flat F' G') := by
  refine ((h.set _ _).set _ _).congr fun j hj => ?_
  by_cases e1 : j = k * 2 + 1
  · subst e1; rw [flat_odd F' G']; simp
  · rw [if_neg e1]
    by_cases e2 : j = k * 2
    · subst e2; rw [flat_even F' G']; simp
    · rw [if_neg e2]
      unfold flat
      split
      · rw [h1 _ (by omega), if_neg (by omega)]
      · rw [h2 _ (by omega), if_neg (by omega)]

theorem phi_wrapped (k l : Nat) (hk : k < 16) (hl : l < 16) :
    IntKind.i64.wrap (IntKind.i64.wrap (IntKind.i64.wrap ((k : Int).tmod 4 * (l : Int).tmod 4) + IntKind.i64.wrap (IntKind.i64.wrap ((k : Int) / 4) * IntKind.i64.wrap ((l : Int) / 4)))) = ((phi k l : Nat) : Int) := by
  have h : ∀ a b : Fin 16, IntKind.i64.wrap (IntKind.i64.wrap (IntKind.i64.wrap (((a.val : Nat) : Int).tmod 4 * ((b.val : Nat) : Int).tmod 4) + IntKind.i64.wrap (IntKind.i64.wrap (((a.val : Nat) : Int) / 4) * IntKind.i64.wrap (((b.val : Nat) : Int) / 4)))) = ((phi a.val b.val : Nat) : Int) := by decide +kernel
  exact h ⟨k, hk⟩ ⟨l, hl⟩
theorem pRe_bd {F G : Nat → Int} {l : Nat} (hF : -100000 ≤ F l ∧ F l ≤ 100000) (hG : -100000 ≤ G l ∧ G l ≤ 100000) (k : Nat) : (-200000 ≤ pRe F G k l ∧ pRe F G k l ≤ 200000) ∧ (-200000 ≤ pIm F G k l ∧ pIm F G k l ≤ 200000) := by
  have m : ∀ x y : Int, -100000 ≤ x ∧ x ≤ 100000 → -1 ≤ y ∧ y ≤ 1 → -100000 ≤ x * y ∧ x * y ≤ 100000 := by
    intro x y hx hy
    have : y = -1 ∨ y = 0 ∨ y = 1 := by omega
    rcases this with rfl | rfl | rfl <;> omega
  have m1 := m _ _ hF (uRe_bd (phi k l))
  have m2 := m _ _ hG (uIm_bd (phi k l))
  have m3 := m _ _ hF (uIm_bd (phi k l))
  have m4 := m _ _ hG (uRe_bd (phi k l))
  unfold pRe pIm
  omega
theorem c_GaussUnit' (x : Int) (k : Nat) (hx : x = (k : Int)) (hk : k ≤ 1000) (w : World) : Calls Try.prog 51 #[.int .i64 x] w (Gs (uRe k) (uIm k) w) := by subst hx; exact c_GaussUnit k hk w

theorem st_set {w : World} {g k l : Nat} {t : TypeId} {F G : Nat → Int} (_hk : k < 16) (h : Row w g t (16 * 2) (flat (stRe F G k l) (stIm F G k l))) :
    Row ((w.setCell ⟨g, k * 2, none⟩ (.int .i64 (sumN (pRe F G k) l + (F l * uRe (phi k l) - G l * uIm (phi k l))))).setCell ⟨g, k * 2 + 1, none⟩ (.int .i64 (sumN (pIm F G k) l + (F l * uIm (phi k l) + G l * uRe (phi k l))))) g t (16 * 2) (flat (stRe F G k (l + 1)) (stIm F G k (l + 1))) := by
  have e1 : stRe F G k (l + 1) k = sumN (pRe F G k) l + (F l * uRe (phi k l) - G l * uIm (phi k l)) := by rw [stRe, if_neg (by omega), if_pos rfl]; rfl
  have e2 : stIm F G k (l + 1) k = sumN (pIm F G k) l + (F l * uIm (phi k l) + G l * uRe (phi k l)) := by rw [stIm, if_neg (by omega), if_pos rfl]; rfl
  rw [← e1, ← e2]
  refine row_set2 h (fun j _ => ?_) (fun j _ => ?_)
  · by_cases e : j = k
    · rw [if_pos e, e]
    · rw [if_neg e]; simp [stRe, e]
  · by_cases e : j = k
    · rw [if_pos e, e]
    · rw [if_neg e]; simp [stIm, e]
theorem st_next {w : World} {g k l : Nat} {t : TypeId} {F G : Nat → Int} (h : Row w g t (16 * 2) (flat (stRe F G k l) (stIm F G k l))) (hl : l = 16) : Row w g t (16 * 2) (flat (stRe F G (k + 1) 0) (stIm F G (k + 1) 0)) := by
  subst hl
  refine h.congr (flat_congr (fun j _ => ?_) (fun j _ => ?_))
  · unfold stRe
    by_cases h1 : j < k
    · rw [if_pos h1, if_pos (by omega)]
    · rw [if_neg h1]
      by_cases h2 : j = k
      · subst h2; rw [if_pos rfl, if_pos (by omega)]; rfl
      · rw [if_neg h2, if_neg (by omega)]; split <;> rfl
  · unfold stIm
    by_cases h1 : j < k
    · rw [if_pos h1, if_pos (by omega)]
    · rw [if_neg h1]
      by_cases h2 : j = k
      · subst h2; rw [if_pos rfl, if_pos (by omega)]; rfl
      · rw [if_neg h2, if_neg (by omega)]; split <;> rfl
theorem st_end {w : World} {g k : Nat} {t : TypeId} {F G : Nat → Int} (h : Row w g t (16 * 2) (flat (stRe F G k 0) (stIm F G k 0))) (hk : k = 16) : Row w g t (16 * 2) (flat (trRe F G) (trIm F G)) := by
  subst hk
  exact h.congr (flat_congr (fun j hj => by rw [stRe, if_pos hj]) (fun j hj => by rw [stIm, if_pos hj]))

set_option maxHeartbeats 3200000 in
theorem c_transform (g c : Nat) (F G : Nat → Int) (w : World) (hF : ∀ k, k < 16 → -100000 ≤ F k ∧ F k ≤ 100000) (hG : ∀ k, k < 16 → -100000 ≤ G k ∧ G k ≤ 100000) (h : Row w g 33 (16 * 2) (flat F G)) :
    Calls Try.prog 35 #[.slice (some ⟨g, 0, none⟩) 16 c, .int .i64 1] w fun e w' => e = .returned (.slice (some ⟨w.heap.size, 0, none⟩) 16 16) ∧ Below w.heap.size w w' ∧ Row w' w.heap.size 33 (16 * 2) (flat (trRe F G) (trIm F G)) := by
  have hg := h.lt
  have hmk := mk_gauss16
  have HF := Lib.hid hF
  have HG := Lib.hid hG
  clear hF hG
  go_enter Try.func35, Try.ntmps35
  go_wp2
  clear hmk
  go_loopw [12] (fun i wr => ∃ k : Nat, k ≤ 16 ∧ i = .int .i64 k ∧ Below w.heap.size w wr ∧ Row wr w.heap.size 33 (16 * 2) (flat (stRe F G k 0) (stIm F G k 0))) (fun i _ => 16 - (intOf i).toNat)
  case atStart =>
    refine ⟨0, Nat.zero_le _, rfl, (Below.refl _ _).alloc (Nat.le_refl _) _, ?_⟩
    refine ⟨_, heap_alloc_new w _, fun i hi => ?_⟩
    have e : flat (stRe F G 0 0) (stIm F G 0 0) i = .int .i64 0 := by
      unfold flat stRe stIm
      simp only [sumN]
      split <;> simp
    rw [e]
    have hi' : i < 32 := hi
    have hm : i % 2 = 0 ∨ i % 2 = 1 := by omega
    rcases hm with hm | hm <;> simp [madeCells, hi', hm]
  case round =>
    obtain ⟨k, hk, rfl, hb, hr⟩ := hrel
    by_cases hlt : k < 16
    · have z1 : (k : Int) < 16 := by omega
      go_wp2
      obtain ⟨wo, rfl⟩ : ∃ wo : World, wo = wr := ⟨_, rfl⟩
      go_loopw [17] (fun i wi => ∃ l : Nat, l ≤ 16 ∧ i = .int .i64 l ∧ Below w.heap.size w wi ∧ Row wi w.heap.size 33 (16 * 2) (flat (stRe F G k l) (stIm F G k l))) (fun i _ => 16 - (intOf i).toNat)
      case atStart => exact ⟨0, Nat.zero_le _, rfl, hb, hr⟩
      case round =>
        obtain ⟨l, hl, rfl, hbi, hri⟩ := hrel
        clear hb hr
        by_cases hll : l < 16
        · have hR := h.below hbi hg
          have hsz := hbi.size
          have z2 : (l : Int) < 16 := by omega
          have h1 : wr.cell? ⟨g, l * 2, none⟩ = some (.int .i64 (F l)) := by rw [hR.cell (by omega), flat_even]
          have h2 : wr.cell? ⟨g, l * 2 + 1, none⟩ = some (.int .i64 (G l)) := by rw [hR.cell (by omega), flat_odd]
          clear hR
          go_wp2
          obtain ⟨W, hW⟩ : ∃ W, W = wr.alloc (.cells #[.int .i64 (F l), .int .i64 (G l)] 33) := ⟨_, rfl⟩
          have BW : Below w.heap.size w W := by rw [hW]; exact hbi.alloc hsz _
          have RW : Row W w.heap.size 33 (16 * 2) (flat (stRe F G k l) (stIm F G k l)) := by rw [hW]; exact hri.alloc _
          have b1 : W.cell? ⟨wr.heap.size, 0, none⟩ = some (.int .i64 (F l)) := by rw [hW]; simp
          have b2 : W.cell? ⟨wr.heap.size, 1, none⟩ = some (.int .i64 (G l)) := by rw [hW]; simp
          have sW : wr.heap.size < W.heap.size := by rw [hW]; simp
          rw [← hW]
          clear hW h1 h2 hbi hri
          have a1 : W.cell? ⟨w.heap.size, k * 2, none⟩ = some (.int .i64 (sumN (pRe F G k) l)) := by rw [RW.cell (by omega), flat_even, stRe, if_neg (by omega), if_pos rfl]
          have a2 : W.cell? ⟨w.heap.size, k * 2 + 1, none⟩ = some (.int .i64 (sumN (pIm F G k) l)) := by rw [RW.cell (by omega), flat_odd, stIm, if_neg (by omega), if_pos rfl]
          have f0 : -1000000 ≤ F l ∧ F l ≤ 1000000 := by have := HF.out l hll; omega
          have g0 : -1000000 ≤ G l ∧ G l ≤ 1000000 := by have := HG.out l hll; omega
          have p0 := pRe_bd (HF.out l hll) (HG.out l hll) k
          have p1 : -1000000000 ≤ F l * uRe (phi k l) - G l * uIm (phi k l) ∧ F l * uRe (phi k l) - G l * uIm (phi k l) ≤ 1000000000 := by unfold pRe at p0; omega
          have p2 : -1000000000 ≤ F l * uIm (phi k l) + G l * uRe (phi k l) ∧ F l * uIm (phi k l) + G l * uRe (phi k l) ≤ 1000000000 := by unfold pIm at p0; omega
          have s1 : -1000000000 ≤ sumN (pRe F G k) l ∧ sumN (pRe F G k) l ≤ 1000000000 := by
            have := sumN_abs (f := pRe F G k) (M := 200000) (n := 16) (fun j hj => (pRe_bd (HF.out j hj) (HG.out j hj) k).1) l hl
            omega
          have s2 : -1000000000 ≤ sumN (pIm F G k) l ∧ sumN (pIm F G k) l ≤ 1000000000 := by
            have := sumN_abs (f := pIm F G k) (M := 200000) (n := 16) (fun j hj => (pRe_bd (HF.out j hj) (HG.out j hj) k).2) l hl
            omega
          clear p0
          have RR := Lib.hid (fun w3 => st_set (w := w3) (g := w.heap.size) (t := 33) (F := F) (G := G) (k := k) (l := l) hlt)
          have q1 : w.heap.size < W.heap.size := RW.lt
          go_region_with (first
              | (go_at_call 51; refine (c_GaussUnit' _ (phi k l) (phi_wrapped k l hlt hll) (Nat.le_trans (phi_le hlt hll) (by omega)) _).mono ?_; rintro e w1 ⟨rfl, hb1⟩; have hB1 : Below W.heap.size W w1 := ⟨hb1.os, hb1.tape, hb1.output, hb1.size, hb1.block⟩; clear hb1; have a1_w1 : w1.cell? ⟨w.heap.size, k * 2, none⟩ = some (.int .i64 (sumN (pRe F G k) l)) := (hB1.cell (p := ⟨w.heap.size, k * 2, none⟩) q1).trans a1; have a2_w1 : w1.cell? ⟨w.heap.size, k * 2 + 1, none⟩ = some (.int .i64 (sumN (pIm F G k) l)) := (hB1.cell (p := ⟨w.heap.size, k * 2 + 1, none⟩) q1).trans a2; have b1_w1 : w1.cell? ⟨wr.heap.size, 0, none⟩ = some (.int .i64 (F l)) := (hB1.cell (p := ⟨wr.heap.size, 0, none⟩) sW).trans b1; have b2_w1 : w1.cell? ⟨wr.heap.size, 1, none⟩ = some (.int .i64 (G l)) := (hB1.cell (p := ⟨wr.heap.size, 1, none⟩) sW).trans b2)
              | (go_at_call 50; refine (c_times (F l) (G l) (uRe (phi k l)) (uIm (phi k l)) f0 g0 (uRe_bd _) (uIm_bd _) _).mono ?_; rintro e w2 ⟨rfl, hb2⟩; have hB2 : Below W.heap.size W w2 := hB1.trans (hb2.mono hB1.size); clear hb2; have a1_w2 : w2.cell? ⟨w.heap.size, k * 2, none⟩ = some (.int .i64 (sumN (pRe F G k) l)) := (hB2.cell (p := ⟨w.heap.size, k * 2, none⟩) q1).trans a1; have a2_w2 : w2.cell? ⟨w.heap.size, k * 2 + 1, none⟩ = some (.int .i64 (sumN (pIm F G k) l)) := (hB2.cell (p := ⟨w.heap.size, k * 2 + 1, none⟩) q1).trans a2; have b1_w2 : w2.cell? ⟨wr.heap.size, 0, none⟩ = some (.int .i64 (F l)) := (hB2.cell (p := ⟨wr.heap.size, 0, none⟩) sW).trans b1; have b2_w2 : w2.cell? ⟨wr.heap.size, 1, none⟩ = some (.int .i64 (G l)) := (hB2.cell (p := ⟨wr.heap.size, 1, none⟩) sW).trans b2)
              | (go_at_call 49; refine (c_plus (sumN (pRe F G k) l) (sumN (pIm F G k) l) (F l * uRe (phi k l) - G l * uIm (phi k l)) (F l * uIm (phi k l) + G l * uRe (phi k l)) s1 s2 p1 p2 _).mono ?_; rintro e w3 ⟨rfl, hb3⟩; have hB3 : Below W.heap.size W w3 := hB2.trans (hb3.mono hB2.size); have hf1 : w3.frozen? ⟨w.heap.size, k * 2, none⟩ = false := (hB3.frozen (p := ⟨w.heap.size, k * 2, none⟩) q1).trans (RW.frozen _); have hf2 : w3.frozen? ⟨w.heap.size, k * 2 + 1, none⟩ = false := (hB3.frozen (p := ⟨w.heap.size, k * 2 + 1, none⟩) q1).trans (RW.frozen _); clear hb3; have a1_w3 : w3.cell? ⟨w.heap.size, k * 2, none⟩ = some (.int .i64 (sumN (pRe F G k) l)) := (hB3.cell (p := ⟨w.heap.size, k * 2, none⟩) q1).trans a1; have a2_w3 : w3.cell? ⟨w.heap.size, k * 2 + 1, none⟩ = some (.int .i64 (sumN (pIm F G k) l)) := (hB3.cell (p := ⟨w.heap.size, k * 2 + 1, none⟩) q1).trans a2; have b1_w3 : w3.cell? ⟨wr.heap.size, 0, none⟩ = some (.int .i64 (F l)) := (hB3.cell (p := ⟨wr.heap.size, 0, none⟩) sW).trans b1; have b2_w3 : w3.cell? ⟨wr.heap.size, 1, none⟩ = some (.int .i64 (G l)) := (hB3.cell (p := ⟨wr.heap.size, 1, none⟩) sW).trans b2))
          all_goals
            go_wp2
            go_roundw
            case rel => exact ⟨l + 1, by omega, by go_num, ((BW.trans (hB3.mono (Nat.le_of_lt q1))).setCell (p := ⟨w.heap.size, k * 2, none⟩) (Nat.le_refl _) _).setCell (p := ⟨w.heap.size, k * 2 + 1, none⟩) (Nat.le_refl _) _, RR.out w3 (RW.below hB3 q1)⟩
            case measure => simp [intOf]; omega
        · go_wp2
          go_roundw
          case rel => exact ⟨k + 1, by omega, by go_num, hbi, st_next hri (by omega)⟩
          case measure => simp [intOf]; omega
    · go_wp2
      go_ret
      exact ⟨rfl, hb, st_end hr (by omega)⟩
end Go.Proofs.Ytbnfnloaomjjbaa
