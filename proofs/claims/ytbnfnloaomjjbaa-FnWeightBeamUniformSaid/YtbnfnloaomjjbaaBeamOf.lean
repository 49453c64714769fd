/-
  Beams of coverages; sums and transforms of skies.
-/
import Derived.Test.YtbnfnloaomjjbaaBeamS
namespace Go.Proofs.Ytbnfnloaomjjbaa
open Go.RowKit

theorem uni_valid {f : Nat → Bool} (h : cvB 16 f = true) : wvB 16 (uni f) = true := by
  obtain ⟨_, h2⟩ := cvB_true h
  refine wvB_good fun k hk => wok_yes ?_ ?_
  · unfold uni; split <;> exact inB_mk (by omega) (by omega)
  · unfold uni; rw [h2 k hk]
theorem uni_bd (f : Nat → Bool) (k : Nat) : 0 ≤ uni f k ∧ uni f k ≤ 100 := by unfold uni; split <;> omega
theorem tRe_set {f : Nat → Bool} {k l : Nat} (h : f l = true) : tRe (uni f) k l = uRe (phi k l) := by simp [tRe, uni, h]
theorem tRe_unset {f : Nat → Bool} {k l : Nat} (h : f l = false) : tRe (uni f) k l = 0 := by simp [tRe, uni, h]

set_option maxHeartbeats 1000000 in
theorem c_BeamOf (A : Option Addr) (n c : Nat) (f : Nat → Bool) (w : World) (hn : n ≤ 1048576) (h : Rd w w.heap.size A n (fun k => .bool (f k))) :
    Calls Try.prog 9 #[.slice A n c] w (Rets 3 w (len16 (cvB n f)) (fun k => .int .i64 (beam (uni f) k)) (cvB n f)) := by
  by_cases hv : cvB n f = true
  · obtain ⟨hnn, _⟩ := cvB_true hv
    subst hnn
    have hw := uni_valid hv
    rw [hv]
    go_enter Try.func9, Try.ntmps9
    go_wp2_with fail
    refine (c_WeightUniform _ 16 c f _ (by omega) h).mono ?_
    rintro e w1 ⟨A1, c1, rfl, hb1, hm1⟩
    rw [hv] at hm1 ⊢
    go_wp2_with fail
    refine (c_WeightBeam A1 16 c1 (uni f) _ (by omega) hm1.rd).mono ?_
    rintro e w2 ⟨A2, c2, rfl, hb2, hm2⟩
    rw [hw] at hm2 ⊢
    go_wp2
    go_ret2
    exact ⟨_, _, rfl, below_seq hb1 hb2, hm2.less hb1.size⟩
  · have hv' : cvB n f = false := by simpa using hv
    clear hv
    rw [hv']
    go_enter Try.func9, Try.ntmps9
    go_wp2_with fail
    refine (c_WeightUniform _ n c f _ (by omega) h).mono ?_
    rintro e w1 ⟨A1, c1, rfl, hb1, hm1⟩
    rw [hv'] at hm1 ⊢
    go_wp2
    go_ret2
    exact ⟨_, _, rfl, hb1, Made.nil _ _ _ _ _⟩
set_option maxHeartbeats 2000000 in
theorem c_sBeamOf (A : Option Addr) (n c : Nat) (f : Nat → Bool) (w : World) (hn : n ≤ 1048576) (h : Rd w w.heap.size A n (fun k => .bool (f k))) :
    Calls Try.prog 10 #[.slice A n c] w (Rets 3 w (len16 (cvB n f)) (fun k => .int .i64 (beam (uni f) k)) (cvB n f)) := by
  have h' : ∀ o, Rd (w.alloc o) (w.alloc o).heap.size A n (fun k => .bool (f k)) := fun o => h.step ((Below.refl _ _).alloc (Nat.le_refl _) _)
  by_cases hv : cvB n f = true
  · obtain ⟨hnn, _⟩ := cvB_true hv
    subst hnn
    rw [hv]
    go_enter Try.func10, Try.ntmps10
    go_wp2_with fail
    refine (c_sCoverValid _ 16 c f _ (by omega) (h' _)).mono ?_
    rintro e w1 ⟨rfl, m1, rfl⟩
    rw [hv]
    clear h'
    go_wp2
    go_loopw [4, 5] (fun v i wr => ∃ k : Nat, k ≤ 16 ∧ i = .int .i64 k ∧ Below w.heap.size w wr ∧ Own wr w.heap.size 3 v k (fun k => .int .i64 (beam (uni f) k))) (fun _ i _ => 16 - (intOf i).toNat)
    case atStart => exact ⟨0, Nat.zero_le _, rfl, below_drewN ((Below.refl _ _).alloc (Nat.le_refl _) _) m1, (Own.empty _ _ _ (Nat.le_refl _)).drewN m1⟩
    case round =>
      obtain ⟨k, hk, rfl, hb, hr⟩ := hrel
      by_cases hlt : k < 16
      · have z1 : (k : Int) < 16 := by omega
        go_wp2_with (go_at_call 32; refine (c_l21Cells _).mono ?_; rintro e w' ⟨rfl, rfl⟩)
        obtain ⟨wo, rfl⟩ : ∃ wo : World, wo = wr := ⟨_, rfl⟩
        go_loopw [6, 7] (fun s i wi => ∃ l : Nat, l ≤ 16 ∧ s = .int .i64 (sumN (tRe (uni f) k) l) ∧ i = .int .i64 l ∧ Below wo.heap.size wo wi) (fun _ i _ => 16 - (intOf i).toNat)
        case atStart => exact ⟨0, Nat.zero_le _, rfl, rfl, Below.refl _ _⟩
        case round =>
          obtain ⟨l, hl, rfl, rfl, hbi⟩ := hrel
          by_cases hll : l < 16
          · obtain ⟨ad, rfl, hab, hc⟩ := h.at_ hll
            have Bi : Below w.heap.size w wr := below_seq hb hbi
            have g1 : wr.cell? (ad.add l) = some (.bool (f l)) := (Bi.cell (by rw [block_add]; exact hab)).trans (hc l hll)
            have sb := sumN_abs (f := tRe (uni f) k) (M := 100) (n := 16) (fun j hj => tRe_bd (uni_bd f j)) l hl
            have ub := uRe_bd (phi k l)
            obtain ⟨sb1, sb2⟩ := sb
            obtain ⟨ub1, ub2⟩ := ub
            have z2 : (l : Int) < 16 := by omega
            have hfd := field_re
            clear hc h hb hr Bi
            by_cases hf : f l = true
            · rw [hf] at g1
              have HT := Lib.hid (tRe_set (k := k) hf)
              clear hf
              have hph : (((k : Int) % 4) * ((l : Int) % 4) + ((k : Int) / 4) * ((l : Int) / 4)) = ((phi k l : Nat) : Int) := by unfold phi; simp
              have HP := Lib.hid hph
              clear hph
              have m1 : 0 ≤ ((k : Int) % 4) * ((l : Int) % 4) ∧ ((k : Int) % 4) * ((l : Int) % 4) ≤ 9 := ⟨Int.mul_nonneg (by omega) (by omega), Int.le_trans (Int.mul_le_mul (by omega : (k : Int) % 4 ≤ 3) (by omega : (l : Int) % 4 ≤ 3) (by omega) (by omega)) (by omega)⟩
              have m2 : 0 ≤ ((k : Int) / 4) * ((l : Int) / 4) ∧ ((k : Int) / 4) * ((l : Int) / 4) ≤ 9 := ⟨Int.mul_nonneg (by omega) (by omega), Int.le_trans (Int.mul_le_mul (by omega : (k : Int) / 4 ≤ 3) (by omega : (l : Int) / 4 ≤ 3) (by omega) (by omega)) (by omega)⟩
              obtain ⟨m11, m12⟩ := m1
              obtain ⟨m21, m22⟩ := m2
              go_wp2_with (first | (go_at_call 32; refine (c_l21Cells _).mono ?_; rintro e w' ⟨rfl, rfl⟩) | (go_at_call 33; refine (c_sGaussUnit' _ (phi k l) HP.out _).mono ?_; rintro e w1 ⟨rfl, hb1⟩))
              go_roundw
              case rel => exact ⟨l + 1, by omega, by rw [sumN, HT.out], by go_num, below_seq hbi hb1⟩
              case measure => simp [intOf]; omega
            · rw [show f l = false from by simpa using hf] at g1
              have HT := Lib.hid (tRe_unset (k := k) (show f l = false from by simpa using hf))
              clear hf
              go_wp2_with (go_at_call 32; refine (c_l21Cells _).mono ?_; rintro e w' ⟨rfl, rfl⟩)
              go_roundw
              case rel => exact ⟨l + 1, by omega, by rw [sumN, HT.out, Int.add_zero], by go_num, hbi⟩
              case measure => simp [intOf]; omega
          · obtain rfl : l = 16 := by omega
            have Bi : Below w.heap.size w wr := below_seq hb hbi
            have hri := hr.step hbi
            have hsz := Bi.size
            clear h hb hr
            go_wp2_with (first | (go_at_call 32; refine (c_l21Cells _).mono ?_; rintro e w' ⟨rfl, rfl⟩) | (at_builtin; refine wpList_app1 wr (.int .i64 (sumN (tRe (uni f) k) 16)) rfl _ _ 25 rfl w.heap.size 3 (.int .i64 0) 8 Try.underlying25 info_int rfl (by omega) _ k _ (by rfl) (by exact hri) (by rfl) rfl rfl (by omega) hsz ?_; intro v' w1 hown' hb1 _))
            go_roundw
            case rel => exact ⟨k + 1, by omega, by go_num, Bi.trans hb1, hown'⟩
            case measure => simp [intOf]; omega
      · go_wp2_with (go_at_call 32; refine (c_l21Cells _).mono ?_; rintro e w' ⟨rfl, rfl⟩)
        obtain rfl : k = 16 := by omega
        obtain ⟨A1, c1, rfl, hm⟩ := hr.made
        go_ret2
        exact ⟨_, _, rfl, hb, hm⟩
  · have hv' : cvB n f = false := by simpa using hv
    clear hv
    rw [hv']
    go_enter Try.func10, Try.ntmps10
    go_wp2_with (go_at_call 31; refine (c_sCoverValid _ _ _ f _ (by omega) (h' _)).mono ?_; rintro e w' ⟨rfl, m0, rfl⟩)
    go_ret2
    exact ⟨_, _, rfl, below_drewN ((Below.refl _ _).alloc (Nat.le_refl _) _) _, Made.nil _ _ _ _ _⟩
end Go.Proofs.Ytbnfnloaomjjbaa
