/-
  The reference's beams.
-/
import Derived.Test.YtbnfnloaomjjbaaBeam
namespace Go.Proofs.Ytbnfnloaomjjbaa
open Go.RowKit

theorem phi_wrapped' (k l : Nat) (hk : k < 16) (hl : l < 16) :
    IntKind.i64.wrap (IntKind.i64.wrap ((k : Int).tmod 4 * (l : Int).tmod 4) + IntKind.i64.wrap (IntKind.i64.wrap ((k : Int) / 4) * IntKind.i64.wrap ((l : Int) / 4))) = ((phi k l : Nat) : Int) := by
  have h : ∀ a b : Fin 16, IntKind.i64.wrap (IntKind.i64.wrap (((a.val : Nat) : Int).tmod 4 * ((b.val : Nat) : Int).tmod 4) + IntKind.i64.wrap (IntKind.i64.wrap (((a.val : Nat) : Int) / 4) * IntKind.i64.wrap (((b.val : Nat) : Int) / 4))) = ((phi a.val b.val : Nat) : Int) := by decide +kernel
  exact h ⟨k, hk⟩ ⟨l, hl⟩
theorem field_re : ∀ (a b : Int) (w : World), (Instr.field 33 (.agg #[.int .i64 a, .int .i64 b]) 0).run Try.prog w = .ok (.int .i64 a) w := fun _ _ _ => by kernel_rfl
theorem c_sGaussUnit' (x : Int) (k : Nat) (hx : x = (k : Int)) (w : World) : Calls Try.prog 33 #[.int .i64 x] w (Gs (uRe k) (uIm k) w) := by subst hx; exact c_sGaussUnit k w

set_option maxHeartbeats 2000000 in
theorem c_sWeightBeam (A : Option Addr) (n c : Nat) (f : Nat → Int) (w : World) (hn : n ≤ 1048576) (h : Rd w w.heap.size A n (fun k => .int .i64 (f k))) :
    Calls Try.prog 26 #[.slice A n c] w (Rets 3 w (len16 (wvB n f)) (fun k => .int .i64 (beam f k)) (wvB n f)) := by
  have h' : ∀ o, Rd (w.alloc o) (w.alloc o).heap.size A n (fun k => .int .i64 (f k)) := fun o => h.step ((Below.refl _ _).alloc (Nat.le_refl _) _)
  by_cases hv : wvB n f = true
  · obtain ⟨hnn, hok⟩ := wvB_true hv
    subst hnn
    have hf : ∀ k, k < 16 → 0 ≤ f k ∧ f k ≤ 100 := fun k hk => ⟨(wok_bd (hok k hk)).1, (wok_bd (hok k hk)).2.1⟩
    have HF := Lib.hid hf
    clear hok hf
    rw [hv]
    go_enter Try.func26, Try.ntmps26
    go_wp2_with fail
    refine (c_sWeightValid _ 16 c f _ (by omega) (h' _)).mono ?_
    rintro e w1 ⟨rfl, m1, rfl⟩
    rw [hv]
    clear h'
    go_wp2
    go_loopw [4, 5] (fun v i wr => ∃ k : Nat, k ≤ 16 ∧ i = .int .i64 k ∧ Below w.heap.size w wr ∧ Own wr w.heap.size 3 v k (fun k => .int .i64 (beam f k))) (fun _ i _ => 16 - (intOf i).toNat)
    case atStart => exact ⟨0, Nat.zero_le _, rfl, below_drewN ((Below.refl _ _).alloc (Nat.le_refl _) _) m1, (Own.empty _ _ _ (Nat.le_refl _)).drewN m1⟩
    case round =>
      obtain ⟨k, hk, rfl, hb, hr⟩ := hrel
      by_cases hlt : k < 16
      · have z1 : (k : Int) < 16 := by omega
        go_wp2_with (go_at_call 32; refine (c_l21Cells _).mono ?_; rintro e w' ⟨rfl, rfl⟩)
        obtain ⟨wo, rfl⟩ : ∃ wo : World, wo = wr := ⟨_, rfl⟩
        go_loopw [6, 7] (fun s i wi => ∃ l : Nat, l ≤ 16 ∧ s = .int .i64 (sumN (tRe f k) l) ∧ i = .int .i64 l ∧ Below wo.heap.size wo wi) (fun _ i _ => 16 - (intOf i).toNat)
        case atStart => exact ⟨0, Nat.zero_le _, rfl, rfl, Below.refl _ _⟩
        case round =>
          obtain ⟨l, hl, rfl, rfl, hbi⟩ := hrel
          by_cases hll : l < 16
          · obtain ⟨ad, rfl, hab, hc⟩ := h.at_ hll
            have Bi : Below w.heap.size w wr := below_seq hb hbi
            have g1 : wr.cell? (ad.add l) = some (.int .i64 (f l)) := (Bi.cell (by rw [block_add]; exact hab)).trans (hc l hll)
            have hlb : (ad.add l).block < wr.heap.size := by rw [block_add]; have := Bi.size; omega
            have sb := sumN_abs (f := tRe f k) (M := 100) (n := 16) (fun j hj => tRe_bd (HF.out j hj)) l hl
            have tb := tRe_bd (k := k) (HF.out l hll)
            have z2 : (l : Int) < 16 := by omega
            have e1 : IntKind.i64.wrap (f l * uRe (phi k l)) = f l * uRe (phi k l) := IntWalk.i64_in _ (by unfold tRe at tb; omega)
            have e2 : IntKind.i64.wrap (sumN (tRe f k) l + f l * uRe (phi k l)) = sumN (tRe f k) l + f l * uRe (phi k l) := IntWalk.i64_in _ (by unfold tRe at tb; omega)
            have E1 := Lib.hid e1
            have E2 := Lib.hid e2
            clear hc h hb hr sb tb Bi e1 e2
            go_wp2_with (go_at_call 32; refine (c_l21Cells _).mono ?_; rintro e w' ⟨rfl, rfl⟩)
            have e1 := E1.out
            have e2 := E2.out
            have hfd := field_re
            go_region_held3 (fun w' => w'.cell? (ad.add l) = some (.int .i64 (f l))) (first | exact g1 | exact g2) (first | (go_at_call 33; refine (c_sGaussUnit' _ (phi k l) (phi_wrapped' k l hlt hll) _).mono ?_; rintro e w1 ⟨rfl, hb1⟩; have hB1 : Below wo.heap.size wo w1 := hbi.trans (⟨hb1.os, hb1.tape, hb1.output, hb1.size, fun i hi => hb1.block i (Nat.lt_of_lt_of_le hi hbi.size)⟩); have g2 : w1.cell? (ad.add l) = some (.int .i64 (f l)) := (hb1.cell hlb).trans g1; clear hb1))
            clear e1 e2 hfd
            go_wp2
            go_roundw
            case rel => exact ⟨l + 1, by omega, rfl, by go_num, hB1⟩
            case measure => simp [intOf]; omega
          · obtain rfl : l = 16 := by omega
            have Bi : Below w.heap.size w wr := below_seq hb hbi
            have hri := hr.step hbi
            have hsz := Bi.size
            clear h hb hr
            go_wp2_with (first | (go_at_call 32; refine (c_l21Cells _).mono ?_; rintro e w' ⟨rfl, rfl⟩) | (at_builtin; refine wpList_app1 wr (.int .i64 (sumN (tRe f k) 16)) rfl _ _ 25 rfl w.heap.size 3 (.int .i64 0) 8 Try.underlying25 info_int rfl (by omega) _ k _ (by rfl) (by exact hri) (by rfl) rfl rfl (by omega) hsz ?_; intro v' w1 hown' hb1 _))
            go_roundw
            case rel => exact ⟨k + 1, by omega, by go_num, Bi.trans hb1, hown'⟩
            case measure => simp [intOf]; omega
      · go_wp2_with (go_at_call 32; refine (c_l21Cells _).mono ?_; rintro e w' ⟨rfl, rfl⟩)
        obtain rfl : k = 16 := by omega
        obtain ⟨A1, c1, rfl, hm⟩ := hr.made
        go_ret2
        exact ⟨_, _, rfl, hb, hm⟩
  · have hv' : wvB n f = false := by simpa using hv
    clear hv
    rw [hv']
    go_enter Try.func26, Try.ntmps26
    go_wp2_with (go_at_call 42; refine (c_sWeightValid _ _ _ f _ (by omega) (h' _)).mono ?_; rintro e w' ⟨rfl, m0, rfl⟩)
    go_ret2
    exact ⟨_, _, rfl, below_drewN ((Below.refl _ _).alloc (Nat.le_refl _) _) _, Made.nil _ _ _ _ _⟩
end Go.Proofs.Ytbnfnloaomjjbaa
