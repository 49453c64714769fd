/-
  The law on the sum of weights: it is at least the greatest weight, at most 16 times that, and opposite cells add up in pairs.
-/
import Derived.Test.YtiicfobjpklmkaaDrawW
import Derived.WalkLawsBesides
namespace Go.Proofs.Ytiicfobjpklmkaa
open Go.RowKit

def maxN (f : Nat → Int) : Nat → Int
  | 0 => 0
  | k + 1 => max (maxN f k) (f k)
def ownN (f : Nat → Int) : Nat → Int
  | 0 => 0
  | k + 1 => ownN f k + (if oppN k = k then f k else 0)
theorem max_if (a b : Int) : (if a < b then b else a) = max a b := by rw [Int.max_def]; split <;> split <;> omega
theorem maxN_bd {f : Nat → Int} (h : ∀ k, k < 16 → 0 ≤ f k ∧ f k ≤ 100) : ∀ k, k ≤ 16 → 0 ≤ maxN f k ∧ maxN f k ≤ 100 ∧ ∀ j, j < k → f j ≤ maxN f k := by
  intro k
  induction k with
  | zero => intro _; exact ⟨by simp [maxN], by simp [maxN], fun j hj => absurd hj (by omega)⟩
  | succ k ih =>
    intro hk
    obtain ⟨h1, h2, h3⟩ := ih (by omega)
    have h4 := h k (by omega)
    refine ⟨by simp only [maxN]; omega, by simp only [maxN]; omega, fun j hj => ?_⟩
    simp only [maxN]
    by_cases e : j = k
    · subst e; omega
    · have := h3 j (by omega); omega
theorem ownN_bd {f : Nat → Int} (h : ∀ k, k < 16 → 0 ≤ f k ∧ f k ≤ 100) : ∀ k, k ≤ 16 → 0 ≤ ownN f k ∧ ownN f k ≤ 100 * k := by
  intro k
  induction k with
  | zero => intro _; simp [ownN]
  | succ k ih =>
    intro hk
    have h1 := ih (by omega)
    have h4 := h k (by omega)
    simp only [ownN]
    split <;> omega
theorem oppN_val : ∀ k : Fin 16, oppN k.val = [0, 3, 2, 1, 12, 15, 14, 13, 8, 11, 10, 9, 4, 7, 6, 5].getD k.val 0 := by decide
theorem sum_max {f : Nat → Int} (h : ∀ k, k < 16 → 0 ≤ f k ∧ f k ≤ 100) : maxN f 16 ≤ sumN f 16 ∧ sumN f 16 ≤ maxN f 16 * 4 * 4 := by
  have key : ∀ k, k ≤ 16 → maxN f k ≤ sumN f k ∧ sumN f k ≤ k * maxN f k := by
    intro k
    induction k with
    | zero => intro _; simp [maxN, sumN]
    | succ k ih =>
      intro hk
      obtain ⟨h1, h2⟩ := ih (by omega)
      have h4 := h k (by omega)
      obtain ⟨h5, _, _⟩ := maxN_bd h k (by omega)
      simp only [maxN, sumN]
      refine ⟨by omega, ?_⟩
      have m1 : maxN f k ≤ max (maxN f k) (f k) := by omega
      have m2 : f k ≤ max (maxN f k) (f k) := by omega
      have m3 : (k : Int) * maxN f k ≤ (k : Int) * max (maxN f k) (f k) := Int.mul_le_mul_of_nonneg_left m1 (by omega)
      rw [Int.natCast_add, Int.add_mul]
      omega
  obtain ⟨h1, h2⟩ := key 16 (by omega)
  exact ⟨h1, by omega⟩
theorem sum_even {f : Nat → Int} (h : ∀ k, k < 16 → wok f k = true) : (sumN f 16 - ownN f 16) % 2 = 0 := by
  have e : ∀ (k : Nat) (hk : k < 16), f k = f ([0, 3, 2, 1, 12, 15, 14, 13, 8, 11, 10, 9, 4, 7, 6, 5].getD k 0) := fun k hk => by
    have := (wok_bd (h k hk)).2.2
    rwa [oppN_val ⟨k, hk⟩] at this
  have o : ∀ (k : Nat) (hk : k < 16), oppN k = [0, 3, 2, 1, 12, 15, 14, 13, 8, 11, 10, 9, 4, 7, 6, 5].getD k 0 := fun k hk => oppN_val ⟨k, hk⟩
  have e1 := e 1 (by omega); have e4 := e 4 (by omega); have e5 := e 5 (by omega); have e6 := e 6 (by omega); have e7 := e 7 (by omega); have e9 := e 9 (by omega)
  simp at e1 e4 e5 e6 e7 e9
  simp only [sumN, ownN, o 0 (by omega), o 1 (by omega), o 2 (by omega), o 3 (by omega), o 4 (by omega), o 5 (by omega), o 6 (by omega), o 7 (by omega), o 8 (by omega), o 9 (by omega), o 10 (by omega), o 11 (by omega), o 12 (by omega), o 13 (by omega), o 14 (by omega), o 15 (by omega)]
  simp
  omega

theorem own_le {f : Nat → Int} (h : ∀ k, k < 16 → 0 ≤ f k ∧ f k ≤ 100) : ∀ k, k ≤ 16 → ownN f k ≤ sumN f k := by
  intro k
  induction k with
  | zero => intro _; simp [ownN, sumN]
  | succ k ih =>
    intro hk
    have h1 := ih (by omega)
    have h4 := h k (by omega)
    simp only [ownN, sumN]
    split <;> omega

theorem c_lcellAt' (x y : Int) (r : Nat) (h : cellN x y = r) (w : World) : Calls Try.prog 22 #[.int .i64 x, .int .i64 y] w fun e w' => e = .returned (.int .i64 (r : Nat)) ∧ w = w' := by
  subst h; exact c_lcellAt x y w
set_option maxHeartbeats 2000000 in
theorem l_FnWeightSum (A : Option Addr) (n c : Nat) (f : Nat → Int) (w : World) (h0 : Rd w w.heap.size A n (fun k => .int .u8 (f k))) (hb : ∀ i, 0 ≤ f i ∧ f i ≤ 255) (hnc : n ≤ c) :
    Calls Try.prog 6 #[.slice A n c] w fun e w' => e = .returned (.bool true) ∧ Below w.heap.size w w' := by
  by_cases hn : n ≤ 1048576
  · have h : Code8 w w.heap.size A n f := ⟨h0, hb⟩
    clear h0 hb
    go_enter Try.func6, Try.ntmps6
    go_wp2_with fail
    refine (c_DrawWeightSum A n c f _ hn hnc h).mono ?_
    rintro e w1 ⟨v, rfl, ⟨b, off, m, cc, F, hbb, rfl, hm, hmc, hR, hF⟩, hB⟩
    clear h hF
    have hd : Rd w1 w1.heap.size (some ⟨b, off, none⟩) m (fun k => .int .i64 (F (off + k))) := fun _ => ⟨_, rfl, hR.lt, fun k hk => by
      rw [show (⟨b, off, none⟩ : Addr).add k = ⟨b, off + k, none⟩ from by unfold Addr.add; split <;> simp_all]
      exact hR.cell (by omega)⟩
    obtain ⟨G, hG⟩ : ∃ G : Nat → Int, G = fun k => F (off + k) := ⟨_, rfl⟩
    have hd' : Rd w1 w1.heap.size (some ⟨b, off, none⟩) m (fun k => .int .i64 (G k)) := by rw [hG]; exact hd
    clear hd hG hR hbb hmc
    go_wp2_with fail
    refine (c_WeightSum _ m cc G _ (by omega) hd').mono ?_
    rintro e w2 ⟨rfl, m2, rfl⟩
    go_wp2_with fail
    refine (c_sWeightSum _ m cc G _ (by omega) (hd'.drewN m2)).mono ?_
    rintro e w3 ⟨rfl, m3, rfl⟩
    by_cases hv : wvB m G = true
    · obtain ⟨hm16, hok⟩ := wvB_true hv
      subst hm16
      have hf : ∀ k, k < 16 → 0 ≤ G k ∧ G k ≤ 100 := fun k hk => ⟨(wok_bd (hok k hk)).1, (wok_bd (hok k hk)).2.1⟩
      have s1 := sum_max hf
      have s2 := sum_even hok
      have s3 := own_le hf 16 (by omega)
      have s4 := sumN_bd (f := G) (M := 100) (n := 16) hf 16 (by omega)
      have s5 := fun k hk => maxN_bd hf k hk
      have s6 := fun k hk => ownN_bd hf k hk
      have hs : wsum 16 G = sumN G 16 := by rw [wsum, if_pos hv]
      rw [hs]
      generalize sumN G 16 = S at s1 s2 s3 s4
      obtain ⟨s41, s42⟩ := s4
      have HF := Lib.hid hf
      have H1 := Lib.hid s1
      have H2 := Lib.hid s2
      have H3 := Lib.hid s3
      have H5 := Lib.hid s5
      have H6 := Lib.hid s6
      clear hok hs hv s1 s2 s3 s5 s6 hf
      have hee : (S == S) = true := by simp
      go_wp2
      go_loopw [6, 7, 8] (fun a b i wr => ∃ k q : Nat, k ≤ 16 ∧ a = .int .i64 (maxN G k) ∧ b = .int .i64 (ownN G k) ∧ i = .int .i64 k ∧ wr = w1.drewN q) (fun _ _ i _ => 16 - (intOf i).toNat)
      case atStart => exact ⟨0, _, Nat.zero_le _, rfl, rfl, rfl, rfl⟩
      case round =>
        obtain ⟨k, q, hk, rfl, rfl, rfl, rfl⟩ := hrel
        have b1 := (H5.out k hk).1
        have b2 := (H5.out k hk).2.1
        have b3 := (H6.out k hk).1
        have b4 := (H6.out k hk).2
        by_cases hlt : k < 16
        · obtain ⟨ad, ea, _, hc⟩ := hd'.at_ hlt
          injection ea with ea
          subst ea
          have h1 : w1.cell? ((⟨b, off, none⟩ : Addr).add k) = some (.int .i64 (G k)) := hc k hlt
          rw [show (⟨b, off, none⟩ : Addr).add k = ⟨b, off + k, none⟩ from by unfold Addr.add; split <;> simp_all] at h1
          have g1 := (HF.out k hlt).1
          have g2 := (HF.out k hlt).2
          clear hc hd'
          by_cases ho : oppN k = k
          · have hbo : (((oppN k : Nat) : Int) == (k : Int)) = true := by simpa using (by omega : ((oppN k : Nat) : Int) = (k : Int))
            have HO := Lib.hid ho
            clear ho
            go_wp2_with (go_at_call 22; refine (c_lcellAt' _ _ (oppN k) rfl _).mono ?_; rintro e w' ⟨rfl, rfl⟩)
            go_roundw
            case rel => exact ⟨k + 1, q, by omega, by rw [max_if]; rfl, by rw [ownN, if_pos HO.out], by go_num, rfl⟩
            case measure => simp [intOf]; omega
          · have hbo : (((oppN k : Nat) : Int) == (k : Int)) = false := by simpa using (by omega : ((oppN k : Nat) : Int) ≠ (k : Int))
            have HO := Lib.hid ho
            clear ho
            go_wp2_with (go_at_call 22; refine (c_lcellAt' _ _ (oppN k) rfl _).mono ?_; rintro e w' ⟨rfl, rfl⟩)
            go_roundw
            case rel => exact ⟨k + 1, q, by omega, by rw [max_if]; rfl, by rw [ownN, if_neg HO.out, Int.add_zero], by go_num, rfl⟩
            case measure => simp [intOf]; omega
        · obtain rfl : k = 16 := by omega
          have t1 := H1.out.1
          have t2 := H1.out.2
          have t3 := H3.out
          have t4 : ((S - ownN G 16) % 2 == 0) = true := by simpa using H2.out
          go_wp2
          go_ret
          exact ⟨rfl, below_drewN hB q⟩
    · have hs : wsum m G = -1 := by rw [wsum, if_neg hv]
      rw [hs]
      go_wp2
      go_ret
      exact ⟨rfl, by rw [← World.drewN_drewN]; exact below_drewN (below_drewN hB m2) m3⟩
  · go_enter Try.func6, Try.ntmps6
    go_wp2
    go_ret
    exact ⟨rfl, Below.refl _ _⟩
end Go.Proofs.Ytiicfobjpklmkaa
