/-
  The law on opposite cells' weights.
-/
import Derived.Test.YtiicfobjpklmkaaLawA3
import Derived.Test.YtiicfobjpklmkaaAppN
import Derived.Deep.DeepCutAuto
namespace Go.Proofs.Ytiicfobjpklmkaa
open Go.RowKit

theorem opp_opp : ∀ k : Fin 16, oppN (oppN k.val) = k.val := by decide
theorem bad_101 {G : Nat → Int} {k : Nat} (hk : k < 16) : wvB 16 (fun i => if i = k then 101 else G i) = false := by
  refine wvB_bad hk ?_
  simp [wok, inB]
theorem up_one {G : Nat → Int} {k : Nat} (hk : k < 16) (h : ∀ j, j < 16 → wok G j = true) (e : oppN k = k) : wvB 16 (fun i => if i = k then G k + 1 else G i) = decide (G k < 100) := by
  have hb := wok_bd (h k hk)
  by_cases hlt : G k < 100
  · rw [decide_eq_true hlt]
    refine wvB_good fun j hj => ?_
    by_cases hjk : j = k
    · subst hjk
      refine wok_yes ?_ ?_
      · simp only [if_true]; exact inB_mk (by omega) (by omega)
      · simp only [e]
    · have hbj := wok_bd (h j hj)
      have hne : oppN j ≠ k := fun h' => hjk (by have := opp_opp ⟨j, hj⟩; simp only at this; rw [← this, h', e])
      refine wok_yes ?_ ?_
      · simp only [if_neg hjk]; exact inB_mk hbj.1 hbj.2.1
      · simp only [if_neg hjk, if_neg hne]; exact hbj.2.2
  · rw [decide_eq_false hlt]
    refine wvB_bad hk (wok_no ?_)
    simp [inB]; omega
theorem up_two {G : Nat → Int} {k : Nat} (hk : k < 16) (h : ∀ j, j < 16 → wok G j = true) (e : oppN k ≠ k) : wvB 16 (fun i => if i = k then G k + 1 else G i) = false := by
  have hb := wok_bd (h k hk)
  refine wvB_bad hk (wok_ne ?_)
  simp only [if_true, if_neg e]
  omega

set_option maxHeartbeats 2000000 in
theorem l_FnWeights (A : Option Addr) (n c : Nat) (f : Nat → Int) (A' : Option Addr) (n' c' : Nat) (f' : Nat → Int) (w : World) (h0 : Rd w w.heap.size A n (fun k => .int .u8 (f k))) (hb : ∀ i, 0 ≤ f i ∧ f i ≤ 255) (hnc : n ≤ c)
    (_h0' : Rd w w.heap.size A' n' (fun k => .int .u8 (f' k))) (_hb' : ∀ i, 0 ≤ f' i ∧ f' i ≤ 255) (_hnc' : n' ≤ c') :
    Calls Try.prog 5 #[.slice A n c, .slice A' n' c'] w fun e w' => e = .returned (.bool true) ∧ Below w.heap.size w w' := by
  clear _h0' _hb' _hnc'
  by_cases hn : n ≤ 1048576
  · by_cases hn' : n' ≤ 1048576
    · have h : Code8 w w.heap.size A n f := ⟨h0, hb⟩
      clear h0 hb
      go_enter Try.func5, Try.ntmps5
      go_wp2_with fail
      refine (c_DrawWeightValid A n c f _ hn hnc h).mono ?_
      rintro e w1 ⟨v, rfl, ⟨b, off, m, cc, F, hbb, rfl, hm, hmc, hR, hF⟩, hB⟩
      clear h hF
      have hd : Rd w1 w1.heap.size (some ⟨b, off, none⟩) m (fun k => .int .i64 (F (off + k))) := fun _ => ⟨_, rfl, hR.lt, fun k hk => by
        rw [show (⟨b, off, none⟩ : Addr).add k = ⟨b, off + k, none⟩ from by unfold Addr.add; split <;> simp_all]
        exact hR.cell (by omega)⟩
      obtain ⟨G, hG⟩ : ∃ G : Nat → Int, G = fun k => F (off + k) := ⟨_, rfl⟩
      have hd' : Rd w1 w1.heap.size (some ⟨b, off, none⟩) m (fun k => .int .i64 (G k)) := by rw [hG]; exact hd
      clear hd hG hR hbb hmc
      go_wp2_with fail
      refine (c_WeightValid _ m cc G _ (by omega) hd').mono ?_
      rintro e w2 ⟨rfl, m2, rfl⟩
      go_wp2_with fail
      refine (c_sWeightValid _ m cc G _ (by omega) (hd'.drewN m2)).mono ?_
      rintro e w3 ⟨rfl, m3, rfl⟩
      have hB3 : Below w.heap.size w ((w1.drewN m2).drewN m3) := below_drewN (below_drewN hB m2) m3
      have hd3 : Rd ((w1.drewN m2).drewN m3) w1.heap.size (some ⟨b, off, none⟩) m (fun k => .int .i64 (G k)) := hd'
      obtain ⟨W, hW⟩ : ∃ W, W = (w1.drewN m2).drewN m3 := ⟨_, rfl⟩
      have hs : W.heap.size = w1.heap.size := by rw [hW]; rfl
      rw [← hW] at hB3 hd3 ⊢
      rw [← hs] at hd3
      clear hW hs hd' hB
      by_cases hv : wvB m G = true
      · obtain ⟨hm16, hok⟩ := wvB_true hv
        subst hm16
        rw [hv]
        obtain ⟨K, eK, hK⟩ : ∃ K : Nat, (n' : Int) % 16 = (K : Int) ∧ K < 16 := ⟨n' % 16, by omega, by omega⟩
        have iK : (K : Int) < 16 := by omega
        have y0 := wok_bd (hok K hK)
        have HY := Lib.hid y0
        have hx1 := bad_101 (G := G) hK
        have hok' := Lib.hid hok
        clear hok y0 hv
        go_upto_region 12 with (first | (go_at_call 22; refine (c_lcellAt' _ _ (oppN K) rfl _).mono ?_; rintro e w' ⟨rfl, rfl⟩) | (at_builtin; refine wpList_copy0 _ rfl (.tmp 48) (.tmp 49) 22 rfl W.heap.size 3 (.int .i64 0) 8 Try.underlying22 info_int rfl (by omega) _ (fun _ => .int .i64 0) (fun k => .int .i64 (G k)) (by rfl) (Own.empty W 3 _ (Nat.le_refl _)) ⟨b, off, none⟩ 16 cc W.heap.size (by rfl) (hd3.below ((Below.refl _ _).alloc (Nat.le_refl _) _)) (fun _ _ => rfl) (by omega) (by simp) ?_; intro v5 w5 hown5 hb5; obtain ⟨A5, c5, rfl, hm5⟩ := hown5.made; obtain ⟨gx, rfl, hgx, hrx⟩ := hm5 (by omega); have x1 := hrx.cell hK; have x2 := hrx.frozen K))
        obtain ⟨w6, hw6⟩ : ∃ w6, w6 = w5.setCell ⟨gx, K, none⟩ (.int .i64 101) := ⟨_, rfl⟩
        have B6 : Below W.heap.size W w6 := by rw [hw6]; exact (((Below.refl _ _).alloc (Nat.le_refl _) _).trans hb5).setCell (p := ⟨gx, K, none⟩) hgx _
        have R6 : Row w6 gx 3 16 (fun i => .int .i64 (if i = K then 101 else G i)) := by rw [hw6]; exact (hrx.set K _).congr (fun i _ => by by_cases e : i = K <;> simp [e])
        rw [← hw6]
        clear hw6 hrx x1 x2 hm5 hown5 hb5
        have hd6 := hd3.below B6
        have Bw6 := below_seq hB3 B6
        have s6 := B6.size
        clear hd3 hB3
        have yb1 := HY.out.1
        have yb2 := HY.out.2.1
        go_upto_region 14 with ((at_builtin; refine wpList_copy0 _ rfl (.tmp 54) (.tmp 55) 22 rfl w6.heap.size 3 (.int .i64 0) 8 Try.underlying22 info_int rfl (by omega) _ (fun _ => .int .i64 0) (fun k => .int .i64 (G k)) (by rfl) (Own.empty w6 3 _ (Nat.le_refl _)) ⟨b, off, none⟩ 16 cc W.heap.size (by rfl) (hd6.below ((Below.refl _ _).alloc s6 _)) (fun _ _ => rfl) (by omega) (by simp) ?_; intro v7 w7 hown7 hb7; obtain ⟨A7, c7, rfl, hm7⟩ := hown7.made; obtain ⟨gy, rfl, hgy, hry⟩ := hm7 (by omega); have z1 := hry.cell hK; have z2 := hry.frozen K))
        obtain ⟨w8, hw8⟩ : ∃ w8, w8 = w7.setCell ⟨gy, K, none⟩ (.int .i64 (G K + 1)) := ⟨_, rfl⟩
        have B8 : Below w6.heap.size w6 w8 := by rw [hw8]; exact (((Below.refl _ _).alloc (Nat.le_refl _) _).trans hb7).setCell (p := ⟨gy, K, none⟩) hgy _
        have R8 : Row w8 gy 3 16 (fun i => .int .i64 (if i = K then G K + 1 else G i)) := by rw [hw8]; exact (hry.set K _).congr (fun i _ => by by_cases e : i = K <;> simp [e])
        rw [← hw8]
        clear hw8 hry z1 z2 hm7 hown7 hb7
        have Rx := R6.step B8
        have Bw8 := below_seq Bw6 B8
        obtain ⟨ad, ea, _, hc⟩ := hd6.below (B8.mono s6) (by omega)
        injection ea with ea
        subst ea
        have k1 : w8.cell? ((⟨b, off, none⟩ : Addr).add K) = some (.int .i64 (G K)) := hc K hK
        have k2 : w8.cell? ((⟨b, off, none⟩ : Addr).add (oppN K)) = some (.int .i64 (G (oppN K))) := hc (oppN K) (oppN_lt K)
        rw [show (⟨b, off, none⟩ : Addr).add K = ⟨b, off + K, none⟩ from by unfold Addr.add; split <;> simp_all] at k1
        rw [show (⟨b, off, none⟩ : Addr).add (oppN K) = ⟨b, off + oppN K, none⟩ from by unfold Addr.add; split <;> simp_all] at k2
        rw [← HY.out.2.2] at k2
        have iO : ((oppN K : Nat) : Int) < 16 := by have := oppN_lt K; omega
        have ct1 : ∀ q, Calls Try.prog 17 #[.slice (some ⟨gx, 0, none⟩) 16 c5] (w8.drewN q) fun e w' => e = .returned (.bool false) ∧ ∃ m, w' = (w8.drewN q).drewN m := fun q => by
          rw [← hx1]; exact c_WeightValid _ 16 c5 _ _ (by omega) ((Rx.rd Rx.lt).drewN q)
        by_cases ho : oppN K = K
        · have hbo : ((K : Int) == ((oppN K : Nat) : Int)) = true := by simpa using (by omega : (K : Int) = ((oppN K : Nat) : Int))
          have ct2 : ∀ q, Calls Try.prog 17 #[.slice (some ⟨gy, 0, none⟩) 16 c7] (w8.drewN q) fun e w' => e = .returned (.bool (decide (G K < 100))) ∧ ∃ m, w' = (w8.drewN q).drewN m := fun q => by
            rw [← up_one hK hok'.out ho]; exact c_WeightValid _ 16 c7 _ _ (by omega) ((R8.rd R8.lt).drewN q)
          have C1 := Lib.hid ct1
          have hgg : (G K == G K) = true := by simp
          clear ct1 ho hx1 hc
          by_cases hl : G K < 100
          · rw [decide_eq_true hl] at ct2
            have C2 := Lib.hid ct2
            clear ct2
            go_quiet (first | (go_at_call_of 17 (Value.slice (some ⟨gx, 0, none⟩) 16 c5); exact Calls.quiet_of (C1.out _)) | (go_at_call_of 17 (Value.slice (some ⟨gy, 0, none⟩) 16 c7); exact Calls.quiet_of (C2.out _)))
            go_wp2
            go_ret
            exact ⟨rfl, below_drewN Bw8 _⟩
          · rw [decide_eq_false hl] at ct2
            have C2 := Lib.hid ct2
            have hl' : decide (G K < 100) = false := decide_eq_false hl
            clear ct2
            go_quiet (first | (go_at_call_of 17 (Value.slice (some ⟨gx, 0, none⟩) 16 c5); exact Calls.quiet_of (C1.out _)) | (go_at_call_of 17 (Value.slice (some ⟨gy, 0, none⟩) 16 c7); exact Calls.quiet_of (C2.out _)))
            go_wp2
            go_ret
            exact ⟨rfl, below_drewN Bw8 _⟩
        · have hbo : ((K : Int) == ((oppN K : Nat) : Int)) = false := by simpa using (by omega : (K : Int) ≠ ((oppN K : Nat) : Int))
          have ct2 : ∀ q, Calls Try.prog 17 #[.slice (some ⟨gy, 0, none⟩) 16 c7] (w8.drewN q) fun e w' => e = .returned (.bool false) ∧ ∃ m, w' = (w8.drewN q).drewN m := fun q => by
            rw [← up_two hK hok'.out ho]; exact c_WeightValid _ 16 c7 _ _ (by omega) ((R8.rd R8.lt).drewN q)
          have C1 := Lib.hid ct1
          have C2 := Lib.hid ct2
          clear ct1 ct2 ho hx1 hc
          have hgg : (G K == G K) = true := by simp
          go_quiet (first | (go_at_call_of 17 (Value.slice (some ⟨gx, 0, none⟩) 16 c5); exact Calls.quiet_of (C1.out _)) | (go_at_call_of 17 (Value.slice (some ⟨gy, 0, none⟩) 16 c7); exact Calls.quiet_of (C2.out _)))
          go_wp2
          go_ret
          exact ⟨rfl, below_drewN Bw8 _⟩
      · rw [show wvB m G = false from by simpa using hv]
        go_wp2
        go_ret
        exact ⟨rfl, hB3⟩
    · go_enter Try.func5, Try.ntmps5
      go_wp2
      go_ret
      exact ⟨rfl, Below.refl _ _⟩
  · go_enter Try.func5, Try.ntmps5
    go_wp2
    go_ret
    exact ⟨rfl, Below.refl _ _⟩
end Go.Proofs.Ytiicfobjpklmkaa
