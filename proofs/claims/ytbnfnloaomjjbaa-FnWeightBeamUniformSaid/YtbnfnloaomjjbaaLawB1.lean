/-
  The law on beams of turned coverages.
-/
import Derived.Test.YtbnfnloaomjjbaaLawA6
import Derived.Test.YtbnfnloaomjjbaaHelpB
namespace Go.Proofs.Ytbnfnloaomjjbaa
open Go.RowKit Go.Deep

theorem tornB_opp : ∀ c : Fin 16, tornN (oppN c.val) = oppN (tornN c.val) := by decide
theorem cv_torn {G : Nat → Bool} (h : cvB 16 G = true) : cvB 16 (fun c => G (tornN c)) = true := by
  obtain ⟨-, hok⟩ := cvB_true h
  refine cvB_good fun c hc => ?_
  have e := tornB_opp ⟨c, hc⟩
  have o := hok (tornN c) (tornN_lt c)
  simp only at e
  simp only [cok, e, beq_iff_eq] at o ⊢
  exact o
theorem sum_torn (h : Nat → Int) : sumN (fun c => h (tornN c)) 16 = sumN h 16 := by
  have v : ∀ c : Fin 16, tornN c.val = [0, 12, 8, 4, 1, 13, 9, 5, 2, 14, 10, 6, 3, 15, 11, 7].getD c.val 0 := by decide
  have e : ∀ (c : Nat) (_ : c < 16), h (tornN c) = h ([0, 12, 8, 4, 1, 13, 9, 5, 2, 14, 10, 6, 3, 15, 11, 7].getD c 0) := fun c hc => by
    have t := v ⟨c, hc⟩
    simp only at t
    rw [t]
  simp only [sumN, e 0 (by omega), e 1 (by omega), e 2 (by omega), e 3 (by omega), e 4 (by omega), e 5 (by omega), e 6 (by omega), e 7 (by omega), e 8 (by omega), e 9 (by omega), e 10 (by omega), e 11 (by omega), e 12 (by omega), e 13 (by omega), e 14 (by omega), e 15 (by omega)]
  simp
  omega
theorem phi_rot : ∀ k l : Fin 16, uRe (phi (rotN k.val) (rotN l.val)) = uRe (phi k.val l.val) := by decide +kernel
theorem beam_torn (f : Nat → Int) {k : Nat} (hk : k < 16) : beam (fun c => f (tornN c)) (rotN k) = beam f k := by
  unfold beam
  have e : ∀ l, l < 16 → tRe (fun c => f (tornN c)) (rotN k) l = (fun j => f j * uRe (phi (rotN k) (rotN j))) (tornN l) := fun l hl => by
    have r := rot_torn ⟨l, hl⟩
    simp only at r
    simp only [tRe, r]
  rw [sumN_congr e, sum_torn (fun j => f j * uRe (phi (rotN k) (rotN j)))]
  refine sumN_congr fun j hj => ?_
  have p := phi_rot ⟨k, hk⟩ ⟨j, hj⟩
  simp only at p
  rw [tRe, p]
theorem c_lcellB (x y : Int) (r : Nat) (h : cellN x y = r) (w : World) : Calls Try.prog 27 #[.int .i64 x, .int .i64 y] w fun e w' => e = .returned (.int .i64 (r : Nat)) ∧ w = w' := by
  subst h; exact c_lcellAt x y w
set_option maxHeartbeats 2000000 in
theorem l_FnBeamTurn (A : Option Addr) (n c : Nat) (f : Nat → Int) (w : World) (h0 : Rd w w.heap.size A n (fun k => .int .u8 (f k))) (hb : ∀ i, 0 ≤ f i ∧ f i ≤ 255) (hnc : n ≤ c) :
    Calls Try.prog 7 #[.slice A n c] w fun e w' => e = .returned (.bool true) ∧ Below w.heap.size w w' := by
  by_cases hn : n ≤ 1048576
  · go_enter Try.func7, Try.ntmps7
    go_wp2_with fail
    refine (c_DrawBeamOf A n c f _ hn hnc ⟨h0, hb⟩).mono ?_
    rintro e w1 ⟨v, rfl, hd, hB⟩
    obtain ⟨A1, m, c1, G, rfl, hm, hd1⟩ := hd.open_
    clear hd h0 hb
    go_wp2_with fail
    refine (c_BeamOf A1 m c1 G _ (by omega) hd1).mono ?_
    rintro e w2 ⟨A2, c2, rfl, hb2, hm2⟩
    go_wp2_with fail
    refine (c_sBeamOf A1 m c1 G _ (by omega) (hd1.step hb2)).mono ?_
    rintro e w3 ⟨A3, c3, rfl, hb3, hm3⟩
    have hm2' := hm2.step hb3
    have B3 := below_seq (below_seq hB hb2) hb3
    have hd3 := (hd1.step hb2).step hb3
    have hl := len16_le (cvB m G)
    have he : eqN (len16 (cvB m G)) (len16 (cvB m G)) (beam (uni G)) (beam (uni G)) = true := eqN_good fun _ _ => rfl
    clear hm2 hd1 hB hb2 hb3
    by_cases hv : cvB m G = true
    · obtain ⟨hm16, hok⟩ := cvB_true hv
      subst hm16
      rw [hv] at hm2' hm3 hl he ⊢
      rw [show len16 true = 16 from rfl] at hm2' hm3 hl he ⊢
      go_wp2_with fail
      refine (c_sameInts _ _ _ _ _ _ (beam (uni G)) (beam (uni G)) _ hl hl hm2'.rd hm3.rd).mono ?_
      rintro e w4 ⟨rfl, m4, rfl⟩
      have D2 : Rd (w3.drewN m4) (w3.drewN m4).heap.size A2 16 (fun k => .int .i64 (beam (uni G) k)) := hm2'.rd
      have D1 : Rd (w3.drewN m4) (w3.drewN m4).heap.size A1 16 (fun k => .bool (G k)) := hd3
      have B4 := below_drewN B3 m4
      clear hok hm2' hm3 hd3 B3
      generalize w3.drewN m4 = w4 at D1 D2 B4 ⊢
      have C := c_CoverTurn A1 16 c1 G w4 (by omega) D1
      rw [hv, show len16 true = 16 from rfl] at C
      go_wp2_with fail
      refine C.mono ?_
      rintro e w5 ⟨A5, c5, rfl, b5, M5⟩
      have D2 := D2.step b5
      have B5 := below_seq B4 b5
      have E5 := M5.rd
      clear C M5 b5 B4 D1
      have C := c_BeamOf A5 16 c5 (fun c => G (tornN c)) w5 (by omega) E5
      rw [cv_torn hv, show len16 true = 16 from rfl] at C
      go_wp2_with fail
      refine C.mono ?_
      rintro e w6 ⟨A6, c6, rfl, b6, M6⟩
      have D2 := D2.step b6
      have B6 := below_seq B5 b6
      have E6 := M6.rd
      clear C M6 b6 B5 E5
      obtain ⟨ao, rfl, hbo, ho⟩ := D2 (by omega)
      obtain ⟨ac, rfl, hbc, hcs⟩ := E6 (by omega)
      have HO := Lib.hid ho
      have HC := Lib.hid hcs
      clear ho hcs D2 E6
      go_wp2
      go_loopw [12] (fun p wr => ∃ k mm : Nat, k ≤ 16 ∧ p = .int .i64 k ∧ wr = w6.drewN mm) (fun p _ => 16 - (intOf p).toNat)
      case atStart => exact ⟨0, 0, by omega, rfl, rfl⟩
      case round =>
        obtain ⟨k, mm, hk, rfl, rfl⟩ := hrel
        by_cases hlt : k < 16
        · have hz : (k : Int) < 16 := by omega
          have q1 : w6.cell? (ao.add k) = some (.int .i64 (beam (uni G) k)) := HO.out k hlt
          have q2 : w6.cell? (ac.add (rotN k)) = some (.int .i64 (beam (uni G) k)) := by
            rw [← beam_torn (uni G) hlt]
            exact HC.out (rotN k) (rotN_lt k)
          have hz2 : ((rotN k : Nat) : Int) < (16 : Int) := by have := rotN_lt k; omega
          generalize beam (uni G) k = z at q1 q2
          clear HO HC
          have hq : (z == z) = true := by simp
          go_wp2
          go_quiet ((go_at_call 27; exact qsa (c_lcellB _ _ (rotN k) rfl _)))
          go_wp2
          go_roundw
          case rel => exact ⟨k + 1, _, by omega, by go_num, rfl⟩
          case measure => simp [intOf]; omega
        · clear HO HC
          go_wp2
          go_ret
          exact ⟨rfl, below_drewN B6 _⟩
    · have hv' : cvB m G = false := by simpa using hv
      clear hv
      rw [hv'] at hm2' hm3 hl he ⊢
      go_wp2_with fail
      refine (c_sameInts _ _ _ _ _ _ (beam (uni G)) (beam (uni G)) _ hl hl hm2'.rd hm3.rd).mono ?_
      rintro e w4 ⟨rfl, m4, rfl⟩
      have r2 : Rd (w3.drewN m4) (w3.drewN m4).heap.size A2 _ _ := hm2'.rd
      have r3 : Rd (w3.drewN m4) (w3.drewN m4).heap.size A3 _ _ := hm3.rd
      go_wp2_with fail
      refine (c_sameInts _ _ _ _ _ _ (beam (uni G)) (beam (uni G)) _ hl hl r2 r3).mono ?_
      rintro e w5 ⟨rfl, m5, rfl⟩
      go_wp2
      go_ret
      exact ⟨rfl, by rw [← World.drewN_drewN]; exact below_drewN (below_drewN B3 m4) m5⟩
  · go_enter Try.func7, Try.ntmps7
    go_wp2
    go_ret
    exact ⟨rfl, Below.refl _ _⟩
end Go.Proofs.Ytbnfnloaomjjbaa
