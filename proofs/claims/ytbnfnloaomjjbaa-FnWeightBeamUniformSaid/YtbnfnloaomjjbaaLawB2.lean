/-
  The law on beams of joined coverages.
-/
import Derived.Test.YtbnfnloaomjjbaaLawB1
namespace Go.Proofs.Ytbnfnloaomjjbaa
open Go.RowKit

theorem DrawnB.grow {B g : Nat} {v : Value} {w w' : World} (h : DrawnB B v w) (hg : Grow g w w') (hB : g < B) : DrawnB B v w' := by
  obtain ⟨b, off, n, c, F, hb, e, h1, h2, hR⟩ := h
  exact ⟨b, off, n, c, F, hb, e, h1, h2, hR.of_block (hg.block b hR.lt (by omega))⟩
theorem c_DrawCoverJoin (A : Option Addr) (n c : Nat) (f : Nat → Int) (w : World) (hn : n ≤ 1048576) (hnc : n ≤ c) (h : Code8 w w.heap.size A n f) :
    Calls Try.prog 21 #[.slice A n c] w fun e w' => ∃ v v', e = .returned (.tuple #[v, v']) ∧ DrawnB w.heap.size v w' ∧ DrawnB w.heap.size v' w' ∧ Below w.heap.size w w' := by
  go_enter Try.func21, Try.ntmps21
  go_wp2_with fail
  refine (c_l6Open A n c f _ hn hnc h).mono ?_
  rintro e w1 ⟨g, hg, rfl, hr, hb⟩
  go_wp2_with fail
  refine (c_l92Cover g 0 _ hr (by omega)).mono ?_
  rintro e w2 ⟨v, p', rfl, hd, hr2, hp, hG⟩
  go_wp2_with fail
  refine (c_l92Cover g p' _ hr2 (by omega)).mono ?_
  rintro e w3 ⟨v', p'', rfl, hd2, hr3, hp2, hG2⟩
  go_wp2
  go_ret2
  have hg1 := hr.lt
  obtain ⟨d1, b1⟩ := drewB_of hg hb (hd.grow hG2 hg1) (hG.trans hG2)
  exact ⟨_, _, rfl, d1, (hd2.less hG.size).less hb.size, b1⟩
set_option maxHeartbeats 1000000 in
theorem c_sCoverJoin (A A' : Option Addr) (n n' c c' : Nat) (f f' : Nat → Bool) (w : World) (hn : n ≤ 1048576) (hn' : n' ≤ 1048576) (h : Rd w w.heap.size A n (fun k => .bool (f k))) (h' : Rd w w.heap.size A' n' (fun k => .bool (f' k))) :
    Calls Try.prog 23 #[.slice A n c, .slice A' n' c'] w (Rets 4 w (len16 (cvB n f && cvB n' f')) (fun k => .bool (f k || f' k)) (cvB n f && cvB n' f')) := by
  have hq : ∀ o m, Rd ((w.alloc o).drewN m) ((w.alloc o).drewN m).heap.size A n (fun k => .bool (f k)) := fun o m => Rd.step h (below_drewN ((Below.refl w.heap.size w).alloc (Nat.le_refl _) o) m)
  have hq' : ∀ o m, Rd ((w.alloc o).drewN m) ((w.alloc o).drewN m).heap.size A' n' (fun k => .bool (f' k)) := fun o m => Rd.step h' (below_drewN ((Below.refl w.heap.size w).alloc (Nat.le_refl _) o) m)
  have C1 := Lib.hid (fun o m => c_sCoverValid A n c f ((w.alloc o).drewN m) hn (hq o m))
  have C2 := Lib.hid (fun o m => c_sCoverValid A' n' c' f' ((w.alloc o).drewN m) hn' (hq' o m))
  clear hq hq'
  by_cases hv : cvB n f = true
  · rw [hv] at C1 ⊢
    by_cases hv' : cvB n' f' = true
    · obtain ⟨rfl, -⟩ := cvB_true hv
      obtain ⟨rfl, -⟩ := cvB_true hv'
      rw [hv'] at C2 ⊢
      clear hv hv'
      go_enter Try.func23, Try.ntmps23
      go_wp2_with fail
      refine (C1.out _ 0).mono ?_
      rintro e w' ⟨rfl, m0, rfl⟩
      go_wp2_with fail
      refine (C2.out _ m0).mono ?_
      rintro e w' ⟨rfl, m1, rfl⟩
      go_wp2
      clear C1 C2
      go_loopw [6, 7] (fun v i wr => ∃ k : Nat, k ≤ 16 ∧ i = .int .i64 k ∧ Below w.heap.size w wr ∧ Own wr w.heap.size 4 v k (fun k => .bool (f k || f' k))) (fun _ i _ => 16 - (intOf i).toNat)
      case atStart => exact ⟨0, Nat.zero_le _, rfl, below_drewN ((Below.refl _ _).alloc (Nat.le_refl _) _) _, (Own.empty _ _ _ (Nat.le_refl _)).drewN _⟩
      case round =>
        obtain ⟨k, hk, rfl, hb, hr⟩ := hrel
        by_cases hlt : k < 16
        · obtain ⟨ad, rfl, hab, hc⟩ := h.at_ hlt
          obtain ⟨ad', rfl, hab', hc'⟩ := h'.at_ hlt
          have h1 : wr.cell? (ad.add k) = some (.bool (f k)) := (hb.cell (by rw [block_add]; exact hab)).trans (hc k hlt)
          have h2 : wr.cell? (ad'.add k) = some (.bool (f' k)) := (hb.cell (by rw [block_add]; exact hab')).trans (hc' k hlt)
          have hsz := hb.size
          have hz : (k : Int) < 16 := by omega
          clear hc hc' h h'
          obtain ⟨u, hu⟩ : ∃ u, (f k || f' k) = u := ⟨_, rfl⟩
          have HU := Lib.hid hu
          obtain ⟨d, hd⟩ : ∃ d, f k = d := ⟨_, rfl⟩
          rw [hd] at h1
          obtain ⟨d', hd'⟩ : ∃ d, f' k = d := ⟨_, rfl⟩
          rw [hd'] at h2
          rw [hd, hd'] at hu
          clear hd hd'
          cases d with
          | true =>
            obtain rfl : u = true := by simpa using hu.symm
            clear hu
            go_wp2_with (first | (go_at_call 32; refine (c_l21Cells _).mono ?_; rintro e w' ⟨rfl, rfl⟩) | (at_builtin; refine wpList_app1 wr (.bool true) rfl _ _ 23 rfl w.heap.size 4 (.bool false) 1 Try.underlying23 info_bool rfl (by omega) _ k _ (by rfl) (by exact hr) (by rfl) (congrArg Value.bool HU.out) rfl (by omega) hsz ?_; intro v' w1 hown' hb1 _))
            go_roundw
            case rel => exact ⟨k + 1, by omega, by go_num, hb.trans hb1, hown'⟩
            case measure => simp [intOf]; omega
          | false =>
            obtain rfl : u = d' := by simpa using hu.symm
            clear hu
            go_wp2_with (first | (go_at_call 32; refine (c_l21Cells _).mono ?_; rintro e w' ⟨rfl, rfl⟩) | (at_builtin; refine wpList_app1 wr (.bool u) rfl _ _ 23 rfl w.heap.size 4 (.bool false) 1 Try.underlying23 info_bool rfl (by omega) _ k _ (by rfl) (by exact hr) (by rfl) (congrArg Value.bool HU.out) rfl (by omega) hsz ?_; intro v' w1 hown' hb1 _))
            go_roundw
            case rel => exact ⟨k + 1, by omega, by go_num, hb.trans hb1, hown'⟩
            case measure => simp [intOf]; omega
        · go_wp2_with (go_at_call 32; refine (c_l21Cells _).mono ?_; rintro e w' ⟨rfl, rfl⟩)
          obtain rfl : k = 16 := by omega
          obtain ⟨A1, c1, rfl, hm⟩ := hr.made
          go_ret2
          exact ⟨_, _, rfl, hb, hm⟩
    · have hv2 : cvB n' f' = false := by simpa using hv'
      rw [hv2] at C2 ⊢
      clear hv hv' hv2 h h'
      go_enter Try.func23, Try.ntmps23
      go_wp2_with fail
      refine (C1.out _ 0).mono ?_
      rintro e w' ⟨rfl, m0, rfl⟩
      go_wp2_with fail
      refine (C2.out _ m0).mono ?_
      rintro e w' ⟨rfl, m1, rfl⟩
      go_wp2
      go_ret2
      exact ⟨_, _, rfl, below_drewN ((Below.refl _ _).alloc (Nat.le_refl _) _) _, Made.nil _ _ _ _ _⟩
  · have hv2 : cvB n f = false := by simpa using hv
    rw [hv2] at C1 ⊢
    clear hv hv2 h h'
    go_enter Try.func23, Try.ntmps23
    go_wp2_with fail
    refine (C1.out _ 0).mono ?_
    rintro e w' ⟨rfl, m0, rfl⟩
    go_wp2
    go_ret2
    exact ⟨_, _, rfl, below_drewN ((Below.refl _ _).alloc (Nat.le_refl _) _) _, Made.nil _ _ _ _ _⟩
theorem join_beam (f g : Nat → Bool) (k : Nat) : beam (uni fun k => f k || g k) k + beam (uni fun k => f k && g k) k = beam (uni f) k + beam (uni g) k := by
  rw [← beam_add, ← beam_add]
  refine beam_congr (fun l _ => ?_) k
  unfold uni
  by_cases hf : f l = true <;> by_cases hg : g l = true <;> simp [hf, hg]
theorem beam_uni_bd (f : Nat → Bool) (k : Nat) : -1600 ≤ beam (uni f) k ∧ beam (uni f) k ≤ 1600 := by
  have h1 := beam_abs (f := uni f) (fun k _ => (uni_bd f k).1) k
  have h2 := sumN_bd (f := uni f) (M := 100) (n := 16) (fun k _ => uni_bd f k) 16 (by omega)
  omega
theorem cv_and {f g : Nat → Bool} (h : cvB 16 f = true) (h' : cvB 16 g = true) : cvB 16 (fun k => f k && g k) = true := by
  obtain ⟨-, o⟩ := cvB_true h
  obtain ⟨-, o'⟩ := cvB_true h'
  refine cvB_good fun c hc => ?_
  have a := o c hc
  have b := o' c hc
  simp only [cok, beq_iff_eq] at a b ⊢
  simp only [a, b]
theorem cv_or {f g : Nat → Bool} (h : cvB 16 f = true) (h' : cvB 16 g = true) : cvB 16 (fun k => f k || g k) = true := by
  obtain ⟨-, o⟩ := cvB_true h
  obtain ⟨-, o'⟩ := cvB_true h'
  refine cvB_good fun c hc => ?_
  have a := o c hc
  have b := o' c hc
  simp only [cok, beq_iff_eq] at a b ⊢
  simp only [a, b]
set_option maxRecDepth 8000 in
set_option maxHeartbeats 8000000 in
theorem l_FnBeamJoin (A : Option Addr) (n c : Nat) (f : Nat → Int) (w : World) (h0 : Rd w w.heap.size A n (fun k => .int .u8 (f k))) (hb : ∀ i, 0 ≤ f i ∧ f i ≤ 255) (hnc : n ≤ c) :
    Calls Try.prog 5 #[.slice A n c] w fun e w' => e = .returned (.bool true) ∧ Below w.heap.size w w' := by
  by_cases hn : n ≤ 1048576
  · go_enter Try.func5, Try.ntmps5
    go_wp2_with fail
    refine (c_DrawCoverJoin A n c f _ hn hnc ⟨h0, hb⟩).mono ?_
    rintro e w1 ⟨v, v', rfl, hd, hd', B⟩
    obtain ⟨A1, m, c1, G1, rfl, hm, D1⟩ := hd.open_
    obtain ⟨A1', m', c1', G2, rfl, hm', D1'⟩ := hd'.open_
    clear hd hd' h0 hb
    go_wp2_with fail
    refine (c_CoverJoin A1 A1' m m' c1 c1' G1 G2 _ (by omega) (by omega) D1 D1').mono ?_
    rintro e w2 ⟨A2, c2, rfl, b2, M2⟩
    have D1 := D1.step b2
    have D1' := D1'.step b2
    have B := below_seq B b2
    have D := M2.rd
    go_wp2_with fail
    refine (c_sCoverJoin A1 A1' m m' c1 c1' G1 G2 _ (by omega) (by omega) D1 D1').mono ?_
    rintro e w3 ⟨A3, c3, rfl, b3, M3⟩
    have D1 := D1.step b3
    have D1' := D1'.step b3
    have D := D.step b3
    have B := below_seq B b3
    have E := M3.rd
    clear M2 M3 b2 b3
    have hl := len16_le (cvB m G1 && cvB m' G2)
    have he : eqNB (len16 (cvB m G1 && cvB m' G2)) (len16 (cvB m G1 && cvB m' G2)) (fun k => G1 k || G2 k) (fun k => G1 k || G2 k) = true := eqNB_good fun _ _ => rfl
    have hqq : ((cvB m G1 && cvB m' G2) == (cvB m G1 && cvB m' G2)) = true := by simp
    obtain ⟨ok, hok⟩ : ∃ ok, (cvB m G1 && cvB m' G2) = ok := ⟨_, rfl⟩
    rw [hok] at D E hl he hqq ⊢
    cases ok with
    | true =>
      rw [show len16 true = 16 from rfl] at D E hl he ⊢
      go_wp2_with fail
      refine (c_sameFlags _ _ 16 16 _ _ (fun k => G1 k || G2 k) (fun k => G1 k || G2 k) _ hl hl D E).mono ?_
      rintro e w4' ⟨rfl, m4, rfl⟩
      have P1 : Rd (w3.drewN m4) (w3.drewN m4).heap.size A1 m (fun k => .bool (G1 k)) := D1
      have P2 : Rd (w3.drewN m4) (w3.drewN m4).heap.size A1' m' (fun k => .bool (G2 k)) := D1'
      have P0 : Rd (w3.drewN m4) (w3.drewN m4).heap.size A2 16 (fun k => .bool (G1 k || G2 k)) := D
      have B := below_drewN B m4
      clear D1 D1' D E
      generalize w3.drewN m4 = w4 at P1 P2 P0 B ⊢
      have hvv : cvB m G1 = true ∧ cvB m' G2 = true := by simpa using hok
      obtain ⟨hv, hv'⟩ := hvv
      clear hok hqq
      obtain ⟨rfl, -⟩ := cvB_true hv
      obtain ⟨rfl, -⟩ := cvB_true hv'
      have HV := Lib.hid hv
      have HV' := Lib.hid hv'
      clear hv hv'
      go_wp2
      go_loopw [9, 10] (fun v i wr => ∃ k : Nat, k ≤ 16 ∧ i = .int .i64 k ∧ Below w4.heap.size w4 wr ∧ Own wr w4.heap.size 4 v k (fun k => .bool (G1 k && G2 k))) (fun _ i _ => 16 - (intOf i).toNat)
      case atStart => exact ⟨0, Nat.zero_le _, rfl, (Below.refl _ _).alloc (Nat.le_refl _) _, Own.empty _ _ _ (Nat.le_refl _)⟩
      case round =>
        obtain ⟨k, hk, rfl, hb, hr⟩ := hrel
        by_cases hlt : k < 16
        · obtain ⟨ad, rfl, hab, hc⟩ := P1.at_ hlt
          obtain ⟨ad', rfl, hab', hc'⟩ := P2.at_ hlt
          have h1 : wr.cell? (ad.add k) = some (.bool (G1 k)) := (hb.cell (by rw [block_add]; exact hab)).trans (hc k hlt)
          have h2 : wr.cell? (ad'.add k) = some (.bool (G2 k)) := (hb.cell (by rw [block_add]; exact hab')).trans (hc' k hlt)
          have hsz := hb.size
          have hz : (k : Int) < 16 := by omega
          clear hc hc' P1 P2 P0
          obtain ⟨u, hu⟩ : ∃ u, (G1 k && G2 k) = u := ⟨_, rfl⟩
          have HU := Lib.hid hu
          obtain ⟨d, hd⟩ : ∃ d, G1 k = d := ⟨_, rfl⟩
          rw [hd] at h1
          obtain ⟨d', hd'⟩ : ∃ d, G2 k = d := ⟨_, rfl⟩
          rw [hd'] at h2
          rw [hd, hd'] at hu
          clear hd hd'
          cases d with
          | false =>
            obtain rfl : u = false := by simpa using hu.symm
            clear hu
            go_wp2_with ((at_builtin; refine wpList_app1 wr (.bool false) rfl _ _ 23 rfl w4.heap.size 4 (.bool false) 1 Try.underlying23 info_bool rfl (by omega) _ k _ (by rfl) (by exact hr) (by rfl) (congrArg Value.bool HU.out) rfl (by omega) hsz ?_; intro v' w1 hown' hb1 _))
            go_roundw
            case rel => exact ⟨k + 1, by omega, by go_num, hb.trans hb1, hown'⟩
            case measure => simp [intOf]; omega
          | true =>
            obtain rfl : u = d' := by simpa using hu.symm
            clear hu
            go_wp2_with ((at_builtin; refine wpList_app1 wr (.bool u) rfl _ _ 23 rfl w4.heap.size 4 (.bool false) 1 Try.underlying23 info_bool rfl (by omega) _ k _ (by rfl) (by exact hr) (by rfl) (congrArg Value.bool HU.out) rfl (by omega) hsz ?_; intro v' w1 hown' hb1 _))
            go_roundw
            case rel => exact ⟨k + 1, by omega, by go_num, hb.trans hb1, hown'⟩
            case measure => simp [intOf]; omega
        · obtain rfl : k = 16 := by omega
          obtain ⟨A5, c5, rfl, hm5⟩ := hr.made
          have hv := HV.out
          have hv' := HV'.out
          have P1 := P1.step hb
          have P2 := P2.step hb
          have P0 := P0.step hb
          have B := below_seq B hb
          have F := hm5.rd
          clear hr hm5 hb HV HV'
          have C := c_BeamOf A2 16 c2 (fun k => G1 k || G2 k) wr (by omega) P0
          rw [cv_or hv hv', show len16 true = 16 from rfl] at C
          go_wp2_with fail
          refine C.mono ?_
          rintro e w6 ⟨A6, c6, rfl, b6, M6⟩
          have P1 := P1.step b6
          have P2 := P2.step b6
          have F := F.step b6
          have B := below_seq B b6
          have E1 := M6.rd
          clear C M6 b6
          have C := c_BeamOf A5 16 c5 (fun k => G1 k && G2 k) w6 (by omega) F
          rw [cv_and hv hv', show len16 true = 16 from rfl] at C
          go_wp2_with fail
          refine C.mono ?_
          rintro e w7 ⟨A7, c7, rfl, b7, M7⟩
          have P1 := P1.step b7
          have P2 := P2.step b7
          have E1 := E1.step b7
          have B := below_seq B b7
          have E2 := M7.rd
          clear C M7 b7
          have C := c_BeamOf A1 16 c1 G1 w7 (by omega) P1
          rw [hv, show len16 true = 16 from rfl] at C
          go_wp2_with fail
          refine C.mono ?_
          rintro e w8 ⟨A8, c8, rfl, b8, M8⟩
          have P2 := P2.step b8
          have E1 := E1.step b8
          have E2 := E2.step b8
          have B := below_seq B b8
          have E3 := M8.rd
          clear C M8 b8
          have C := c_BeamOf A1' 16 c1' G2 w8 (by omega) P2
          rw [hv', show len16 true = 16 from rfl] at C
          go_wp2_with fail
          refine C.mono ?_
          rintro e w9 ⟨A9, c9, rfl, b9, M9⟩
          have E1 := E1.step b9
          have E2 := E2.step b9
          have E3 := E3.step b9
          have B := below_seq B b9
          have E4 := M9.rd
          clear C M9 b9
          obtain ⟨a1, rfl, _, x1⟩ := E1 (by omega)
          obtain ⟨a2, rfl, _, x2⟩ := E2 (by omega)
          obtain ⟨a3, rfl, _, x3⟩ := E3 (by omega)
          obtain ⟨a4, rfl, _, x4⟩ := E4 (by omega)
          have X1 := Lib.hid x1
          have X2 := Lib.hid x2
          have X3 := Lib.hid x3
          have X4 := Lib.hid x4
          clear x1 x2 x3 x4 E1 E2 E3 E4
          go_wp2
          go_loopw [19] (fun p wr => ∃ k mm : Nat, k ≤ 16 ∧ p = .int .i64 k ∧ wr = w9.drewN mm) (fun p _ => 16 - (intOf p).toNat)
          case atStart => exact ⟨0, 0, by omega, rfl, rfl⟩
          case round =>
            obtain ⟨k, mm, hk, rfl, rfl⟩ := hrel
            by_cases hlt : k < 16
            · have hz : (k : Int) < 16 := by omega
              have q1 : w9.cell? (a1.add k) = some (.int .i64 (beam (uni fun k => G1 k || G2 k) k)) := X1.out k hlt
              have q2 : w9.cell? (a2.add k) = some (.int .i64 (beam (uni fun k => G1 k && G2 k) k)) := X2.out k hlt
              have q3 : w9.cell? (a3.add k) = some (.int .i64 (beam (uni G1) k)) := X3.out k hlt
              have q4 : w9.cell? (a4.add k) = some (.int .i64 (beam (uni G2) k)) := X4.out k hlt
              have j := join_beam G1 G2 k
              have y1 := beam_uni_bd (fun k => G1 k || G2 k) k
              have y2 := beam_uni_bd (fun k => G1 k && G2 k) k
              have y3 := beam_uni_bd G1 k
              have y4 := beam_uni_bd G2 k
              generalize beam (uni fun k => G1 k || G2 k) k = z1 at q1 j y1
              generalize beam (uni fun k => G1 k && G2 k) k = z2 at q2 j y2
              generalize beam (uni G1) k = z3 at q3 j y3
              generalize beam (uni G2) k = z4 at q4 j y4
              clear X1 X2 X3 X4
              have o1 : IntKind.i64.wrap (z1 + z2) = z1 + z2 := IntWalk.i64_in _ (by omega)
              have o2 : IntKind.i64.wrap (z3 + z4) = z3 + z4 := IntWalk.i64_in _ (by omega)
              have hq : (z1 + z2 == z3 + z4) = true := by simpa using j
              clear j y1 y2 y3 y4
              go_wp2
              go_quiet (fail)
              go_wp2
              go_roundw
              case rel => exact ⟨k + 1, _, by omega, by go_num, rfl⟩
              case measure => simp [intOf]; omega
            · clear X1 X2 X3 X4
              go_wp2
              go_ret
              exact ⟨rfl, below_drewN B _⟩
    | false =>
      rw [show len16 false = 0 from rfl] at D E hl he ⊢
      go_wp2_with fail
      refine (c_sameFlags _ _ 0 0 _ _ (fun k => G1 k || G2 k) (fun k => G1 k || G2 k) _ hl hl D E).mono ?_
      rintro e w4' ⟨rfl, m4, rfl⟩
      have D : Rd (w3.drewN m4) (w3.drewN m4).heap.size A2 0 (fun k => .bool (G1 k || G2 k)) := D
      have E : Rd (w3.drewN m4) (w3.drewN m4).heap.size A3 0 (fun k => .bool (G1 k || G2 k)) := E
      have B := below_drewN B m4
      generalize w3.drewN m4 = w4 at D E B ⊢
      go_wp2_with fail
      refine (c_sameFlags _ _ 0 0 _ _ (fun k => G1 k || G2 k) (fun k => G1 k || G2 k) _ hl hl D E).mono ?_
      rintro e w5' ⟨rfl, m5, rfl⟩
      have B := below_drewN B m5
      go_wp2
      go_ret
      exact ⟨rfl, B⟩
  · go_enter Try.func5, Try.ntmps5
    go_wp2
    go_ret
    exact ⟨rfl, Below.refl _ _⟩
end Go.Proofs.Ytbnfnloaomjjbaa
