/-
  The laws on scores, fits and turns of fringes: the program's answers are the reference's; arguments are left alone; answers are lists of their own.
-/
import Derived.Test.YtgfmhipfoaobgaaFrRows
import Derived.Test.YtgfmhipfoaobgaaFrFit
namespace Go.Proofs.Ytgfmhipfoaobgaa
open Go.RowKit

set_option maxHeartbeats 1600000 in
theorem l_FnExactFringeScore (a : Option Addr) (n c : Nat) (V : Nat → Value) (L : Nat → Nat) (f : Nat → Nat → Int) (d r p : Int) (w : World) (h : RdR w w.heap.size a n V L f) (hm : n ≤ maxLen) (hM : ∀ r, r < n → L r ≤ maxLen) :
    Calls Try.prog 8 #[.slice a n c, .int .i64 d, .int .i64 r, .int .i64 p] w fun e w' => e = .returned (.bool true) ∧ Below w.heap.size w w' := by
  have SZ := c_szIntSS a n c V L f w hm hM h
  clear hm hM
  go_enter Try.func8, Try.ntmps8
  go_wp2_with fail
  refine SZ.mono ?_
  rintro e w' ⟨z, rfl, rfl, hz⟩
  by_cases h0 : 0 ≤ z
  · obtain ⟨hn, hs⟩ := hz h0
    have HL := Lib.hid (sumL_len hs)
    have hqq : (fsc n L f d r p == fsc n L f d r p) = true := by simp
    have he : eqR n n L L f f = true := eqR_refl _ _ _
    clear hz hs
    go_wp2_with fail
    refine (c_toIntSS a n c V L f _ hn HL.out h).mono ?_
    rintro e w1 ⟨V1, rfl, hb1, hr1⟩
    have h1 := h.step hb1
    go_wp2_with fail
    refine (c_sFringeScore _ n n V1 L f d r p _ hn hr1.rd).mono ?_
    rintro e w2 ⟨rfl, m2, rfl⟩
    have h2 := h1.drewN m2
    have B2 := below_drewN hb1 m2
    clear hr1 hb1 h1
    go_wp2_with fail
    refine (c_toIntSS a n c V L f _ hn HL.out h2).mono ?_
    rintro e w3 ⟨V3, rfl, hb3, hr3⟩
    have h3 := h2.step hb3
    have B3 := below_seq B2 hb3
    go_wp2_with fail
    refine (c_FringeScore _ n n V3 L f d r p _ hn hr3.rd).mono ?_
    rintro e w4 ⟨rfl, hb4⟩
    have h4 := h3.step hb4
    have B4 := below_seq B3 hb4
    have hr4 := hr3.step hb4
    go_wp2_with fail
    refine (c_toIntSS a n c V L f _ hn HL.out h4).mono ?_
    rintro e w5 ⟨V5, rfl, hb5, hr5⟩
    have hr3' := hr4.step hb5
    have B5 := below_seq B4 hb5
    go_wp2_with fail
    refine (c_eqIntSS _ _ n n n n V3 V5 L L f f _ hn hn HL.out HL.out hr3'.rd hr5.rd).mono ?_
    rintro e w6 ⟨rfl, m6, rfl⟩
    go_wp2
    go_ret
    exact ⟨rfl, below_drewN B5 m6⟩
  · clear hz
    go_wp2
    go_ret
    exact ⟨rfl, Below.refl _ _⟩
set_option maxHeartbeats 1600000 in
theorem l_FnExactFringeFit (a : Option Addr) (n c : Nat) (V : Nat → Value) (L : Nat → Nat) (f : Nat → Nat → Int) (w : World) (h : RdR w w.heap.size a n V L f) (hm : n ≤ maxLen) (hM : ∀ r, r < n → L r ≤ maxLen) :
    Calls Try.prog 14 #[.slice a n c] w fun e w' => e = .returned (.bool true) ∧ Below w.heap.size w w' := by
  have SZ := c_szIntSS a n c V L f w hm hM h
  clear hm hM
  obtain ⟨x, y, u, b, hV⟩ : ∃ (x y u : Int) (b : Bool), fitV n L f = .tuple #[.int .i64 x, .int .i64 y, .int .i64 u, .bool b] := by
    unfold fitV; split
    · exact ⟨_, _, _, _, rfl⟩
    · exact ⟨_, _, _, _, rfl⟩
  have C1 := fun a c V w hn h => c_FringeFit a n c V L f w hn h
  have C2 := fun a c V w hn h => c_sFringeFit a n c V L f w hn h
  rw [hV] at C1 C2
  have D1 := Lib.hid C1
  have D2 := Lib.hid C2
  clear hV C1 C2
  go_enter Try.func14, Try.ntmps14
  go_wp2_with fail
  refine SZ.mono ?_
  rintro e w' ⟨z, rfl, rfl, hz⟩
  by_cases h0 : 0 ≤ z
  · obtain ⟨hn, hs⟩ := hz h0
    have HL := Lib.hid (sumL_len hs)
    have he : eqR n n L L f f = true := eqR_refl _ _ _
    clear hz hs
    go_wp2_with fail
    refine (c_toIntSS a n c V L f _ hn HL.out h).mono ?_
    rintro e w1 ⟨V1, rfl, hb1, hr1⟩
    have h1 := h.step hb1
    go_wp2_with fail
    refine (D2.out _ n V1 _ hn hr1.rd).mono ?_
    rintro e w2 ⟨rfl, m2, rfl⟩
    have h2 := h1.drewN m2
    have B2 := below_drewN hb1 m2
    clear hr1 hb1 h1
    go_wp2_with fail
    refine (c_toIntSS a n c V L f _ hn HL.out h2).mono ?_
    rintro e w3 ⟨V3, rfl, hb3, hr3⟩
    have h3 := h2.step hb3
    have B3 := below_seq B2 hb3
    go_wp2_with fail
    refine (D1.out _ n V3 _ hn hr3.rd).mono ?_
    rintro e w4 ⟨rfl, hb4⟩
    have h4 := h3.step hb4
    have B4 := below_seq B3 hb4
    have hr4 := hr3.step hb4
    go_wp2_with fail
    refine (c_toIntSS a n c V L f _ hn HL.out h4).mono ?_
    rintro e w5 ⟨V5, rfl, hb5, hr5⟩
    have hr3' := hr4.step hb5
    have B5 := below_seq B4 hb5
    go_wp2_with fail
    refine (c_eqIntSS _ _ n n n n V3 V5 L L f f _ hn hn HL.out HL.out hr3'.rd hr5.rd).mono ?_
    rintro e w6 ⟨rfl, m6, rfl⟩
    go_wp2
    go_ret
    exact ⟨rfl, below_drewN B5 m6⟩
  · clear hz
    go_wp2
    go_ret
    exact ⟨rfl, Below.refl _ _⟩
theorem many_lens {n : Nat} {L : Nat → Nat} {f : Nat → Nat → Int} {d r p : Int} : many (tnOk n L f d r p) n ≤ 8 ∧ ∀ k, k < many (tnOk n L f d r p) n → L 0 ≤ 8 := by
  unfold many
  split
  · rename_i h
    have := fvB_true (tnOk_true h).1
    exact ⟨this.1.2, fun _ _ => this.2.1.2⟩
  · exact ⟨Nat.zero_le _, fun k hk => by omega⟩
set_option maxHeartbeats 2000000 in
theorem l_FnExactFringeTurn (a : Option Addr) (n c : Nat) (V : Nat → Value) (L : Nat → Nat) (f : Nat → Nat → Int) (d r p : Int) (w : World) (h : RdR w w.heap.size a n V L f) (hm : n ≤ maxLen) (hM : ∀ r, r < n → L r ≤ maxLen) :
    Calls Try.prog 18 #[.slice a n c, .int .i64 d, .int .i64 r, .int .i64 p] w fun e w' => e = .returned (.bool true) ∧ Below w.heap.size w w' := by
  have SZ := c_szIntSS a n c V L f w hm hM h
  clear hm hM
  have C1 := Lib.hid (fun a V w hn h => c_FringeTurn a n n V L f d r p w hn h)
  have C2 := Lib.hid (fun a V w hn h => c_sFringeTurn a n n V L f d r p w hn h)
  obtain ⟨hN8, hl⟩ := many_lens (n := n) (L := L) (f := f) (d := d) (r := r) (p := p)
  have HT : Hid (∀ k, k < many (tnOk n L f d r p) n → (fun _ : Nat => L 0) k ≤ 1048576) := Lib.hid fun k hk => by have := hl k hk; show L 0 ≤ 1048576; omega
  have HS : Hid (sumL (fun _ : Nat => L 0) (many (tnOk n L f d r p) n) ≤ 1048576) := Lib.hid (by
    have h1 := sumL_le (L := fun _ : Nat => L 0) (M := 8) _ hl
    omega)
  have hqq : (tnOk n L f d r p == tnOk n L f d r p) = true := by simp
  have hee : eqR (many (tnOk n L f d r p) n) (many (tnOk n L f d r p) n) (fun _ => L 0) (fun _ => L 0) (tnF f d r p) (tnF f d r p) = true := eqR_refl _ _ _
  clear hl
  generalize tnOk n L f d r p = ok at *
  generalize hNN : many ok n = N at *
  clear hNN
  have hN : N ≤ 1048576 := by omega
  generalize hll : (fun _ : Nat => L 0) = l0 at *
  clear hll
  go_enter Try.func18, Try.ntmps18
  go_wp2_with fail
  refine SZ.mono ?_
  rintro e w' ⟨z, rfl, rfl, hz⟩
  by_cases h0 : 0 ≤ z
  · obtain ⟨hn, hs⟩ := hz h0
    have HL := Lib.hid (sumL_len hs)
    have HSx := Lib.hid hs
    have he : eqR n n L L f f = true := eqR_refl _ _ _
    clear hz hs
    go_wp2_with fail
    refine (c_toIntSS a n c V L f _ hn HL.out h).mono ?_
    rintro e w1 ⟨V1, rfl, hb1, hr1⟩
    have h1 := h.step hb1
    go_wp2_with fail
    refine (C2.out _ V1 _ hn hr1.rd).mono ?_
    rintro e w2 ⟨a2, c2, V2, rfl, hb2, M2⟩
    have W0 := M2.rd
    have h2 := h1.step hb2
    have B2 := below_seq hb1 hb2
    clear hr1 hb1 h1 M2 hb2
    go_wp2_with fail
    refine (c_toIntSS a n c V L f _ hn HL.out h2).mono ?_
    rintro e w3 ⟨V3, rfl, b3, X3⟩
    go_wp2_with fail
    refine (C1.out _ V3 _ hn X3.rd).mono ?_
    rintro e w4 ⟨a4, c4, V4, rfl, b4', M4⟩
    have G4 := M4.md
    have X4 := X3.step b4'
    have b4 := below_seq b3 b4'
    clear M4
    have xlt : ∀ r, r < n → 0 < L r → ∀ k, (V3 r).ownBlock = some k → k < w3.heap.size := fun r hr hL k hk => X3.own_lt hr hL hk
    have XLT := Lib.hid xlt
    clear xlt
    go_wp2_with fail
    refine (c_eqIntSS _ _ N N _ _ V4 V2 l0 l0 (tnF f d r p) (tnF f d r p) _ hN hN HT.out HT.out G4.rd (W0.step b4)).mono ?_
    rintro e w5 ⟨rfl, m5, rfl⟩
    have b5 := below_drewN b4 m5
    have G5 := G4.drewN m5
    have X5 := X4.drewN m5
    go_wp2_with fail
    refine (c_toIntSS a n c V L f _ hn HL.out (h2.step b5)).mono ?_
    rintro e w6 ⟨V6, rfl, b6', X6⟩
    have b6 := below_seq b5 b6'
    have G6 := G5.step b6'
    have X6' := X5.step b6'
    go_wp2_with fail
    refine (c_eqIntSS _ _ n n n n V3 V6 L L f f _ hn hn HL.out HL.out X6'.rd X6.rd).mono ?_
    rintro e w7 ⟨rfl, m7, rfl⟩
    have b7 := below_drewN b6 m7
    have G7 := G6.drewN m7
    have X7 := X6'.drewN m7
    go_wp2_with fail
    refine (c_markIntSS w2.heap.size _ n n V3 L f _ hn HSx.out X7).mono ?_
    rintro e w8 ⟨rfl, o8, X8⟩
    have b8 := b7.trans (o8.below_md X7 (Nat.le_refl _))
    have G8 := G7.only_lt o8 XLT.out
    go_wp2_with fail
    refine (c_eqIntSS _ _ N N _ _ V4 V2 l0 l0 (tnF f d r p) (tnF f d r p) _ hN hN HT.out HT.out G8.rd (W0.step b8)).mono ?_
    rintro e w9 ⟨rfl, m9, rfl⟩
    have b9 := below_drewN b8 m9
    have G9 := G8.drewN m9
    go_wp2_with fail
    refine (c_markIntSS w3.heap.size _ N _ V4 l0 (tnF f d r p) _ hN HS.out G9).mono ?_
    rintro e w10 ⟨rfl, o10, G10⟩
    have b10 := b9.trans (o10.below_md G9 b3.size)
    go_wp2_with fail
    refine (c_heldIntSS _ N _ V4 l0 _ hN HS.out G10.rd).mono ?_
    rintro e w11 ⟨rfl, m11, rfl⟩
    have b11 := below_drewN b10 m11
    have G11 := G10.drewN m11
    go_wp2_with fail
    refine (c_toIntSS a n c V L f _ hn HL.out (h2.step b11)).mono ?_
    rintro e w12 ⟨V12, rfl, b12', X12⟩
    have b12 := below_seq b11 b12'
    have G12 := G11.step b12'
    go_wp2_with fail
    refine (C1.out _ V12 _ hn X12.rd).mono ?_
    rintro e w13 ⟨a13, c13, V13, rfl, b13', M13⟩
    have b13 := below_seq b12 b13'
    have G13 := G12.step b13'
    go_wp2_with fail
    refine (c_eqIntSS _ _ N N _ _ V13 V2 l0 l0 (tnF f d r p) (tnF f d r p) _ hN hN HT.out HT.out M13.rd (W0.step b13)).mono ?_
    rintro e w14 ⟨rfl, m14, rfl⟩
    have b14 := below_drewN b13 m14
    have G14 := G13.drewN m14
    go_wp2_with fail
    refine (c_heldIntSS _ N _ V4 l0 _ hN HS.out G14.rd).mono ?_
    rintro e w15 ⟨rfl, m15, rfl⟩
    go_wp2
    go_ret
    exact ⟨rfl, by rw [← World.drewN_drewN]; exact below_drewN (below_seq B2 b14) m15⟩
  · clear hz
    go_wp2
    go_ret
    exact ⟨rfl, Below.refl _ _⟩
end Go.Proofs.Ytgfmhipfoaobgaa
