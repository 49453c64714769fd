/-
  The laws on valid fringes and on the fringes of three numbers: the program's answers are the reference's; arguments are left alone; answers are lists of their own.
-/
import Derived.Test.YtgfmhipfoaobgaaFrRows
import Derived.Test.YtgfmhipfoaobgaaFrOf
namespace Go.Proofs.Ytgfmhipfoaobgaa
open Go.RowKit

set_option maxHeartbeats 1600000 in
theorem l_FnExactFringeValid (a : Option Addr) (n c : Nat) (V : Nat → Value) (L : Nat → Nat) (f : Nat → Nat → Int) (w : World) (h : RdR w w.heap.size a n V L f) (hm : n ≤ maxLen) (hM : ∀ r, r < n → L r ≤ maxLen) :
    Calls Try.prog 4 #[.slice a n c] w fun e w' => e = .returned (.bool true) ∧ Below w.heap.size w w' := by
  have SZ := c_szIntSS a n c V L f w hm hM h
  clear hm hM
  go_enter Try.func4, Try.ntmps4
  go_wp2_with fail
  refine SZ.mono ?_
  rintro e w' ⟨z, rfl, rfl, hz⟩
  by_cases h0 : 0 ≤ z
  · obtain ⟨hn, hs⟩ := hz h0
    have hL := sumL_len hs
    have HL := Lib.hid hL
    have hqq : (fvB n L f == fvB n L f) = true := by simp
    have he : eqR n n L L f f = true := eqR_refl _ _ _
    clear hz hL hs
    go_wp2_with fail
    refine (c_toIntSS a n c V L f _ hn HL.out h).mono ?_
    rintro e w1 ⟨V1, rfl, hb1, hr1⟩
    have h1 := h.step hb1
    go_wp2_with fail
    refine (c_sFringeValid _ n n V1 L f _ hn hr1.rd).mono ?_
    rintro e w2 ⟨rfl, m2, rfl⟩
    have h2 := h1.drewN m2
    have B2 := below_drewN hb1 m2
    clear hr1 hb1 h1
    go_wp2_with fail
    refine (c_toIntSS a n c V L f _ hn HL.out h2).mono ?_
    rintro e w3 ⟨V3, rfl, hb3, hr3⟩
    have h3 := h2.step hb3
    have B3 := below_seq B2 hb3
    go_wp2_with fail
    refine (c_FringeValid _ n n V3 L f _ hn hr3.rd).mono ?_
    rintro e w4 ⟨rfl, rfl⟩
    go_wp2_with fail
    refine (c_toIntSS a n c V L f _ hn HL.out h3).mono ?_
    rintro e w5 ⟨V5, rfl, hb5, hr5⟩
    have hr3' := hr3.step hb5
    have B5 := below_seq B3 hb5
    go_wp2_with fail
    refine (c_eqIntSS _ _ n n n n V3 V5 L L f f _ hn hn HL.out HL.out hr3'.rd hr5.rd).mono ?_
    rintro e w6 ⟨rfl, m6, rfl⟩
    go_wp2
    go_ret
    exact ⟨rfl, below_drewN B5 m6⟩
  · clear hz
    go_wp2
    go_ret
    exact ⟨rfl, Below.refl _ _⟩
theorem many_le {b : Bool} {n M : Nat} (h : b = true → n ≤ M) : many b n ≤ M := by
  unfold many
  split
  · exact h (by assumption)
  · exact Nat.zero_le _
theorem frOk_many {d r p ch ti : Int} : many (frOk d r p ch ti) ch.toNat ≤ 8 := many_le fun h => by have := frOk_true h; omega
theorem frOk_lens {d r p ch ti : Int} : ∀ k, k < many (frOk d r p ch ti) ch.toNat → ti.toNat ≤ 8 := fun k hk => by
  unfold many at hk
  split at hk
  · rename_i h
    have := frOk_true h
    omega
  · omega
set_option maxHeartbeats 1600000 in
theorem l_FnExactFringeOf (d r p ch ti : Int) (w : World) :
    Calls Try.prog 3 #[.int .i64 d, .int .i64 r, .int .i64 p, .int .i64 ch, .int .i64 ti] w fun e w' => e = .returned (.bool true) ∧ Below w.heap.size w w' := by
  have C1 := Lib.hid (c_FringeOf d r p ch ti)
  have C2 := Lib.hid (c_sFringeOf d r p ch ti)
  have hn := frOk_many (d := d) (r := r) (p := p) (ch := ch) (ti := ti)
  have hl := frOk_lens (d := d) (r := r) (p := p) (ch := ch) (ti := ti)
  have HL : Hid (∀ k, k < many (frOk d r p ch ti) ch.toNat → (fun _ : Nat => ti.toNat) k ≤ 1048576) := Lib.hid fun k hk => by have := hl k hk; show ti.toNat ≤ 1048576; omega
  have HS : Hid (sumL (fun _ : Nat => ti.toNat) (many (frOk d r p ch ti) ch.toNat) ≤ 1048576) := Lib.hid (by
    have h1 := sumL_le (L := fun _ : Nat => ti.toNat) (M := 8) _ hl
    omega)
  have hqq : (frOk d r p ch ti == frOk d r p ch ti) = true := by simp
  have he : eqR (many (frOk d r p ch ti) ch.toNat) (many (frOk d r p ch ti) ch.toNat) (fun _ => ti.toNat) (fun _ => ti.toNat) (frF d r p) (frF d r p) = true := eqR_refl _ _ _
  clear hl
  generalize frOk d r p ch ti = ok at *
  generalize hN : many ok ch.toNat = n at *
  clear hN
  have hn' : n ≤ 1048576 := by omega
  go_enter Try.func3, Try.ntmps3
  go_wp2_with fail
  refine (C2.out _).mono ?_
  rintro e w1 ⟨a1, c1, V1, rfl, B1, M1⟩
  have R1 := M1.rd
  clear M1
  go_wp2_with fail
  refine (C1.out _).mono ?_
  rintro e w2 ⟨a2, c2, V2, rfl, b2, M2'⟩
  have M2 := M2'.md
  clear M2'
  have B2 := below_seq B1 b2
  go_wp2_with fail
  refine (c_eqIntSS _ _ _ _ _ _ V2 V1 _ _ (frF d r p) (frF d r p) _ hn' hn' HL.out HL.out M2.rd (R1.step b2)).mono ?_
  rintro e w3 ⟨rfl, m3, rfl⟩
  have b3 := below_drewN b2 m3
  have M3 := M2.drewN m3
  have B3 := below_drewN B2 m3
  go_wp2_with fail
  refine (c_markIntSS w1.heap.size _ _ _ V2 _ (frF d r p) _ hn' HS.out M3).mono ?_
  rintro e w4 ⟨rfl, o4, M4⟩
  have b4 := b3.trans (o4.below_md M3 (Nat.le_refl _))
  have B4 := below_seq B1 b4
  go_wp2_with fail
  refine (c_heldIntSS _ _ _ V2 _ _ hn' HS.out M4.rd).mono ?_
  rintro e w5 ⟨rfl, m5, rfl⟩
  have b5 := below_drewN b4 m5
  have M5 := M4.drewN m5
  go_wp2_with fail
  refine (C1.out _).mono ?_
  rintro e w6 ⟨a6, c6, V6, rfl, b6, M6⟩
  have M56 := M5.step b6
  have b56 := below_seq b5 b6
  go_wp2_with fail
  refine (c_eqIntSS _ _ _ _ _ _ V6 V1 _ _ (frF d r p) (frF d r p) _ hn' hn' HL.out HL.out M6.md.rd (R1.step b56)).mono ?_
  rintro e w7 ⟨rfl, m7, rfl⟩
  have b7 := below_drewN b56 m7
  have M7 := M56.drewN m7
  go_wp2_with fail
  refine (c_heldIntSS _ _ _ V2 _ _ hn' HS.out M7.rd).mono ?_
  rintro e w8 ⟨rfl, m8, rfl⟩
  go_wp2
  go_ret
  exact ⟨rfl, by rw [← World.drewN_drewN]; exact below_drewN (below_seq B1 b7) m8⟩
end Go.Proofs.Ytgfmhipfoaobgaa
