/-
  The law on beams of weights, pair by pair.
-/
import Derived.Test.YtbnfnloaomjjbaaLawB2
import Derived.Deep.DeepCutAuto
namespace Go.Proofs.Ytbnfnloaomjjbaa
open Go.RowKit

theorem oppB_opp : ∀ k : Fin 16, oppN (oppN k.val) = k.val := by decide
/-- The weights of the pairs below k. -/
def gkB (G : Nat → Int) (k l : Nat) : Int := if l < k ∨ oppN l < k then G l else 0
/-- A cell and its opposite. -/
def ckB (k l : Nat) : Bool := if l = oppN k then true else if l = k then true else false
theorem gkB_zero (G : Nat → Int) (l : Nat) : gkB G 0 l = 0 := by simp [gkB]
theorem gkB_all (G : Nat → Int) {l : Nat} (hl : l < 16) : gkB G 16 l = G l := by simp [gkB, hl]
theorem gkB_skip (G : Nat → Int) {k l : Nat} (hl : l < 16) (hk : k < 16) (h : oppN k < k) : gkB G (k + 1) l = gkB G k l := by
  unfold gkB
  have a := oppB_opp ⟨l, hl⟩
  simp only at a
  have e : (l < k + 1 ∨ oppN l < k + 1) ↔ (l < k ∨ oppN l < k) := by
    constructor
    · rintro (h1 | h1)
      · by_cases e : l = k
        · subst e; exact .inr h
        · exact .inl (by omega)
      · by_cases e : oppN l = k
        · rw [← e, a] at h; exact .inl (by omega)
        · exact .inr (by omega)
    · rintro (h1 | h1)
      · exact .inl (by omega)
      · exact .inr (by omega)
  by_cases c : l < k ∨ oppN l < k
  · rw [if_pos c, if_pos (e.2 c)]
  · rw [if_neg c, if_neg (fun q => c (e.1 q))]
theorem gkB_step {G : Nat → Int} (hG : ∀ l, l < 16 → G l = G (oppN l)) {k l : Nat} (hl : l < 16) (hk : k < 16) (h : ¬ oppN k < k) : gkB G (k + 1) l = gkB G k l + G k * uni (ckB k) l := by
  have a := oppB_opp ⟨l, hl⟩
  have b := oppB_opp ⟨k, hk⟩
  simp only at a b
  unfold gkB uni ckB
  by_cases e1 : l = k
  · subst e1
    rw [if_pos (.inl (by omega)), if_neg (by omega)]
    simp
  · by_cases e2 : l = oppN k
    · have e3 : oppN l = k := by rw [e2, b]
      rw [if_pos (.inr (by omega)), if_neg (by omega), if_pos (by simp [e2])]
      have := hG l hl
      rw [e3] at this
      omega
    · have e3 : oppN l ≠ k := fun q => e2 (by rw [← q, a])
      have e : (l < k + 1 ∨ oppN l < k + 1) ↔ (l < k ∨ oppN l < k) := by omega
      have z : G k * (if (if l = oppN k then true else if l = k then true else false) = true then 1 else 0) = 0 := by simp [e1, e2]
      rw [z]
      by_cases c : l < k ∨ oppN l < k
      · rw [if_pos c, if_pos (e.2 c)]; omega
      · rw [if_neg c, if_neg (fun q => c (e.1 q))]; omega
theorem cv_ck {k : Nat} (hk : k < 16) : cvB 16 (ckB k) = true := by
  have key : ∀ k : Fin 16, cvB 16 (ckB k.val) = true := by decide
  exact key ⟨k, hk⟩
theorem beam_smul (c : Int) (f : Nat → Int) (k : Nat) : beam (fun l => c * f l) k = c * beam f k := by
  unfold beam
  rw [← sumN_mul']
  refine sumN_congr fun l _ => ?_
  simp only [tRe]
  rw [Int.mul_assoc]
theorem beam_next {G : Nat → Int} (hG : ∀ l, l < 16 → G l = G (oppN l)) {k : Nat} (hk : k < 16) (h : ¬ oppN k < k) (j : Nat) : beam (gkB G (k + 1)) j = beam (gkB G k) j + G k * beam (uni (ckB k)) j := by
  rw [← beam_smul, ← beam_add]
  exact beam_congr (fun l hl => gkB_step hG hl hk h) j
theorem beam_skip (G : Nat → Int) {k : Nat} (hk : k < 16) (h : oppN k < k) (j : Nat) : beam (gkB G (k + 1)) j = beam (gkB G k) j := beam_congr (fun _ hl => gkB_skip G hl hk h) j
theorem beam_start (G : Nat → Int) (j : Nat) : beam (gkB G 0) j = 0 := by
  rw [beam_congr (g := fun _ => 0) (fun l _ => gkB_zero G l) j]
  unfold beam
  rw [sumN_congr (g := fun _ => 0) (fun l _ => by simp [tRe])]
  exact sumN_zero 16
theorem beam_gk_bd {G : Nat → Int} (h : ∀ l, l < 16 → 0 ≤ G l ∧ G l ≤ 100) (k j : Nat) : -1600 ≤ beam (gkB G k) j ∧ beam (gkB G k) j ≤ 1600 := by
  have g : ∀ l, l < 16 → 0 ≤ gkB G k l ∧ gkB G k l ≤ 100 := fun l hl => by
    have := h l hl
    unfold gkB
    split <;> omega
  have h1 := beam_abs (fun k hk => (g k hk).1) j
  have h2 := sumN_bd (f := gkB G k) (M := 100) (n := 16) g 16 (by omega)
  omega
theorem mul_bd {a z : Int} (h0 : 0 ≤ a) (h1 : a ≤ 100) (z0 : -1600 ≤ z) (z1 : z ≤ 1600) : -160000 ≤ a * z ∧ a * z ≤ 160000 := by
  have p := Int.mul_le_mul_of_nonneg_left z1 h0
  have q := Int.mul_le_mul_of_nonneg_left z0 h0
  omega
set_option maxRecDepth 8000 in
set_option maxHeartbeats 8000000 in
theorem l_FnWeightBeamUniform (A : Option Addr) (n c : Nat) (f : Nat → Int) (w : World) (h0 : Rd w w.heap.size A n (fun k => .int .u8 (f k))) (hb : ∀ i, 0 ≤ f i ∧ f i ≤ 255) (hnc : n ≤ c) :
    Calls Try.prog 6 #[.slice A n c] w fun e w' => e = .returned (.bool true) ∧ Below w.heap.size w w' := by
  by_cases hn : n ≤ 1048576
  · go_enter Try.func6, Try.ntmps6
    go_wp2_with fail
    refine (c_DrawWeightBeam A n c f _ hn hnc ⟨h0, hb⟩).mono ?_
    rintro e w1 ⟨v, rfl, hd, hB⟩
    obtain ⟨A1, m, c1, G, rfl, hm, hd1⟩ := hd.open_
    clear hd h0 hb
    go_wp2_with fail
    refine (c_WeightBeam A1 m c1 G _ (by omega) hd1).mono ?_
    rintro e w2 ⟨A2, c2, rfl, hb2, hm2⟩
    go_wp2_with fail
    refine (c_sWeightBeam A1 m c1 G _ (by omega) (hd1.step hb2)).mono ?_
    rintro e w3 ⟨A3, c3, rfl, hb3, hm3⟩
    have hm2' := hm2.step hb3
    have B3 := below_seq (below_seq hB hb2) hb3
    have hd3 := (hd1.step hb2).step hb3
    have hl := len16_le (wvB m G)
    have he : eqN (len16 (wvB m G)) (len16 (wvB m G)) (beam G) (beam G) = true := eqN_good fun _ _ => rfl
    clear hm2 hd1 hB hb2 hb3
    by_cases hv : wvB m G = true
    · obtain ⟨hm16, hok⟩ := wvB_true hv
      subst hm16
      rw [hv] at hm2' hm3 hl he ⊢
      rw [show len16 true = 16 from rfl] at hm2' hm3 hl he ⊢
      go_wp2_with fail
      refine (c_sameInts _ _ _ _ _ _ (beam G) (beam G) _ hl hl hm2'.rd hm3.rd).mono ?_
      rintro e w4 ⟨rfl, m4, rfl⟩
      have hf : ∀ k, k < 16 → 0 ≤ G k ∧ G k ≤ 100 := fun k hk => ⟨(wok_bd (hok k hk)).1, (wok_bd (hok k hk)).2.1⟩
      have hsym : ∀ k, k < 16 → G k = G (oppN k) := fun k hk => (wok_bd (hok k hk)).2.2
      have P2 : Rd (w3.drewN m4) (w3.drewN m4).heap.size A2 16 (fun k => .int .i64 (beam G k)) := hm2'.rd
      have P1 : Rd (w3.drewN m4) (w3.drewN m4).heap.size A1 16 (fun k => .int .i64 (G k)) := hd3
      have B4 := below_drewN B3 m4
      have HF := Lib.hid hf
      have HS := Lib.hid hsym
      clear hm2' hm3 hd3 B3 hok hf hsym hv
      generalize w3.drewN m4 = w4 at P1 P2 B4 ⊢
      have hmk := mk_ints16
      go_wp2
      clear hmk
      obtain ⟨a1, rfl, ha1, hc1⟩ := P1 (by omega)
      have HC := Lib.hid hc1
      clear hc1 P1
      go_loopw [9] (fun i wr => ∃ k : Nat, k ≤ 16 ∧ i = .int .i64 k ∧ Below w4.heap.size w4 wr ∧ Row wr w4.heap.size 3 16 (fun j => .int .i64 (beam (gkB G k) j))) (fun i _ => 16 - (intOf i).toNat)
      case atStart => exact ⟨0, Nat.zero_le _, rfl, (Below.refl _ _).alloc (Nat.le_refl _) _, (Row.made w4 (.int .i64 0) 16 3).congr (fun j _ => by simp only [beam_start])⟩
      case round =>
        obtain ⟨k, hk, rfl, hbr, hR⟩ := hrel
        by_cases hlt : k < 16
        · have hz : (k : Int) < 16 := by omega
          have hz2 : ((oppN k : Nat) : Int) < 16 := by have := oppN_lt k; omega
          clear P2
          by_cases hlo : oppN k < k
          · have hlo' : ((oppN k : Nat) : Int) < (k : Int) := by omega
            have R' := hR.congr (f' := fun j => .int .i64 (beam (gkB G (k + 1)) j)) (fun j _ => by simp only [beam_skip G hlt hlo])
            clear hR
            go_wp2_with (go_at_call 27; refine (c_lcellB _ _ (oppN k) rfl _).mono ?_; rintro e w' ⟨rfl, rfl⟩)
            go_roundw
            case rel => exact ⟨k + 1, by omega, by go_num, hbr, R'⟩
            case measure => simp [intOf]; omega
          · have hlo' : (k : Int) ≤ ((oppN k : Nat) : Int) := by omega
            have HB := Lib.hid (beam_next HS.out hlt hlo)
            clear hlo
            have hmb := mk_bools16
            go_upto_region 15 with (go_at_call 27; refine (c_lcellB _ _ (oppN k) rfl _).mono ?_; rintro e w' ⟨rfl, rfl⟩)
            clear hmb
            have R0 := Row.made wr (.bool false) 16 4
            have B5 : Below wr.heap.size wr (wr.alloc (.cells (madeCells #[.bool false] 16) 4)) := (Below.refl _ _).alloc (Nat.le_refl _) _
            have R := hR.step B5
            have gne : wr.heap.size ≠ w4.heap.size := by have := hR.lt; omega
            have hgs := hbr.size
            have hbr := below_seq hbr B5
            clear B5 hR
            generalize wr.alloc (.cells (madeCells #[.bool false] 16) 4) = w5 at R0 R hbr ⊢
            generalize wr.heap.size = gc at R0 gne hgs ⊢
            have o1 := R0.cell hlt
            have o2 := R0.frozen k
            have R1 := R0.set k (.bool true)
            have o3 := R1.cell (oppN_lt k)
            have o4 := R1.frozen (oppN k)
            have R2 := (R1.set (oppN k) (.bool true)).congr (f' := fun j => .bool (ckB k j)) (fun j _ => by
              unfold ckB
              by_cases e1 : j = oppN k
              · simp [e1]
              · by_cases e2 : j = k
                · simp [e2]
                · simp [e1, e2])
            have hbr6 : Below w4.heap.size w4 ((w5.setCell ⟨gc, k, none⟩ (.bool true)).setCell ⟨gc, oppN k, none⟩ (.bool true)) := (hbr.setCell (p := ⟨gc, k, none⟩) hgs _).setCell (p := ⟨gc, oppN k, none⟩) hgs _
            have R6 := (R.far (p := ⟨gc, k, none⟩) (fun e => gne e.symm) (.bool true)).far (p := ⟨gc, oppN k, none⟩) (fun e => gne e.symm) (.bool true)
            have lt0 := R0.lt
            clear R0 R1 R
            go_wp2_with fail
            clear o1 o2 o3 o4
            generalize (w5.setCell ⟨gc, k, none⟩ (.bool true)).setCell ⟨gc, oppN k, none⟩ (.bool true) = w6 at R2 R6 hbr6 ⊢
            have C := c_BeamOf (some ⟨gc, 0, none⟩) 16 16 (ckB k) w6 (by omega) (R2.rd R2.lt)
            rw [cv_ck hlt, show len16 true = 16 from rfl] at C
            refine C.mono ?_
            rintro e w7 ⟨A7, c7, rfl, b7, M7⟩
            have R7 := R6.step b7
            have hbr7 := below_seq hbr6 b7
            obtain ⟨g7, rfl, hg7, Rb⟩ := M7 (by omega)
            have g7ne : g7 ≠ w4.heap.size := by have := R6.lt; omega
            clear C M7 b7 R6 R2 hbr6 lt0 hbr
            go_wp2
            go_loopw [14] (fun i wi => ∃ j : Nat, j ≤ 16 ∧ i = .int .i64 j ∧ Below w4.heap.size w4 wi ∧ Row wi w4.heap.size 3 16 (fun m => .int .i64 (if m < j then beam (gkB G (k + 1)) m else beam (gkB G k) m)) ∧ Row wi g7 3 16 (fun m => .int .i64 (beam (uni (ckB k)) m))) (fun i _ => 16 - (intOf i).toNat)
            case atStart => exact ⟨0, Nat.zero_le _, rfl, hbr7, R7.congr (fun m _ => by simp), Rb⟩
            case round =>
              obtain ⟨j, hj, rfl, hbi, Rs, Rb⟩ := hrel
              clear R7 hbr7
              by_cases hjt : j < 16
              · have hzj : (j : Int) < 16 := by omega
                have q1 : wr.cell? ⟨w4.heap.size, j, none⟩ = some (.int .i64 (beam (gkB G k) j)) := by rw [Rs.cell hjt]; simp
                have q1f := Rs.frozen j
                have q2 : wr.cell? (a1.add k) = some (.int .i64 (G k)) := (hbi.cell (by rw [block_add]; exact ha1)).trans (HC.out k hlt)
                have q3 : wr.cell? ⟨g7, j, none⟩ = some (.int .i64 (beam (uni (ckB k)) j)) := Rb.cell hjt
                have y1 := beam_gk_bd HF.out k j
                have y2 := beam_uni_bd (ckB k) j
                have y3 := HF.out k hlt
                have y4 := mul_bd y3.1 y3.2 y2.1 y2.2
                have Rs' := (Rs.set j (.int .i64 (beam (gkB G k) j + G k * beam (uni (ckB k)) j))).congr (f' := fun m => .int .i64 (if m < j + 1 then beam (gkB G (k + 1)) m else beam (gkB G k) m)) (fun m _ => by
                  by_cases e : m = j
                  · subst e; simp [HB.out m]
                  · rw [if_neg e]; by_cases h : m < j
                    · rw [if_pos h, if_pos (by omega)]
                    · rw [if_neg h, if_neg (by omega)])
                have Rb' := Rb.far (p := ⟨w4.heap.size, j, none⟩) g7ne (.int .i64 (beam (gkB G k) j + G k * beam (uni (ckB k)) j))
                have hbi' : Below w4.heap.size w4 (wr.setCell ⟨w4.heap.size, j, none⟩ (.int .i64 (beam (gkB G k) j + G k * beam (uni (ckB k)) j))) := hbi.setCell (p := ⟨w4.heap.size, j, none⟩) (Nat.le_refl _) _
                obtain ⟨s, hs⟩ : ∃ s, beam (gkB G k) j = s := ⟨_, rfl⟩
                obtain ⟨z, hzz⟩ : ∃ z, beam (uni (ckB k)) j = z := ⟨_, rfl⟩
                obtain ⟨a, haa⟩ : ∃ a, G k = a := ⟨_, rfl⟩
                rw [hs, haa, hzz] at Rs' Rb' hbi'
                rw [hs] at q1 y1
                rw [haa] at q2
                rw [hzz] at q3
                rw [haa, hzz] at y4
                have o1 : IntKind.i64.wrap (a * z) = a * z := IntWalk.i64_in _ (by omega)
                have o2 : IntKind.i64.wrap (s + a * z) = s + a * z := IntWalk.i64_in _ (by omega)
                have RS := Lib.hid Rs'
                have RB := Lib.hid Rb'
                have BI := Lib.hid hbi'
                clear hs hzz haa Rs' Rb' hbi' Rs Rb hbi HC HB y1 y2 y3 y4
                go_wp2
                go_region
                go_wp2
                go_roundw
                case rel => exact ⟨j + 1, by omega, by go_num, ⟨BI.out.os, BI.out.tape, BI.out.output, BI.out.size, BI.out.block⟩, RS.out, RB.out⟩
                case measure => simp [intOf]; omega
              · obtain rfl : j = 16 := by omega
                have R' := Rs.congr (f' := fun m => .int .i64 (beam (gkB G (k + 1)) m)) (fun m hm => by rw [if_pos hm])
                clear Rs Rb HC HB
                go_wp2
                go_roundw
                case rel => exact ⟨k + 1, by omega, by go_num, hbi, R'⟩
                case measure => simp [intOf]; omega
        · obtain rfl : k = 16 := by omega
          have R := hR.congr (f' := fun j => .int .i64 (beam G j)) (fun j _ => by rw [beam_congr (fun l hl => gkB_all G hl) j])
          have C := c_sameInts _ _ 16 16 16 c2 (beam G) (beam G) wr (by omega) (by omega) (R.rd R.lt) (P2.step hbr)
          rw [eqN_good fun _ _ => rfl] at C
          clear hR
          go_wp2_with fail
          refine C.mono ?_
          rintro e w' ⟨rfl, m9, rfl⟩
          have B9 := below_drewN (below_seq B4 hbr) m9
          clear C R
          go_wp2
          go_ret
          exact ⟨rfl, B9⟩
    · have hv' : wvB m G = false := by simpa using hv
      clear hv
      rw [hv'] at hm2' hm3 hl he ⊢
      go_wp2_with fail
      refine (c_sameInts _ _ _ _ _ _ (beam G) (beam G) _ hl hl hm2'.rd hm3.rd).mono ?_
      rintro e w4 ⟨rfl, m4, rfl⟩
      have r2 : Rd (w3.drewN m4) (w3.drewN m4).heap.size A2 _ _ := hm2'.rd
      have r3 : Rd (w3.drewN m4) (w3.drewN m4).heap.size A3 _ _ := hm3.rd
      go_wp2_with fail
      refine (c_sameInts _ _ _ _ _ _ (beam G) (beam G) _ hl hl r2 r3).mono ?_
      rintro e w5 ⟨rfl, m5, rfl⟩
      go_wp2
      go_ret
      exact ⟨rfl, by rw [← World.drewN_drewN]; exact below_drewN (below_drewN B3 m4) m5⟩
  · go_enter Try.func6, Try.ntmps6
    go_wp2
    go_ret
    exact ⟨rfl, Below.refl _ _⟩
end Go.Proofs.Ytbnfnloaomjjbaa
