/-
  The law on fits of fringes with one wrong quarter phase.
-/
import Derived.Test.YtpanefjjghlhiaaFrDraw
import Derived.Test.YtpanefjjghlhiaaFrRows
import Derived.Test.YtpanefjjghlhiaaFrL3
import Derived.Test.YtpanefjjghlhiaaFrDrawF
namespace Go.Proofs.Ytpanefjjghlhiaa
open Go.RowKit

set_option maxRecDepth 100000 in
set_option maxHeartbeats 4000000 in
theorem l_FnFringeFitWrong (A : Option Addr) (n c : Nat) (f : Nat → Int) (A' : Option Addr) (n' c' : Nat) (f' : Nat → Int) (w : World) (h0 : Rd w w.heap.size A n (fun k => .int .u8 (f k))) (hb : ∀ i, 0 ≤ f i ∧ f i ≤ 255) (hnc : n ≤ c) (_h0' : Rd w w.heap.size A' n' (fun k => .int .u8 (f' k))) (_hb' : ∀ i, 0 ≤ f' i ∧ f' i ≤ 255) (_hnc' : n' ≤ c') :
    Calls Try.prog 4 #[.slice A n c, .slice A' n' c'] w fun e w' => e = .returned (.bool true) ∧ Below w.heap.size w w' := by
  clear _h0' _hb' _hnc'
  by_cases hn : n ≤ 1048576
  · by_cases hn' : n' ≤ 1048576
    · have h : Code8 w w.heap.size A n f := ⟨h0, hb⟩
      clear h0 hb
      go_enter Try.func4, Try.ntmps4
      go_wp2_with fail
      refine (c_DrawFringeOf A n c f _ hn hnc h).mono ?_
      rintro e w1 ⟨d, r, q, ch, ti, ⟨hd1, hd2⟩, ⟨hr1, hr2⟩, ⟨hq1, hq2⟩, ⟨hc1, hc2⟩, ⟨ht1, ht2⟩, rfl, B1⟩
      clear h
      by_cases ok : frOk d r q ch ti = true
      · obtain ⟨hq3, ⟨hch, hch'⟩, hti, hti'⟩ := frOk_true ok
        obtain ⟨N, rfl⟩ : ∃ N : Nat, ch = N := ⟨ch.toNat, by omega⟩
        obtain ⟨l, rfl⟩ : ∃ l : Nat, ti = l := ⟨ti.toNat, by omega⟩
        have hv : fvB N (fun _ => l) (frF d r q) = true := fvB_mk ⟨by omega, by omega⟩ ⟨by omega, by omega⟩ (fun _ _ => ⟨rfl, fun i _ => frF_bd d r q _ i⟩)
        obtain ⟨⟨D1, D2⟩, _⟩ := q3_true hq3
        have he := eqR_refl N (fun _ => l) (frF d r q)
        have HV := Lib.hid hv
        have HQ := Lib.hid hq3
        have HL : Hid (∀ k, k < N → (fun _ : Nat => l) k ≤ 1048576) := Lib.hid fun _ _ => by show l ≤ 1048576; omega
        clear ok hv hq3
        go_wp2_with fail
        refine (c_FringeOf_yes d r q N l _ HQ.out (by omega) (by omega) (by omega) (by omega)).mono ?_
        rintro e w2 ⟨a2, c2, V2, rfl, b2, M2⟩
        go_wp2_with fail
        refine (c_sFringeOf_yes d r q N l _ HQ.out (by omega) (by omega) (by omega) (by omega)).mono ?_
        rintro e w3 ⟨a3, c3, V3, rfl, b3, M3⟩
        have R3 := M2.rd.step b3
        have R3' := M3.rd
        have B3 := below_seq (below_seq B1 b2) b3
        clear M2 M3 b2 b3 B1
        go_wp2_with fail
        refine (c_sameRows _ _ N N _ _ V2 V3 _ _ (frF d r q) (frF d r q) _ (by omega) (by omega) HL.out HL.out R3 R3').mono ?_
        rintro e w4' ⟨rfl, m4, rfl⟩
        have R4 : RdR (w3.drewN m4) (w3.drewN m4).heap.size a2 N V2 (fun _ => l) (frF d r q) := R3.drewN m4
        have B4 := below_drewN B3 m4
        clear R3 R3' B3
        generalize w3.drewN m4 = w4 at R4 B4 ⊢
        by_cases k4 : 4 ≤ N ∧ 4 ≤ l
        · obtain ⟨k1, k2⟩ := k4
          obtain ⟨c0, ec, hc0⟩ : ∃ c0 : Nat, n' % N = c0 ∧ c0 < N := ⟨_, rfl, Nat.mod_lt _ (by omega)⟩
          obtain ⟨qq, eq, hqq⟩ : ∃ qq : Nat, n' / N = qq ∧ qq ≤ n' := ⟨_, rfl, Nat.div_le_self _ _⟩
          obtain ⟨t0, et, ht0⟩ : ∃ t0 : Nat, qq % l = t0 ∧ t0 < l := ⟨_, rfl, Nat.mod_lt _ (by omega)⟩
          have ec1 : (n' : Int) % (N : Int) = (c0 : Int) := by rw [← ec]; simp
          have eq1 : (n' : Int) / (N : Int) = (qq : Int) := by rw [← eq]; simp
          have et1 : (qq : Int) % (l : Int) = (t0 : Int) := by rw [← et]; simp
          clear ec eq et
          obtain ⟨m3, e3, h3⟩ : ∃ m3 : Nat, (n' : Int) % 3 = (m3 : Int) ∧ m3 < 3 := ⟨n' % 3, by omega, by omega⟩
          have EC := Lib.hid ec1
          have EQ := Lib.hid eq1
          have ET := Lib.hid et1
          have E3 := Lib.hid e3
          clear ec1 eq1 et1 e3
          go_wp2
          go_loopw [14, 15] (fun vo i wr => ∃ k : Nat, k ≤ N ∧ i = .int .i64 k ∧ SfSt w4 k l (frF d r q) vo wr) (fun _ i _ => N - (intOf i).toNat)
          case atStart => exact ⟨0, Nat.zero_le _, rfl, SfSt.start (Below.refl _ _) _ _⟩
          case round =>
            obtain ⟨k, hk, rfl, S⟩ := hrel
            by_cases hlt : k < N
            · obtain ⟨ad, Ar, cr, rfl, hab, _, hk1, hA⟩ := R4.cell hlt
              obtain ⟨V, hB, o1, o2⟩ := S
              have hsz := hB.size
              obtain ⟨ad2, rfl, hab2, _⟩ := hA.at_ (k := 0) (by omega)
              have hk2 : (wr.alloc (.cells #[] 3)).cell? (ad.add k) = some (.slice (some ad2) l cr) := ((hB.alloc hsz _).cell (by rw [block_add]; exact hab)).trans hk1
              have hA2 := hA.below (hB.alloc hsz (.cells #[] 3))
              have h0o := Own.empty wr 3 (fun _ => .int .i64 0) (Nat.le_refl wr.heap.size)
              clear hk1 hA R4
              have hbb0 : Below wr.heap.size wr (wr.alloc (.cells #[] 3)) := (Below.refl _ _).alloc (Nat.le_refl _) _
              go_wp2_with (first | (at_builtin; refine wpList_appM _ rfl _ _ 26 rfl wr.heap.size 3 (.int .i64 0) 8 Try.underlying26 info_int rfl (by omega) (.slice (some ⟨wr.heap.size, 0, none⟩) 0 0) 0 _ (fun i => .int .i64 (frF d r q k i)) (by rfl) h0o ad2 l cr w4.heap.size (by rfl) hA2 (fun _ _ => rfl) (by omega) (by simp) ?_; intro v1 w5 hown1 hb1 hg1 hat1; have hown2 : Own w5 wr.heap.size 3 v1 l (fun i => .int .i64 (frF d r q k i)) := by { have h9 := hown1; rw [Nat.zero_add] at h9; exact h9.congr fun i _ => by simp [joinF] }; obtain ⟨A1, c1, rfl⟩ := hown2.slice; have hbb := hbb0.trans hb1; have o1' := o1.step hbb; have o5 : Own w5 w4.heap.size 26 u14 k (fun r => if r = k then .slice A1 l c1 else V r) := o1'.congr fun r hr => by { rw [if_neg (by omega)] }; have hs5 : w4.heap.size ≤ w5.heap.size := Nat.le_trans hsz hbb.size) | (at_builtin; refine wpList_app1at w5 (.slice A1 l c1) rfl _ _ 23 rfl w4.heap.size 26 (.slice none 0 0) 24 Try.underlying23 info_ints rfl (by omega) _ k (fun r => if r = k then .slice A1 l c1 else V r) (by rfl) (by exact o5) (by rfl) (by simp) rfl (by omega) hs5 ?_; intro v' w6 hown' hb6 hg6 hat6))
              go_roundw
              case rel => exact ⟨k + 1, by omega, by go_num, SfIn.push (hB.trans (hbb.mono hsz)) o1' (o2.step hbb) (hown2.less hsz) (fun r hr b hb e => by have h7 := (o2.row r hr).lt hb; have h8 := (hown2.block e).1; omega) hb6 hg6 hown'⟩
              case measure => simp [intOf]; omega
            · obtain rfl : k = N := by omega
              obtain ⟨V, hB, o1, o2⟩ := S
              obtain ⟨gx, cx, rfl, hgx, _⟩ := o1.form (by omega)
              have Rx := o1.row_ rfl (by omega)
              obtain ⟨b, cb, eV, hb, _⟩ := (o2.row c0 hc0).form (by omega)
              have Rb := (o2.row c0 hc0).row_ eV (by omega)
              have d1 : wr.cell? ⟨gx, c0, none⟩ = some (.slice (some ⟨b, 0, none⟩) l cb) := by rw [Rx.cell hc0, eV]
              have d2 : wr.cell? ⟨b, t0, none⟩ = some (.int .i64 (frF d r q c0 t0)) := Rb.cell ht0
              have d3 : wr.frozen? ⟨b, t0, none⟩ = false := Rb.frozen t0
              have hbf : gx ≠ b := Rx.ne Rb (by decide)
              have ic : (c0 : Int) < (k : Int) := by omega
              have it : (t0 : Int) < (l : Int) := by omega
              have ec1 := EC.out
              have eq1 := EQ.out
              have et1 := ET.out
              have HEV := Lib.hid eV
              clear eV EC EQ ET R4
              go_wp2
              rw [ec1, et1]
              clear ec1 eq1 et1
              have fb := frF_bd d r q c0 t0
              obtain ⟨fb1, fb2⟩ := fb
              have e3 := E3.out
              go_region
              go_outline
              obtain ⟨x, hx⟩ : ∃ x, (frF d r q c0 t0 + 1 + (m3 : Int)) % 4 = x := ⟨_, rfl⟩
              have x0 : 0 ≤ x ∧ x ≤ 3 := by omega
              rw [hx]
              clear hx e3 E3
              have B6 : Below w4.heap.size w4 (wr.setCell ⟨b, t0, none⟩ (.int .i64 x)).drew := by
                have h9 := hB.setCell (p := ⟨b, t0, none⟩) hb (.int .i64 x)
                exact ⟨h9.os, h9.tape, h9.output, h9.size, h9.block⟩
              have O1 : Own (wr.setCell ⟨b, t0, none⟩ (.int .i64 x)) w4.heap.size 26 (.slice (some ⟨gx, 0, none⟩) k cx) k V := o1.keep fun g hg => Below.heap_setCell wr ⟨b, t0, none⟩ (.int .i64 x) g (fun e => by
                have e1 : gx = g := by simpa [Value.ownBlock] using hg
                exact hbf (e1.trans e))
              have O2 := o2.set (i := t0) hc0 HEV.out x
              have S : SfSt w4 k l (onF (frF d r q) c0 t0 x) (.slice (some ⟨gx, 0, none⟩) k cx) (wr.setCell ⟨b, t0, none⟩ (.int .i64 x)).drew := ⟨V, B6, O1.drewN 1, O2.drew⟩
              clear O1 O2 o1 o2 d1 d2 d3 Rx Rb HEV
              generalize (wr.setCell ⟨b, t0, none⟩ (.int .i64 x)).drew = w6 at B6 S ⊢
              obtain ⟨ax, cx', V', ea, -, MX⟩ := S.made
              injection ea with ea1 ea2 ea3
              subst ea1
              subst ea3
              have RX := MX.rd
              have hvx : fvB k (fun _ => l) (onF (frF d r q) c0 t0 x) = true := fvB_mk ⟨by omega, by omega⟩ ⟨by omega, by omega⟩ (fun c _ => ⟨rfl, fun i _ => by
                unfold onF
                split
                · split
                  · exact x0
                  · exact frF_bd d r q _ i
                · exact frF_bd d r q _ i⟩)
              have C := c_FringeFit_yes (some ⟨gx, 0, none⟩) k l cx V' (fun _ => l) (onF (frF d r q) c0 t0 x) w6 RX hvx rfl
              obtain ⟨r1, r2, r3⟩ := fit_wrong (x := x) (c0 := c0) (t0 := t0) HQ.out k1 k2
              rw [r1, r2, r3] at C
              clear S MX RX hvx r1 r2 r3 HV
              go_wp2_with fail
              refine C.mono ?_
              rintro e w7 ⟨rfl, b7⟩
              have B7 := below_seq (below_seq B4 B6) b7
              clear C
              go_wp2
              go_ret
              exact ⟨rfl, B7⟩
        · have CV := Lib.hid (c_FringeValid a2 N c2 V2 (fun _ => l) (frF d r q) w4 (by omega) R4)
          have hv' := HV.out
          clear R4
          by_cases k1 : N < 4
          · clear k4
            go_wp2_with (go_at_call 6; refine CV.out.mono ?_; rintro e w' ⟨rfl, rfl⟩)
            go_ret
            exact ⟨rfl, B4⟩
          · have k2 : l < 4 := by omega
            clear k4
            go_wp2_with (go_at_call 6; refine CV.out.mono ?_; rintro e w' ⟨rfl, rfl⟩)
            go_ret
            exact ⟨rfl, B4⟩
      · have ok' : frOk d r q ch ti = false := by simpa using ok
        have C1 := Lib.hid (fun w => c_FringeOf_bad d r q ch ti w ok')
        have C2 := Lib.hid (fun w => c_sFringeOf_bad d r q ch ti w ok')
        have he := eqR_refl 0 (fun _ => 0) (fun _ _ => 0)
        clear ok ok'
        go_wp2_with fail
        refine (C1.out _).mono ?_
        rintro e w2 ⟨a2, c2, rfl, b2⟩
        go_wp2_with fail
        refine (C2.out _).mono ?_
        rintro e w3 ⟨a3, c3, rfl, b3⟩
        have B3 := below_seq (below_seq B1 b2) b3
        clear b2 b3 B1
        go_wp2_with (go_at_call 11; refine (c_sameRows0 _ _ _ _ _).mono ?_; rintro e w' ⟨rfl, m, rfl⟩)
        go_ret
        exact ⟨rfl, by first | exact below_drewN B3 _ | (rw [← World.drewN_drewN]; exact below_drewN (below_drewN B3 _) _)⟩
    · go_enter Try.func4, Try.ntmps4
      go_wp2
      go_ret
      exact ⟨rfl, Below.refl _ _⟩
  · go_enter Try.func4, Try.ntmps4
    go_wp2
    go_ret
    exact ⟨rfl, Below.refl _ _⟩
end Go.Proofs.Ytpanefjjghlhiaa
