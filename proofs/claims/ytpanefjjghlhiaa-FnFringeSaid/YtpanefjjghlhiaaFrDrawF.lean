/-
  Drawn fringes.
-/
import Derived.Test.YtpanefjjghlhiaaFrDraw
import Derived.Test.YtpanefjjghlhiaaAppM
import Derived.Test.YtpanefjjghlhiaaAppS
namespace Go.Proofs.Ytpanefjjghlhiaa
open Go.RowKit

theorem Own.row_ {w : World} {B n b c : Nat} {t : TypeId} {v : Value} {f : Nat → Value} (h : Own w B t v n f) (hv : v = .slice (some ⟨b, 0, none⟩) n c) (hn : 0 < n) : Row w b t n f := by
  obtain ⟨A', c', e, M⟩ := h.made
  obtain ⟨g', e2, _, R⟩ := M hn
  rw [hv, e2] at e
  obtain rfl : b = g' := by injection e with e; injection e with e; injection e
  exact R
section
variable {w w' : World} {B n g : Nat} {t : TypeId} {v : Value} {f : Nat → Value} {V : Nat → Value} {L : Nat → Nat} {F : Nat → Nat → Int}
theorem Own.grow (h : Own w B t v n f) (hg : Grow g w w') (hB : g < B) : Own w' B t v n f := h.keep fun k hk => hg.block k (h.lt hk) (by have := (h.block hk).1; omega)
theorem OwnRs.grow_ (h : OwnRs w B t n V L F) (hg : Grow g w w') (hB : g < B) : OwnRs w' B t n V L F := h.keep fun r hr k hk => hg.block k ((h.row r hr).lt hk) (by have := ((h.row r hr).block hk).1; omega)
end

/-- Drawn lists of lists: of the call's own, few and short. -/
def DrawnF (B : Nat) (v : Value) (w' : World) : Prop :=
  ∃ (n : Nat) (V : Nat → Value) (L : Nat → Nat) (F : Nat → Nat → Int), n ≤ 6 ∧ (∀ r, r < n → L r ≤ 8) ∧ Own w' B 26 v n V ∧ OwnRs w' B 3 n V L F

/-- The lists while numbers are put in. -/
def LfSt (w : World) (B g p n l : Nat) (vo : Value) (V : Nat → Value) (wr : World) : Prop :=
  ∃ (p1 : Nat) (F : Nat → Nat → Int), p1 ≤ p ∧ Rdr wr g p1 ∧ Grow g w wr ∧ Own wr B 26 vo n V ∧ OwnRs wr B 3 n V (fun _ => l) F
set_option maxHeartbeats 3000000 in
theorem c_l93Fringe (g p : Nat) (w : World) (h : Rdr w g p) (hp : p ≤ 1000) :
    Calls Try.prog 14 #[.pointer (some ⟨g, 0, none⟩)] w (Draws DrawnF w g p) := by
  have hg := h.lt
  go_enter Try.func14, Try.ntmps14
  go_wp2_with fail
  refine (c_pick g p 4 _ h (by omega) (by omega) (by omega)).mono ?_
  rintro e w1 ⟨x1, hx1, rfl, r1, o1⟩
  go_wp2_with fail
  refine (c_pick g (p + 1) 4 _ r1 (by omega) (by omega) (by omega)).mono ?_
  rintro e w2 ⟨x2, hx2, rfl, r2, o2⟩
  go_wp2_with fail
  refine (c_pick g (p + 1 + 1) 4 _ r2 (by omega) (by omega) (by omega)).mono ?_
  rintro e w3 ⟨x3, hx3, rfl, r3, o3⟩
  go_wp2_with fail
  refine (c_pick g (p + 1 + 1 + 1) 6 _ r3 (by omega) (by omega) (by omega)).mono ?_
  rintro e w4 ⟨x4, hx4, rfl, r4, o4⟩
  go_wp2_with fail
  refine (c_pick g (p + 1 + 1 + 1 + 1) 6 _ r4 (by omega) (by omega) (by omega)).mono ?_
  rintro e w5 ⟨x5, hx5, rfl, r5, o5⟩
  have G5 : Grow g w w5 := (((((Grow.refl g w).only o1).only o2).only o3).only o4).only o5
  have hs5 := G5.size
  clear o1 o2 o3 o4 o5 r1 r2 r3 r4 h
  obtain ⟨n, en⟩ : ∃ n : Nat, (1 : Int) + (x4 : Int) = (n : Int) := ⟨1 + x4, by omega⟩
  obtain ⟨l, el⟩ : ∃ l : Nat, (1 : Int) + (x5 : Int) = (l : Int) := ⟨1 + x5, by omega⟩
  have n1 : 1 ≤ n := by omega
  have n6 : n ≤ 6 := by omega
  have l1 : 1 ≤ l := by omega
  have l6 : l ≤ 6 := by omega
  go_wp2_with fail
  clear en el
  refine (c_sFringeOf_st x1 x2 x3 n l _ (q3_mk (by omega) (by omega) (by omega)) n1 (by omega) l1 (by omega)).mono ?_
  rintro e w6 ⟨vo, rfl, V, b6, O6, S6⟩
  have r6 := r5.step b6
  have G6 := G5.seq b6
  have O6' := O6.less hs5
  have S6' : OwnRs w6 w.heap.size 3 n V (fun _ => l) (frF x1 x2 x3) := ⟨fun r hr => (S6.row r hr).less hs5, S6.apart⟩
  clear O6 S6 b6 G5 r5
  obtain ⟨gf, cf, rfl, hgf, _⟩ := O6'.form (by omega)
  have hne : g ≠ gf := by omega
  go_wp2_with fail
  refine (c_pick g (p + 1 + 1 + 1 + 1 + 1) 4 _ r6 (by omega) (by omega) (by omega)).mono ?_
  rintro e w7 ⟨x7, hx7, rfl, r7, o7⟩
  have S7 : LfSt w w.heap.size g (p + 6) n l (.slice (some ⟨gf, 0, none⟩) n cf) V w7 := ⟨_, frF x1 x2 x3, by omega, r7, G6.only o7, O6'.grow (Grow.of_only o7) hg, S6'.grow_ (Grow.of_only o7) hg⟩
  clear r7 o7 O6' S6' G6 r6
  go_wp2
  go_loopw [6] (fun i wr => ∃ k : Nat, k ≤ x7 ∧ i = .int .i64 k ∧ LfSt w w.heap.size g (p + 6 + 3 * k) n l (.slice (some ⟨gf, 0, none⟩) n cf) V wr) (fun i _ => x7 - (intOf i).toNat)
  case atStart => exact ⟨0, Nat.zero_le _, rfl, S7⟩
  case round =>
    obtain ⟨k, hk, rfl, p1, F, hp1, r8, G8, O8, S8⟩ := hrel
    clear S7
    by_cases hlt : k < x7
    · go_wp2_with fail
      refine (c_pick g p1 n _ r8 (by omega) n1 (by omega)).mono ?_
      rintro e w9 ⟨y, hy, rfl, r9, o9⟩
      have G9 := G8.only o9
      have O9 := O8.grow (Grow.of_only o9) hg
      have S9 := S8.grow_ (Grow.of_only o9) hg
      clear r8 o9 G8 O8 S8
      obtain ⟨b, cb, eV, hb, _⟩ := (S9.row y hy).form (by omega)
      have R9 := O9.row_ rfl (by omega)
      have c9 : w9.cell? ⟨gf, y, none⟩ = some (.slice (some ⟨b, 0, none⟩) l cb) := by rw [R9.cell hy, eV]
      have Rb := (S9.row y hy).row_ eV (by omega)
      have hneb : g ≠ b := by omega
      have hbf : gf ≠ b := R9.ne Rb (by decide)
      have HV := Lib.hid eV
      clear eV
      have iy : (y : Int) < (n : Int) := by omega
      go_wp2
      go_region_held3 (fun w' => w'.cell? ⟨gf, y, none⟩ = some (.slice (some ⟨b, 0, none⟩) l cb)) (first | exact c9 | exact c10 | exact c11 | (rw [World.cell?_setCell_other _ _ _ _ (fun e => by { have := congrArg Addr.block e; simp at this; omega })]; exact c11) | go_keep) (first | (go_at_call 15; (with_reducible refine (c_pick g (p1 + 1) l _ (by first | exact r9 | exact r9.drew) (by omega) l1 (by omega)).mono ?_); rintro e w10 ⟨z, hz, rfl, r10, o10⟩; have c10 : w10.cell? ⟨gf, y, none⟩ = some (.slice (some ⟨b, 0, none⟩) l cb) := by { rw [(R9.drew.only o10 (ne_some hne)).cell hy, HV.out] }) | (go_at_call 15; refine (c_pick g (p1 + 1 + 1) 4 _ r10 (by omega) (by omega) (by omega)).mono ?_; rintro e w11 ⟨u, hu, rfl, r11, o11⟩; have c11 : w11.cell? ⟨gf, y, none⟩ = some (.slice (some ⟨b, 0, none⟩) l cb) := by { rw [((R9.drew.only o10 (ne_some hne)).only o11 (ne_some hne)).cell hy, HV.out] }; have Rb1 := (Rb.drew.only o10 (ne_some hneb)).only o11 (ne_some hneb); have d1 : w11.cell? ⟨b, z, none⟩ = some (.int .i64 (F y z)) := Rb1.cell hz; have d2 : w11.frozen? ⟨b, z, none⟩ = false := Rb1.frozen z; have iz : (z : Int) < (l : Int) := by { omega }))
      go_wp2
      go_roundw
      case rel => exact ⟨k + 1, by omega, by go_num, p1 + 1 + 1 + 1, onF F y z u, by omega, (r11.set (by show g < b; omega) _), ((((G9.drew).only o10).only o11).set hb _), (((O9.drew.grow (Grow.of_only o10) hg).grow (Grow.of_only o11) hg).keep fun k0 hk0 => Below.heap_setCell w11 ⟨b, z, none⟩ _ k0 (by show k0 ≠ b; have : gf = k0 := by { simpa [Value.ownBlock] using hk0 }; omega)), ((S9.drew.grow_ (Grow.of_only o10) hg).grow_ (Grow.of_only o11) hg).set hy HV.out _⟩
      case measure => simp [intOf]; omega
    · go_wp2_with fail
      refine (c_pick g p1 40 _ r8 (by omega) (by omega) (by omega)).mono ?_
      rintro e w9 ⟨y, hy, rfl, r9, o9⟩
      have G9 := G8.only o9
      have O9 := O8.grow (Grow.of_only o9) hg
      have S9 := S8.grow_ (Grow.of_only o9) hg
      clear r8 o9 G8 O8 S8
      obtain ⟨b, cb, eV, hb, hb2⟩ := (S9.row 0 (by omega)).form (by omega)
      have R9 := O9.row_ rfl (by omega)
      have Rb := (S9.row 0 (by omega)).row_ eV (by omega)
      have c9 : w9.cell? ⟨gf, 0, none⟩ = some (.slice (some ⟨b, 0, none⟩) l cb) := by rw [R9.cell (by omega), eV]
      have hbf : gf ≠ b := R9.ne Rb (by decide)
      have n0 : (0 : Int) < (n : Int) := by omega
      have l0 : (0 : Int) < (l : Int) := by omega
      have n0' : 0 < n := by omega
      have l0' : 0 < l := by omega
      have HV := Lib.hid eV
      clear eV
      by_cases y0 : y = 0
      · subst y0
        have d1 : w9.cell? ⟨b, 0, none⟩ = some (.int .i64 (F 0 0)) := Rb.cell (by omega)
        have d2 : w9.frozen? ⟨b, 0, none⟩ = false := Rb.frozen 0
        go_wp2
        go_ret
        exact ⟨_, p1 + 1, rfl, ⟨n, V, fun _ => l, onF F 0 0 4, n6, fun _ _ => by show l ≤ 8; omega, O9.keep fun k0 hk0 => Below.heap_setCell w9 ⟨b, 0, none⟩ _ k0 (by show k0 ≠ b; have : gf = k0 := by { simpa [Value.ownBlock] using hk0 }; omega), S9.set (by omega) HV.out _⟩, r9.set (by show g < b; omega) _, by omega, G9.set hb _⟩
      · have z0 : ((y : Int) == 0) = false := by simpa using (by omega : (y : Int) ≠ 0)
        by_cases y1 : y = 1
        · subst y1
          have Rn : Row (w9.alloc (.cells #[.int .i64 0, .int .i64 1] 3)) w9.heap.size 3 2 (fun i => .int .i64 (if i = 0 then 0 else 1)) := ⟨_, heap_alloc_new w9 _, fun i hi => by
            match i, hi with
            | 0, _ => rfl
            | 1, _ => rfl⟩
          have Og := (S9.row 0 (by omega)).alloc (.cells #[.int .i64 0, .int .i64 1] 3)
          rw [HV.out] at Og
          have hs9 := G9.size
          go_wp2_with (at_builtin; refine wpList_appM _ rfl _ _ 26 rfl w.heap.size 3 (.int .i64 0) 8 Try.underlying26 info_int rfl (by omega) (.slice (some ⟨b, 0, none⟩) l cb) l _ (fun i => .int .i64 (if i = 0 then 0 else 1)) (by rfl) (by exact Og) ⟨w9.heap.size, 0, none⟩ 2 2 (w9.heap.size + 1) (by rfl) (Rn.rd (by omega)) (fun _ _ => rfl) (by omega) (by simp; omega) ?_; intro v' w10 hown' hb1 hg1 hat1; obtain ⟨A', c', rfl⟩ := hown'.slice; have R10 : Row w10 gf 26 n V := (R9.alloc _).of_block (hg1.block gf (R9.alloc _).lt (by simpa [Value.ownBlock] using hbf)); have a2 : w10.cell? ⟨gf, 0, none⟩ = some (V 0) := R10.cell (by omega); have a3 : w10.frozen? ⟨gf, 0, none⟩ = false := R10.frozen 0)
          go_ret
          have e0 : (V 0).ownBlock = (Value.slice (some ⟨b, 0, none⟩) l cb).ownBlock := by rw [HV.out]
          have hg2 : (w9.alloc (.cells #[.int .i64 0, .int .i64 1] 3)).grownBy w10 (V 0).ownBlock := by rw [e0]; exact hg1
          have hown2 : Own w10 w.heap.size 3 (.slice A' (l + 2) c') (l + 2) (fun i => .int .i64 (if i < l then F 0 i else if i - l = 0 then 0 else 1)) := hown'.congr fun i _ => by
            unfold joinF
            by_cases h1 : i < l
            · rw [if_pos h1, if_pos h1]
            · rw [if_neg h1, if_neg h1]
          have S10 := (S9.alloc (.cells #[.int .i64 0, .int .i64 1] 3)).put (c := 0) (by omega) hg2 hown2 (fun k hk => by rw [e0]; exact hat1 k hk)
          have O10 : Own w10 w.heap.size 26 (.slice (some ⟨gf, 0, none⟩) n cf) n V := (O9.alloc _).keep fun k0 hk0 => hg1.block k0 ((O9.alloc _).lt hk0) (by have : gf = k0 := by { simpa [Value.ownBlock] using hk0 }; subst this; simpa [Value.ownBlock] using hbf)
          have G9a := G9.alloc (.cells #[.int .i64 0, .int .i64 1] 3)
          have G10 : Grow g w w10 := ⟨hg1.os.trans G9a.os, hg1.tape.trans G9a.tape, hg1.output.trans G9a.output, Nat.le_trans G9a.size hg1.size, fun i hi hne => (hg1.block i (Nat.lt_of_lt_of_le hi G9a.size) (fun e => by { have : i = b := (by simpa [Value.ownBlock] using e); omega })).trans (G9a.block i hi hne)⟩
          exact ⟨_, p1 + 1, rfl, ⟨n, fun r => if r = 0 then .slice A' (l + 2) c' else V r, fun r => if r = 0 then l + 2 else l, fun r => if r = 0 then (fun i => if i < l then F 0 i else if i - l = 0 then 0 else 1) else F r, n6, fun r _ => by { show (if r = 0 then l + 2 else l) ≤ 8; split <;> omega }, O10.set rfl _, S10.far (fun r hr => (S10.row r hr).ne_row R10 (by decide)) _⟩, ((r9.alloc _).below hb1 hg).set (by show g < gf; omega) _, by omega, G10.set hgf _⟩
        · have z1 : ((y : Int) == 1) = false := by simpa using (by omega : (y : Int) ≠ 1)
          by_cases y2 : y = 2
          · subst y2
            go_wp2
            go_ret
            exact ⟨_, p1 + 1, rfl, ⟨0, fun _ => .slice none 0 0, fun _ => 0, fun _ _ => 0, by omega, fun r h => absurd h (by omega), Own.empty w9 26 _ G9.size, fun r h => absurd h (by omega), fun r s h => absurd h (by omega)⟩, r9.alloc _, by omega, G9.alloc _⟩
          · have z2 : ((y : Int) == 2) = false := by simpa using (by omega : (y : Int) ≠ 2)
            go_wp2
            go_ret
            exact ⟨_, p1 + 1, rfl, ⟨n, V, fun _ => l, F, n6, fun _ _ => by show l ≤ 8; omega, O9, S9⟩, r9, by omega, G9⟩
/-- A drawn list that reads. -/
theorem DrawnF.rd {B : Nat} {v : Value} {w : World} (h : DrawnF B v w) : ∃ a n c V L F, v = .slice a n c ∧ n ≤ 6 ∧ (∀ r, r < n → L r ≤ 8) ∧ RdR w w.heap.size a n V L F := by
  obtain ⟨n, V, L, F, h1, h2, h3, h4⟩ := h
  obtain ⟨a, c, e, hm⟩ := h3.made
  exact ⟨a, n, c, V, L, F, e, h1, h2, (MadeR.rd ⟨hm, h4⟩)⟩
/-- What a drawing function of fringes alone answers. -/
def FrAns (M : Nat) (w : World) (e : Ending) (w' : World) : Prop :=
  ∃ a n c V L F, e = .returned (.slice a n c) ∧ n ≤ M ∧ (∀ r, r < n → L r ≤ 8) ∧ RdR w' w'.heap.size a n V L F ∧ Below w.heap.size w w'
/-- .. of fringes and three numbers. -/
def FrAns3 (w : World) (e : Ending) (w' : World) : Prop :=
  ∃ a n c V L F d r q, e = .returned (.tuple #[.slice a n c, .int .i64 d, .int .i64 r, .int .i64 q]) ∧ n ≤ 6 ∧ (∀ r, r < n → L r ≤ 8) ∧ RdR w' w'.heap.size a n V L F ∧ Below w.heap.size w w' ∧ (-1 ≤ d ∧ d ≤ 4) ∧ (0 ≤ r ∧ r ≤ 3) ∧ (0 ≤ q ∧ q ≤ 3)
set_option maxHeartbeats 1000000 in
theorem c_DrawFringeValid (A : Option Addr) (n c : Nat) (f : Nat → Int) (w : World) (hn : n ≤ 1048576) (hnc : n ≤ c) (h : Code8 w w.heap.size A n f) : Calls Try.prog 5 #[.slice A n c] w (FrAns 7 w) := by
  go_enter Try.func5, Try.ntmps5
  go_wp2_with fail
  refine (c_l6Open A n c f _ hn hnc h).mono ?_
  rintro e w0 ⟨g, hg, rfl, r0, b0⟩
  clear h
  go_wp2_with fail
  refine (c_l93Fringe g 0 _ r0 (by omega)).mono ?_
  rintro e w1 ⟨v, p1, rfl, ⟨N, V, L, F, n6, hL, O1, S1⟩, r1, hp1, G1⟩
  have gl := r0.lt
  obtain ⟨a, cc, rfl⟩ := O1.slice
  have HL := Lib.hid hL
  clear hL
  go_wp2_with fail
  refine (c_pick g p1 10 _ r1 (by omega) (by omega) (by omega)).mono ?_
  rintro e w2 ⟨x2, hx2, rfl, r2, o2⟩
  have G2 := Grow.of_only o2
  have O2 := O1.grow G2 gl
  have S2 := S1.grow_ G2 gl
  have B2 := b0.trans ((G1.trans G2).below hg b0.size)
  have s2 : w0.heap.size ≤ w2.heap.size := Nat.le_trans G1.size G2.size
  clear o2 O1 S1
  by_cases h2 : x2 = 0
  · subst h2
    have R3 : Row (w2.alloc (.cells #[.int .i64 1, .int .i64 2, .int .i64 3] 3)) w2.heap.size 3 3 (fun i => .int .i64 (if i = 0 then 1 else if i = 1 then 2 else 3)) := ⟨_, heap_alloc_new w2 _, fun i hi => by
      match i, hi with
      | 0, _ => rfl
      | 1, _ => rfl
      | 2, _ => rfl⟩
    have O3 := O2.alloc (.cells #[.int .i64 1, .int .i64 2, .int .i64 3] 3)
    have S3 := S2.alloc (.cells #[.int .i64 1, .int .i64 2, .int .i64 3] 3)
    have B3 := B2.alloc (Nat.le_trans b0.size s2) (.cells #[.int .i64 1, .int .i64 2, .int .i64 3] 3)
    have O5 : Own (w2.alloc (.cells #[.int .i64 1, .int .i64 2, .int .i64 3] 3)) w0.heap.size 26 (.slice a N cc) N (fun r => if r = N then .slice (some ⟨w2.heap.size, 0, none⟩) 3 3 else V r) := O3.congr fun r hr => by rw [if_neg (by omega)]
    go_wp2_with (at_builtin; go_loud (refine wpList_app1at (w2.alloc (.cells #[.int .i64 1, .int .i64 2, .int .i64 3] 3)) (.slice (some ⟨w2.heap.size, 0, none⟩) 3 3) rfl _ _ 23 rfl w0.heap.size 26 (.slice none 0 0) 24 Try.underlying23 info_ints rfl (by omega) (.slice a N cc) N (fun r => if r = N then .slice (some ⟨w2.heap.size, 0, none⟩) 3 3 else V r) (by rfl) (by exact O5) (by rw [show (w2.alloc (.cells #[.int .i64 1, .int .i64 2, .int .i64 3] 3)).heap.size = w2.heap.size + 1 from by simp]; rfl) (by simp) rfl (by omega) (by simp; omega) ?_; intro v' w4 hown' hb1 hg1 hat1; obtain ⟨A4, c4, rfl⟩ := hown'.slice))
    go_ret
    obtain ⟨A5, c5, e5, M5⟩ := hown'.made
    have R4 := R3.of_block (hg1.block w2.heap.size R3.lt (fun e => O3.ne_row R3 (by decide) e.symm))
    have S4 := S3.keep fun r hr b hb => hg1.block b ((S3.row r hr).lt hb) (fun e => (S3.row r hr).ne_own O3 (by decide) hb e.symm)
    refine ⟨A4, N + 1, c4, fun r => if r = N then .slice (some ⟨w2.heap.size, 0, none⟩) 3 3 else V r, fun r => if r = N then 3 else L r, fun r i => if r = N then (if i = 0 then 1 else if i = 1 then 2 else 3) else F r i, rfl, by omega, fun r hr => ?_, ⟨?_, fun r hr => ?_⟩, B3.trans (hb1.mono b0.size)⟩
    · show (if r = N then 3 else L r) ≤ 8
      split
      · omega
      · exact HL.out r (by omega)
    · injection e5 with e6
      rw [e6]
      exact M5.rd
    · by_cases e : r = N
      · refine ⟨some ⟨w2.heap.size, 0, none⟩, 3, by simp [e], ?_⟩
        simp only [e, if_true]
        exact R4.rd R4.lt
      · simp only [if_neg e]
        obtain ⟨A6, c6, e6, M6⟩ := (S4.row r (by omega)).made
        exact ⟨A6, c6, e6, M6.rd⟩
  · have hz : ((x2 : Int) == 0) = false := by simpa using (by omega : (x2 : Int) ≠ 0)
    have D : DrawnF w0.heap.size (.slice a N cc) w2 := ⟨N, V, L, F, n6, HL.out, O2, S2⟩
    obtain ⟨a', N', cc', V', L', F', e1, h1, h2', h3⟩ := D.rd
    have H2 := Lib.hid h2'
    have E1 := Lib.hid e1
    clear h2' e1
    go_wp2
    go_ret
    exact ⟨a', N', cc', V', L', F', by rw [← E1.out]; rfl, by omega, H2.out, h3, B2⟩
end Go.Proofs.Ytpanefjjghlhiaa
