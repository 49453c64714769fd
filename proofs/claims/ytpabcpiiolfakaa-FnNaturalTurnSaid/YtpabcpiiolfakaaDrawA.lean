/-
  Drawn arrays.
-/
import Derived.Test.YtpabcpiiolfakaaDrawLib
import Derived.Test.YtpabcpiiolfakaaArr
namespace Go.Proofs.Ytpabcpiiolfakaa
open Go.RowKit Go.Deep

section
variable {w w' : World} {B n : Nat} {t : TypeId} {v : Value} {f : Nat → Value}
theorem Own2.grow {g : Nat} (h : Own2 w B t v n f) (hg : Grow g w w') (hB : g < B) : Own2 w' B t v n f := by
  obtain ⟨h1, h2⟩ := h
  refine ⟨h1, ?_⟩
  rcases h2 with h2 | ⟨b, cap, cur, hv, hb, hh, r⟩
  · exact .inl h2
  · exact .inr ⟨b, cap, cur, hv, hb, (hg.block b (Array.getElem?_eq_some_iff.1 hh).1 (by omega)).trans hh, r⟩
theorem Own2.congr {f' : Nat → Value} (h : Own2 w B t v n f) (e : ∀ k, k < n * 2 → f k = f' k) : Own2 w B t v n f' := by
  unfold Own2 at *
  rw [show (List.range (n * 2)).map f' = (List.range (n * 2)).map f from List.map_congr_left (fun k hk => (e k (List.mem_range.1 hk)).symm)]
  exact h
theorem Own2.empty (w : World) (t : TypeId) (f : Nat → Value) {B : Nat} (hB : B ≤ w.heap.size) : Own2 (w.alloc (.cells #[] t)) B t (.slice (some ⟨w.heap.size, 0, none⟩) 0 0) 0 f := by
  have := World.ownsRow_made (e := t) (size := 2) (base := B) w #[] 0 hB (by simp) (by simp)
  exact this
theorem Own2.row (h : Own2 w B t v n f) : (∃ A c, v = .slice A n c) ∧ (0 < n → ∃ b c, B ≤ b ∧ v = .slice (some ⟨b, 0, none⟩) n c ∧ n ≤ c ∧ Row w b t (n * 2) f) := by
  rcases h.2 with ⟨rfl, rfl⟩ | ⟨b, cap, cur, rfl, hb, hh, hc, _, _, hx⟩
  · exact ⟨⟨_, _, rfl⟩, fun h => absurd h (by omega)⟩
  · refine ⟨⟨_, _, rfl⟩, fun _ => ⟨b, cap, hb, rfl, hc, cur, hh, fun i hi => ?_⟩⟩
    have h1 : (cur.toList.take (n * 2))[i]? = some (f i) := by rw [hx]; simp [hi]
    rw [List.getElem?_take, if_pos (by omega)] at h1
    simpa using h1
end

/-- A drawn list of antennas: of the call's own. -/
def DrawnA (B : Nat) (v : Value) (w' : World) : Prop :=
  ∃ (b n c : Nat) (X Y : Nat → Int), B ≤ b ∧ v = .slice (some ⟨b, 0, none⟩) n c ∧ 1 ≤ n ∧ n ≤ 6 ∧ n ≤ c ∧ Row w' b 62 (n * 2) (flat X Y)
theorem DrawnA.less {B B' : Nat} {v : Value} {w : World} (h : DrawnA B v w) (hB : B' ≤ B) : DrawnA B' v w := by
  obtain ⟨b, n, c, X, Y, hb, r⟩ := h
  exact ⟨b, n, c, X, Y, by omega, r⟩
theorem DrawnA.grow {B g : Nat} {v : Value} {w w' : World} (h : DrawnA B v w) (hg : Grow g w w') (hB : g < B) : DrawnA B v w' := by
  obtain ⟨b, n, c, X, Y, hb, e, h1, h6, hc, hR⟩ := h
  exact ⟨b, n, c, X, Y, hb, e, h1, h6, hc, hR.grow hg (by omega)⟩

set_option maxHeartbeats 1000000 in
theorem c_l91Has (A : Option Addr) (n c : Nat) (X Y : Nat → Int) (x y : Int) (w : World) (hn : n ≤ 1048576) (h : RdA w w.heap.size A n X Y) :
    Calls Try.prog 74 #[.slice A n c, .agg #[.int .i64 x, .int .i64 y]] w fun e w' => (∃ b, e = .returned (.bool b)) ∧ Below w.heap.size w w' := by
  go_enter Try.func74, Try.ntmps74
  go_wp2
  have q1 : (w.alloc (.cells #[.int .i64 x, .int .i64 y] 62)).cell? ⟨w.heap.size, 0, none⟩ = some (.int .i64 x) := by simp
  have q2 : (w.alloc (.cells #[.int .i64 x, .int .i64 y] 62)).cell? ⟨w.heap.size, 1, none⟩ = some (.int .i64 y) := by simp
  have hB0 : Below w.heap.size w (w.alloc (.cells #[.int .i64 x, .int .i64 y] 62)) := (Below.refl _ _).alloc (Nat.le_refl _) _
  have h' := h.below hB0
  clear h
  generalize w.alloc (.cells #[.int .i64 x, .int .i64 y] 62) = W at q1 q2 hB0 h' ⊢
  go_loopw [5] (fun i wr => ∃ k m : Nat, k ≤ n ∧ i = .int .i64 k ∧ wr = W.drewN m) (fun i _ => n - (intOf i).toNat)
  case atStart => exact ⟨0, 0, Nat.zero_le _, rfl, rfl⟩
  case round =>
    obtain ⟨k, m, hk, rfl, rfl⟩ := hrel
    by_cases hlt : k < n
    · obtain ⟨ad, rfl, hab, hc⟩ := h'.at_ hlt
      obtain ⟨h1, h2⟩ := hc k hlt
      have hz : (k : Int) < (n : Int) := by omega
      clear hc h'
      by_cases e1 : X k = x
      · by_cases e2 : Y k = y
        · subst e1 e2
          go_wp2
          go_quiet (fail)
          go_wp2
          go_ret
          exact ⟨⟨_, rfl⟩, below_drewN (below_drewN hB0 _) _⟩
        · have he : (Y k == y) = false := by simpa using e2
          subst e1
          clear e2
          go_wp2
          go_quiet (fail)
          go_wp2
          go_roundw
          case rel => exact ⟨k + 1, _, by omega, by go_num, rfl⟩
          case measure => simp [intOf]; omega
      · have he : (X k == x) = false := by simpa using e1
        clear e1
        go_wp2
        go_quiet (fail)
        go_wp2
        go_roundw
        case rel => exact ⟨k + 1, _, by omega, by go_num, rfl⟩
        case measure => simp [intOf]; omega
    · go_wp2
      go_ret
      exact ⟨⟨_, rfl⟩, below_drewN hB0 _⟩
/-- What stands while antennas are drawn: the reader; the list; nothing else turned. -/
def LsSt (w : World) (g p m : Nat) (v : Value) (w' : World) : Prop := ∃ X Y, Rdr w' g p ∧ Grow g w w' ∧ Own2 w' w.heap.size 62 v m (flat X Y)
theorem LsSt.only {w w' w'' : World} {g p p' m : Nat} {v : Value} (h : LsSt w g p m v w') (hg : g < w.heap.size) (hr : Rdr w'' g p') (ho : Only w' w'' (some ⟨g, 0, none⟩)) : LsSt w g p' m v w'' := by
  obtain ⟨X, Y, _, hG, hO⟩ := h
  exact ⟨X, Y, hr, hG.only ho, hO.grow (Grow.of_only ho) hg⟩
theorem LsSt.rdr {w w' : World} {g p m : Nat} {v : Value} (h : LsSt w g p m v w') : Rdr w' g p := by
  obtain ⟨_, _, hr, _⟩ := h
  exact hr
theorem LsSt.size {w w' : World} {g p m : Nat} {v : Value} (h : LsSt w g p m v w') : w.heap.size ≤ w'.heap.size := by
  obtain ⟨_, _, _, hG, _⟩ := h
  exact hG.size
theorem LsSt.step {w w' w'' : World} {g p m : Nat} {v : Value} (h : LsSt w g p m v w') (hg : g < w.heap.size) (hb : Below w'.heap.size w' w'') : LsSt w g p m v w'' := by
  obtain ⟨X, Y, hr, hG, hO⟩ := h
  exact ⟨X, Y, hr.step hb, hG.seq hb, hO.grow (Grow.of_below hb) hg⟩

theorem Grow.over {g : Nat} {w w' w'' : World} (h : Grow g w w') (k : Below w.heap.size w' w'') : Grow g w w'' :=
  ⟨k.os.trans h.os, k.tape.trans h.tape, k.output.trans h.output, Nat.le_trans h.size k.size, fun i hi hne => (k.block i hi).trans (h.block i hi hne)⟩
/-- The list with one more. -/
def addF (X : Nat → Int) (m : Nat) (a : Int) (j : Nat) : Int := if j = m then a else X j
theorem addF_at (X : Nat → Int) (m : Nat) (a : Int) : addF X m a m = a := by simp [addF]
theorem addF_lt (X : Nat → Int) (m : Nat) (a : Int) : ∀ k, k < m → X k = addF X m a k := fun k hk => by rw [addF, if_neg (by omega)]

set_option maxHeartbeats 4000000 in
theorem c_l91Array (g p : Nat) (w : World) (h : Rdr w g p) (hp : p ≤ 1000) :
    Calls Try.prog 53 #[.pointer (some ⟨g, 0, none⟩)] w (Draws DrawnA w g p) := by
  have hg := h.lt
  go_enter Try.func53, Try.ntmps53
  go_wp2_with fail
  refine (c_pick g p 4 _ (h.alloc _) (by omega) (by omega) (by omega)).mono ?_
  rintro e w1 ⟨x, hx, rfl, hr1, ho1⟩
  have S1 : LsSt w g (p + 1) 0 (.slice (some ⟨w.heap.size, 0, none⟩) 0 0) w1 := LsSt.only (w' := w.alloc (.cells #[] 62)) ⟨fun _ => 0, fun _ => 0, h.alloc _, (Grow.refl g w).alloc _, Own2.empty w 62 _ (Nat.le_refl _)⟩ hg hr1 ho1
  clear ho1 hr1 h
  go_wp2_with fail
  refine (c_pick g (p + 1) 3 _ (S1.rdr.alloc _) (by omega) (by omega) (by omega)).mono ?_
  rintro e w2 ⟨s, hs, rfl, hr2, ho2⟩
  have S2 := (S1.step hg ((Below.refl _ _).alloc (Nat.le_refl _) _)).only hg hr2 ho2
  obtain ⟨sc, hsc⟩ : ∃ sc : Int, w2.cell? ⟨w1.heap.size, s, none⟩ = some (.int .i64 sc) := by
    have hk : w2.heap[w1.heap.size]? = (w1.alloc (.cells #[.int .i64 1, .int .i64 1, .int .i64 7] 3)).heap[w1.heap.size]? := ho2.block _ (fun ad e => by injection e with e; subst e; show g ≠ _; have := S1.size; omega)
    have h3 : s = 0 ∨ s = 1 ∨ s = 2 := by omega
    rw [heap_alloc_new] at hk
    unfold World.cell?
    rw [show (⟨w1.heap.size, s, none⟩ : Addr).block = w1.heap.size from rfl, hk]
    rcases h3 with rfl | rfl | rfl
    · exact ⟨1, rfl⟩
    · exact ⟨1, rfl⟩
    · exact ⟨7, rfl⟩
  have hs3 : (s : Int) < 3 := by omega
  clear S1 hr2 ho2
  go_wp2
  go_loopw [3, 6] (fun v i wr => ∃ k m p1 : Nat, k ≤ 2 + x ∧ i = .int .i64 k ∧ m ≤ k ∧ p1 ≤ p + 2 + 2 * k ∧ LsSt w g p1 m v wr) (fun _ i _ => 2 + x - (intOf i).toNat)
  case atStart => exact ⟨0, 0, p + 2, Nat.zero_le _, rfl, Nat.le_refl _, by omega, S2⟩
  case round =>
    obtain ⟨k, m, p1, hk, rfl, hmk, hp1, S⟩ := hrel
    clear S2 hsc
    obtain ⟨X, Y, hrS, hGS, hO⟩ := S
    obtain ⟨⟨A, c, rfl⟩, hOr⟩ := hO.row
    by_cases hlt : k < 2 + x
    · have hz : (k : Int) < 2 + (x : Int) := by omega
      have S : LsSt w g p1 m (.slice A m c) wr := ⟨X, Y, hrS, hGS, hO⟩
      clear hrS hGS hO hOr
      go_wp2_with fail
      refine (c_pick g p1 6 _ S.rdr (by omega) (by omega) (by omega)).mono ?_
      rintro e w3 ⟨y, hy, rfl, hr3, ho3⟩
      have S3 := S.only hg hr3 ho3
      clear S hr3 ho3
      go_wp2_with fail
      refine (c_pick g (p1 + 1) 4 _ S3.rdr (by omega) (by omega) (by omega)).mono ?_
      rintro e w4 ⟨z, hzz, rfl, hr4, ho4⟩
      obtain ⟨X, Y, hr4, hG4, hO4⟩ := S3.only hg hr4 ho4
      clear S3 ho4
      go_wp2_with fail
      obtain ⟨ax, hax⟩ : ∃ ax, ax = wrap64 (sc * ((y : Int) - 2)) := ⟨_, rfl⟩
      obtain ⟨ay, hay⟩ : ∃ ay, ay = wrap64 (sc * ((z : Int) - 1)) := ⟨_, rfl⟩
      rw [← hax, ← hay]
      clear hax hay
      have BA : Below w4.heap.size w4 (w4.alloc (.cells #[.int .i64 ax, .int .i64 ay] 62)) := (Below.refl _ _).alloc (Nat.le_refl _) _
      have q1 : (w4.alloc (.cells #[.int .i64 ax, .int .i64 ay] 62)).cell? ⟨w4.heap.size, 0, none⟩ = some (.int .i64 ax) := by simp
      have q2 : (w4.alloc (.cells #[.int .i64 ax, .int .i64 ay] 62)).cell? ⟨w4.heap.size, 1, none⟩ = some (.int .i64 ay) := by simp
      obtain ⟨A', c', e', hM⟩ := hO4.made
      injection e' with eA _ ec
      subst eA ec
      have hRd : RdA (w4.alloc (.cells #[.int .i64 ax, .int .i64 ay] 62)) (w4.alloc (.cells #[.int .i64 ax, .int .i64 ay] 62)).heap.size A m X Y := hM.rd.step BA
      have sA : w4.heap.size < (w4.alloc (.cells #[.int .i64 ax, .int .i64 ay] 62)).heap.size := by simp
      generalize w4.alloc (.cells #[.int .i64 ax, .int .i64 ay] 62) = W at BA q1 q2 hRd sA ⊢
      refine (c_l91Has A m c X Y ax ay W (by omega) hRd).mono ?_
      rintro e w5 ⟨⟨b, rfl⟩, hb5⟩
      have q1 := (hb5.cell (p := ⟨w4.heap.size, 0, none⟩) sA).trans q1
      have q2 := (hb5.cell (p := ⟨w4.heap.size, 1, none⟩) sA).trans q2
      have B5 := below_seq BA hb5
      have hr5 := hr4.step B5
      have hG5 := hG4.seq B5
      have hO5 := hO4.grow (g := g) (Grow.of_below B5) hg
      clear hr4 hG4 hO4 hM hRd BA hb5 B5
      cases b with
      | true =>
        go_wp2
        go_roundw
        case rel => exact ⟨k + 1, m, p1 + 2, by omega, by go_num, by omega, by omega, X, Y, hr5, hG5, hO5⟩
        case measure => simp [intOf]; omega
      | false =>
        have hO6 := hO5.congr (f' := flat (addF X m ax) (addF Y m ay)) (flat_congr (addF_lt X m ax) (addF_lt Y m ay))
        have f0 : flat (addF X m ax) (addF Y m ay) (m * 2) = .int .i64 ax := by rw [flat_even, addF_at]
        have f1 : flat (addF X m ax) (addF Y m ay) (m * 2 + 1) = .int .i64 ay := by rw [flat_odd, addF_at]
        have s5 := hG5.size
        clear hO5
        go_wp2_with (at_builtin; refine wpList_app2 w5 (.int .i64 ax) (.int .i64 ay) rfl _ _ 23 rfl w.heap.size 62 (.agg #[.int .i64 0, .int .i64 0]) 16 Try.underlying23 info_ant rfl (by omega) _ m (flat (addF X m ax) (addF Y m ay)) (by rfl) (by exact hO6) (by rfl) f0 f1 rfl rfl (by omega) s5 ?_; intro v' w6 hown' hb6)
        go_roundw
        case rel => exact ⟨k + 1, m + 1, p1 + 2, by omega, by go_num, by omega, by omega, _, _, hr5.below hb6 hg, hG5.over hb6, hown'⟩
        case measure => simp [intOf]; omega
    · by_cases hm2 : m < 2
      · have hmz : (m : Int) < 2 := by omega
        go_wp2_with fail
        refine (c_pick g p1 3 _ hrS (by omega) (by omega) (by omega)).mono ?_
        rintro e w3 ⟨y, hy, rfl, hr3, ho3⟩
        have G3 := hGS.only ho3
        clear hrS hGS hO hOr ho3
        go_wp2_with fail
        refine (c_pick g (p1 + 1) 3 _ hr3 (by omega) (by omega) (by omega)).mono ?_
        rintro e w4 ⟨z, hzz, rfl, hr4, ho4⟩
        have G4 := G3.only ho4
        have s4 := G4.size
        clear hr3 ho4 G3
        have R5 : Row (w4.alloc (.cells #[.int .i64 0, .int .i64 0, .int .i64 (1 + (y : Int)), .int .i64 (z : Int), .int .i64 5, .int .i64 1] 62)) w4.heap.size 62 (3 * 2) (flat (fun j => if j = 0 then 0 else if j = 1 then 1 + (y : Int) else 5) (fun j => if j = 0 then 0 else if j = 1 then (z : Int) else 1)) := by
          refine ⟨_, heap_alloc_new w4 _, fun i hi => ?_⟩
          have h6 : i = 0 ∨ i = 1 ∨ i = 2 ∨ i = 3 ∨ i = 4 ∨ i = 5 := by omega
          rcases h6 with rfl | rfl | rfl | rfl | rfl | rfl <;> rfl
        have hr5 := hr4.alloc (.cells #[.int .i64 0, .int .i64 0, .int .i64 (1 + (y : Int)), .int .i64 (z : Int), .int .i64 5, .int .i64 1] 62)
        have G5 := G4.alloc (.cells #[.int .i64 0, .int .i64 0, .int .i64 (1 + (y : Int)), .int .i64 (z : Int), .int .i64 5, .int .i64 1] 62)
        obtain ⟨XX, hXX⟩ : ∃ XX : Nat → Int, XX = fun j => if j = 0 then 0 else if j = 1 then 1 + (y : Int) else 5 := ⟨_, rfl⟩
        obtain ⟨YY, hYY⟩ : ∃ YY : Nat → Int, YY = fun j => if j = 0 then 0 else if j = 1 then (z : Int) else 1 := ⟨_, rfl⟩
        rw [← hXX, ← hYY] at R5
        clear hXX hYY hr4 G4
        have hgb : g < w4.heap.size := by omega
        go_wp2_with fail
        refine (c_pick g (p1 + 1 + 1) 40 _ hr5 (by omega) (by omega) (by omega)).mono ?_
        rintro e w8 ⟨t, ht, rfl, hr8, ho8⟩
        have G8 := G5.only ho8
        have R8 := R5.only ho8 (fun ad e => by injection e with e; subst e; show g ≠ _; skip; omega)
        have hp8 : (p1 + 1 + 1) + 1 ≤ p + 100 := by omega
        clear ho8
        by_cases t0 : t = 0
        · subst t0
          have k0 := R8.cell (i := 0) (by omega)
          have k1 := R8.cell (i := 1) (by omega)
          have k2 := R8.cell (i := 1 * 2) (by omega)
          have k3 := R8.cell (i := 1 * 2 + 1) (by omega)
          rw [flat_even] at k2
          rw [flat_odd] at k3
          have z0 := R8.frozen 0
          have z1 := R8.frozen 1
          have RR := row_set2 (k := 0) (F' := fun j => if j = 0 then XX 1 else XX j) (G' := fun j => if j = 0 then YY 1 else YY j) R8 (fun j _ => by by_cases e : j = 0 <;> simp [e]) (fun j _ => by by_cases e : j = 0 <;> simp [e])
          simp only [if_true] at RR
          go_wp2
          go_ret
          exact ⟨_, _, rfl, ⟨w4.heap.size, 3, 3, _, _, by skip; omega, rfl, by omega, by omega, by omega, RR⟩, (hr8.set (by skip; show g < w4.heap.size; omega) _).set (by skip; show g < w4.heap.size; omega) _, hp8, (G8.set (by skip; show w.heap.size ≤ w4.heap.size; omega) _).set (by skip; show w.heap.size ≤ w4.heap.size; omega) _⟩
        · have c0 : ((t : Int) == 0) = false := by simpa using (by omega : (t : Int) ≠ 0)
          by_cases t1 : t = 1
          · subst t1
            have k0 := R8.cell (i := 0) (by omega)
            have z0 := R8.frozen 0
            have RR := (R8.set 0 (.int .i64 1001)).congr (f' := flat (fun j => if j = 0 then 1001 else XX j) YY) (fun j hj => by
              unfold flat
              by_cases e : j = 0
              · subst e; simp
              · rw [if_neg e]
                split
                · exact congrArg _ (if_neg (by omega : ¬ j / 2 = 0)).symm
                · rfl)
            go_wp2
            go_ret
            exact ⟨_, _, rfl, ⟨w4.heap.size, 3, 3, _, _, by skip; omega, rfl, by omega, by omega, by omega, RR⟩, hr8.set (by skip; show g < w4.heap.size; omega) _, hp8, G8.set (by skip; show w.heap.size ≤ w4.heap.size; omega) _⟩
          · have c1 : ((t : Int) == 1) = false := by simpa using (by omega : (t : Int) ≠ 1)
            by_cases t2 : t = 2
            · subst t2
              go_wp2
              go_ret
              exact ⟨_, _, rfl, ⟨w4.heap.size, 1, 3, XX, YY, by skip; omega, rfl, by omega, by omega, by omega, R8.less (by omega)⟩, hr8, hp8, G8⟩
            · have c2 : ((t : Int) == 2) = false := by simpa using (by omega : (t : Int) ≠ 2)
              go_wp2
              go_ret
              exact ⟨_, _, rfl, ⟨w4.heap.size, 3, 3, XX, YY, by skip; omega, rfl, by omega, by omega, by omega, R8⟩, hr8, hp8, G8⟩
      · have hmz : (2 : Int) ≤ (m : Int) := by omega
        obtain ⟨b, c', hwb, e', hcc, R5⟩ := hOr (by omega)
        injection e' with eA _ ec
        subst eA ec
        have hgb : g < b := by omega
        have hr5 := hrS
        have G5 := hGS
        clear hrS hGS hO hOr
        go_wp2_with fail
        refine (c_pick g p1 40 _ hr5 (by omega) (by omega) (by omega)).mono ?_
        rintro e w8 ⟨t, ht, rfl, hr8, ho8⟩
        have G8 := G5.only ho8
        have R8 := R5.only ho8 (fun ad e => by injection e with e; subst e; show g ≠ _; skip; omega)
        have hp8 : p1 + 1 ≤ p + 100 := by omega
        clear ho8
        by_cases t0 : t = 0
        · subst t0
          have k0 := R8.cell (i := 0) (by omega)
          have k1 := R8.cell (i := 1) (by omega)
          have k2 := R8.cell (i := 1 * 2) (by omega)
          have k3 := R8.cell (i := 1 * 2 + 1) (by omega)
          rw [flat_even] at k2
          rw [flat_odd] at k3
          have z0 := R8.frozen 0
          have z1 := R8.frozen 1
          have RR := row_set2 (k := 0) (F' := fun j => if j = 0 then X 1 else X j) (G' := fun j => if j = 0 then Y 1 else Y j) R8 (fun j _ => by by_cases e : j = 0 <;> simp [e]) (fun j _ => by by_cases e : j = 0 <;> simp [e])
          simp only [if_true] at RR
          go_wp2
          go_ret
          exact ⟨_, _, rfl, ⟨b, m, c, _, _, by skip; omega, rfl, by omega, by omega, hcc, RR⟩, (hr8.set (by skip; show g < b; omega) _).set (by skip; show g < b; omega) _, hp8, (G8.set (by skip; show w.heap.size ≤ b; omega) _).set (by skip; show w.heap.size ≤ b; omega) _⟩
        · have c0 : ((t : Int) == 0) = false := by simpa using (by omega : (t : Int) ≠ 0)
          by_cases t1 : t = 1
          · subst t1
            have k0 := R8.cell (i := 0) (by omega)
            have z0 := R8.frozen 0
            have RR := (R8.set 0 (.int .i64 1001)).congr (f' := flat (fun j => if j = 0 then 1001 else X j) Y) (fun j hj => by
              unfold flat
              by_cases e : j = 0
              · subst e; simp
              · rw [if_neg e]
                split
                · exact congrArg _ (if_neg (by omega : ¬ j / 2 = 0)).symm
                · rfl)
            go_wp2
            go_ret
            exact ⟨_, _, rfl, ⟨b, m, c, _, _, by skip; omega, rfl, by omega, by omega, hcc, RR⟩, hr8.set (by skip; show g < b; omega) _, hp8, G8.set (by skip; show w.heap.size ≤ b; omega) _⟩
          · have c1 : ((t : Int) == 1) = false := by simpa using (by omega : (t : Int) ≠ 1)
            by_cases t2 : t = 2
            · subst t2
              go_wp2
              go_ret
              exact ⟨_, _, rfl, ⟨b, 1, c, X, Y, by skip; omega, rfl, by omega, by omega, by omega, R8.less (by omega)⟩, hr8, hp8, G8⟩
            · have c2 : ((t : Int) == 2) = false := by simpa using (by omega : (t : Int) ≠ 2)
              go_wp2
              go_ret
              exact ⟨_, _, rfl, ⟨b, m, c, X, Y, by skip; omega, rfl, by omega, by omega, hcc, R8⟩, hr8, hp8, G8⟩
end Go.Proofs.Ytpabcpiiolfakaa
