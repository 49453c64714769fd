/-
  Contracts: natural weights.
-/
import Derived.Test.YtpabcpiiolfakaaTrackC
import Derived.Test.YtpabcpiiolfakaaNatP
namespace Go.Proofs.Ytpabcpiiolfakaa
open Go.RowKit Go.Deep Go.Shelf
attribute [local go_sem] Oper.semAt_some

theorem at_if (F : Nat → Int) (c q : Nat) : (if c = q then Value.int .i64 (F q + 1) else Value.int .i64 (F c)) = Value.int .i64 (F c + if q = c then 1 else 0) := by
  by_cases e : c = q
  · subst e; simp
  · have e3 : ¬ q = c := fun h => e h.symm
    simp [e, e3]
theorem base_bd2 {m : Nat} (h2 : 2 ≤ m) (h7 : m ≤ 7) : m * (m - 1) / 2 ≤ 21 := by
  have h : m = 2 ∨ m = 3 ∨ m = 4 ∨ m = 5 ∨ m = 6 ∨ m = 7 := by omega
  rcases h with rfl | rfl | rfl | rfl | rfl | rfl <;> decide
set_option maxRecDepth 100000 in
set_option maxHeartbeats 2000000 in
theorem c_WeightNatural_yes (ad : Addr) (n c : Nat) (X Y : Nat → Int) (w : World) (hn : n ≤ 1048576) (hnc : n ≤ c) (hv : avB X Y n = true) (h : RdA w w.heap.size (some ad) n X Y) :
    Calls Try.prog 43 #[.slice (some ad) n c] w (Rets 3 w 16 (fun c => .int .i64 (natB X Y n c)) true) := by
  obtain ⟨⟨h2, h7⟩, hXY, _⟩ := avB_true hv
  have hb0 : Below w.heap.size w (w.alloc (.cells #[.slice (some ad) n c] 23)) := (Below.refl _ _).alloc (Nat.le_refl _) _
  have a1 : (w.alloc (.cells #[.slice (some ad) n c] 23)).cell? ⟨w.heap.size, 0, none⟩ = some (.slice (some ad) n c) := by simp
  have sz : (w.alloc (.cells #[.slice (some ad) n c] 23)).heap.size = w.heap.size + 1 := by simp
  have hA := h.step hb0
  have C1 := Lib.hid (c_ArrayValid (some ad) n c X Y _ hn hnc hA)
  rw [hv] at C1
  have hmk := mk_ints16
  refine (callsIn_wide (n := 3)).1 ?_
  refine callsIn_of_wp_marks Try.func43 rfl trivial ?_ rfl
  simp only [Try.ntmps43, List.size_toArray, List.length_cons, List.length_nil, Nat.reduceAdd, Nat.reduceSub, Array.replicate_succ, Array.replicate_zero, List.push_toArray, List.append_toArray, List.nil_append, List.cons_append]
  gi_wp2_with (first
    | (refine ⟨trivial, ?_⟩; gi_at_call 54; refine (callsIn_wide.2 C1.out).mono ?_; rintro e w1 ⟨rfl, hb1⟩; have c1 := (hb1.cell (p := ⟨w.heap.size, 0, none⟩) (by rw [sz]; show w.heap.size < _; omega)).trans a1; have c3 : ∀ o o', ((w1.alloc o).alloc o').cell? ⟨w.heap.size, 0, none⟩ = some (.slice (some ad) n c) := fun o o' => ((((Below.refl _ w1).alloc (Nat.le_refl _) o).alloc (by simp) o').cell (p := ⟨w.heap.size, 0, none⟩) (by have := hb1.size; rw [sz] at this; show w.heap.size < _; omega)).trans c1)
    | (refine ⟨trivial, ?_⟩; gi_at_call 67; refine (c_bases Fence.wide _ trivial rfl _ _).mono ?_; rintro e w' ⟨rfl, rfl⟩))
  have hz1 := hb1.size
  rw [sz] at hz1
  obtain ⟨W0, hW0⟩ : ∃ W0, W0 = (((w1.alloc (.cells (madeCells #[.int .i64 0] 16) 3)).alloc (.cells #[.slice (some ⟨w1.heap.size, 0, none⟩) 16 16] 50)).alloc (.cells #[.int .i64 (n : Nat)] 3)) := ⟨_, rfl⟩
  have s0 : W0.heap.size = w1.heap.size + 3 := by rw [hW0]; simp
  have B1 : Below w1.heap.size w1 W0 := by rw [hW0]; exact (((Below.refl _ _).alloc (Nat.le_refl _) _).alloc (by simp) _).alloc (by simp; omega) _
  have B0 : Below w.heap.size w W0 := (hb0.trans (hb1.mono (by omega))).trans (B1.mono (by omega))
  have r0 : Row W0 w1.heap.size 3 16 (fun _ => .int .i64 0) := by rw [hW0]; exact ((Row.made w1 (.int .i64 0) 16 3).alloc _).alloc _
  have l1 := (B1.cell (p := ⟨w.heap.size, 0, none⟩) (by show w.heap.size < _; omega)).trans c1
  have l3 : W0.cell? ⟨w1.heap.size + 1, 0, none⟩ = some (.slice (some ⟨w1.heap.size, 0, none⟩) 16 16) := by
    have q := cell_new (w1.alloc (.cells (madeCells #[.int .i64 0] 16) 3)) (.slice (some ⟨w1.heap.size, 0, none⟩) 16 16) 50
    rw [World.size_alloc] at q
    rw [hW0]
    exact cell_keep _ q
  have l4 : W0.cell? ⟨w1.heap.size + 2, 0, none⟩ = some (.int .i64 (n : Nat)) := by
    have q := cell_new ((w1.alloc (.cells (madeCells #[.int .i64 0] 16) 3)).alloc (.cells #[.slice (some ⟨w1.heap.size, 0, none⟩) 16 16] 50)) (.int .i64 (n : Nat)) 3
    rw [World.size_alloc, World.size_alloc] at q
    rw [hW0]
    exact q
  have hA0 := h.below B0
  have HXY := Lib.hid hXY
  rw [← hW0]
  clear hW0 c1 c3 a1 hb0 hb1 hmk C1 hXY h
  refine' wpIn_rangeFunc_ownF rfl (by omega) (gf := 80) (lb := #[.pointer (some ⟨w1.heap.size + 2, 0, none⟩)]) rfl trivial (enters_of Try.func80 (by kernel_rfl) rfl)
    (bases_stops _ n (by omega) h2 h7 (w1.heap.size + 2) W0 (by omega) l4) keepB_t (keepB_b (by omega)) (Below.refl _ _) (fun _ => rfl)
    (fun pre W => Turn w1.heap.size W0 W ∧ Row W w1.heap.size 3 16 (fun c => .int .i64 (natL X Y (vals pre) c)))
    (fun _ _ _ => False) (OwnFrom.and (turn_from (Nat.le_refl _)) (row_from _)) (fun _ _ _ _ _ hs _ _ => hs) ⟨Turn.refl _ _, r0.congr (fun _ _ => rfl)⟩ _ ?assign ?body ?done ?stop
  case assign =>
    intro l x W K hK
    gi_wp2
    exact hK
  case body =>
    rintro l pre ⟨⟨i, j⟩, hij, hjn⟩ W ⟨hT, hR⟩ _
    simp only at hij hjn
    have c1 := (hT.cell (p := ⟨w.heap.size, 0, none⟩) (by show w.heap.size < _; omega) (by show w.heap.size ≠ _; omega)).trans l1
    have c3 := (hT.cell (p := ⟨w1.heap.size + 1, 0, none⟩) (by show w1.heap.size + 1 < _; omega) (by show w1.heap.size + 1 ≠ _; omega)).trans l3
    obtain ⟨rc, hrc, _⟩ := id hR
    have BW := hT.below (B := w.heap.size) (by omega) (by omega)
    have hA := (hA0.below BW).more (Nat.le_trans B0.size hT.size)
    have bi := HXY.out i (by omega)
    have bj := HXY.out j hjn
    gi_wp2_with (refine ⟨trivial, ?_⟩; gi_at_call 68; refine (CallsIn.inRound l (callsIn_wide.2 (c_vector ad n c X Y i j _ (by omega) hjn bi bj hA))).mono ?_; rintro e w2 ⟨rfl, hb2⟩)
    obtain ⟨W2, hW2⟩ : ∃ W2, W2 = w2.alloc (.cells #[.int .i64 (X j - X i), .int .i64 (Y j - Y i)] 62) := ⟨_, rfl⟩
    have b1 : W2.cell? ⟨w2.heap.size, 0, none⟩ = some (.int .i64 (X j - X i)) := by rw [hW2]; simp
    have b2 : W2.cell? ⟨w2.heap.size, 1, none⟩ = some (.int .i64 (Y j - Y i)) := by rw [hW2]; simp
    have sW2 : w2.heap.size < W2.heap.size := by rw [hW2]; simp
    have T2 : Turn w1.heap.size W W2 := by rw [hW2]; exact (Turn.of_below hb2).alloc _
    have R2 : Row W2 w1.heap.size 3 16 (fun c => .int .i64 (natL X Y (vals pre) c)) := by rw [hW2]; exact (hR.step hb2).alloc _
    have hsz := hT.size
    have hs2 := hb2.size
    have d3 := (T2.cell (p := ⟨w1.heap.size + 1, 0, none⟩) (by show w1.heap.size + 1 < _; omega) (by show w1.heap.size + 1 ≠ _; omega)).trans c3
    rw [← hW2]
    clear hW2 hb2 hR c1 c3 hA BW
    have hlen : (vals pre).length ≤ 21 := by
      have := prs_len ⟨n, by omega⟩
      simp only at this
      have hb := base_bd2 h2 h7
      rw [vals_len]
      omega
    have e6 : IntKind.i64.wrap (-(X j - X i)) = X i - X j := by rw [IntWalk.i64_in _ (by omega)]; omega
    have e7 : IntKind.i64.wrap (-(Y j - Y i)) = Y i - Y j := by rw [IntWalk.i64_in _ (by omega)]; omega
    obtain ⟨q1, hq1, lq1⟩ : ∃ q, cellK 1 X Y i j = q ∧ q < 16 := ⟨_, rfl, cellK_lt _ _ _ _ _⟩
    obtain ⟨q2, hq2, lq2⟩ : ∃ q, cellK 1 X Y j i = q ∧ q < 16 := ⟨_, rfl, cellK_lt _ _ _ _ _⟩
    have CC1 := Lib.hid (cellAt_still (X j - X i) (Y j - Y i) q1 (by rw [← hq1, cellK, Int.one_mul, Int.one_mul]))
    have CC2 := Lib.hid (cellAt_still (IntKind.i64.wrap (-(X j - X i))) (IntKind.i64.wrap (-(Y j - Y i))) q2 (by rw [e6, e7, ← hq2, cellK, Int.one_mul, Int.one_mul]))
    have n1 := natL_bd X Y q1 (vals pre)
    have n2 := natL_bd X Y q2 (vals pre)
    have v1 : (0 : Int) ≤ natL X Y (vals pre) q1 ∧ natL X Y (vals pre) q1 ≤ 42 := by omega
    clear e6 e7 bi bj n1
    have i1 : (q1 : Int) < 16 := by omega
    have i2 : (q2 : Int) < 16 := by omega
    have o1 := R2.frozen q1
    have o2 := R2.cell lq1
    have x1 : IntKind.i64.wrap (natL X Y (vals pre) q1 + 1) = natL X Y (vals pre) q1 + 1 := IntWalk.i64_in _ (by omega)
    refine region_round 10 (by kernel_rfl) (by kernel_rfl) (by kernel_rfl) ?_
    simp only [List.take_succ_cons, List.take_zero, List.drop_succ_cons, List.drop_zero]
    repeat still_step
    still_call (CC1.out _)
    repeat still_step
    refine wpStill_nil ?_
    go_wp2
    refine OnlyN.mk ?_
    gi_wp2
    obtain ⟨z1, hz1'⟩ : ∃ z1, natL X Y (vals pre) q1 + 1 = z1 := ⟨_, rfl⟩
    obtain ⟨W3, hW3⟩ : ∃ W3, W3 = (W2.setCell ⟨w1.heap.size, q1, none⟩ (.int .i64 (natL X Y (vals pre) q1 + 1))).drew := ⟨_, rfl⟩
    have T3 : Turn w1.heap.size W W3 := by rw [hW3]; exact (T2.set q1 _).drew
    have U3 : Turn w1.heap.size W2 W3 := by rw [hW3]; exact ((Turn.refl _ _).set q1 _).drew
    have b1' := b1
    have b2' := b2
    have hs3 : w2.heap.size < W2.heap.size := sW2
    have R3 : Row W3 w1.heap.size 3 16 (fun c => .int .i64 (natL X Y (vals pre) c + (if c = q1 then 1 else 0))) := by rw [hW3]; exact (R2.set q1 _).congr (fun c _ => by by_cases e : c = q1 <;> simp [e])
    rw [← hW3]
    clear hW3 o1 o2 R2 b1 b2
    have b1 : W3.cell? ⟨w2.heap.size, 0, none⟩ = some (.int .i64 (X j - X i)) := (U3.cell (p := ⟨w2.heap.size, 0, none⟩) (by show w2.heap.size < _; omega) (by show w2.heap.size ≠ _; omega)).trans b1'
    have b2 : W3.cell? ⟨w2.heap.size, 1, none⟩ = some (.int .i64 (Y j - Y i)) := (U3.cell (p := ⟨w2.heap.size, 1, none⟩) (by show w2.heap.size < _; omega) (by show w2.heap.size ≠ _; omega)).trans b2'
    have e3 := (U3.cell (p := ⟨w1.heap.size + 1, 0, none⟩) (by show w1.heap.size + 1 < _; omega) (by show w1.heap.size + 1 ≠ _; omega)).trans d3
    have o1 := R3.frozen q2
    have o2 := R3.cell lq2
    clear d3 b1' b2'
    have v2 : (0 : Int) ≤ natL X Y (vals pre) q2 + (if q2 = q1 then 1 else 0) ∧ natL X Y (vals pre) q2 + (if q2 = q1 then 1 else 0) ≤ 43 := by split <;> omega
    generalize hz2 : natL X Y (vals pre) q2 + (if q2 = q1 then 1 else 0) = z2 at o2 v2
    have x2 : IntKind.i64.wrap (z2 + 1) = z2 + 1 := IntWalk.i64_in _ (by omega)
    have HZ := Lib.hid hz2
    clear hz2
    refine region_round 12 (by kernel_rfl) (by kernel_rfl) (by kernel_rfl) ?_
    simp only [List.take_succ_cons, List.take_zero, List.drop_succ_cons, List.drop_zero]
    repeat still_step
    still_call (CC2.out _)
    repeat still_step
    refine wpStill_nil ?_
    go_wp2
    refine OnlyN.mk ?_
    gi_wp2
    have T4 : Turn w1.heap.size W (W3.setCell ⟨w1.heap.size, q2, none⟩ (.int .i64 (z2 + 1))).drew := (T3.set q2 _).drew
    refine ⟨T4.keeps hrc, T4.cell (p := ⟨w1.heap.size + 2, 0, none⟩) (by show w1.heap.size + 2 < _; omega) (by show w1.heap.size + 2 ≠ _; omega), hT.trans T4, (R3.set q2 _).congr (fun c _ => ?_)⟩
    rw [vals_snoc, natL_snoc, oneK, oneK, hq1, hq2, ← HZ.out]
    by_cases e : c = q2
    · subst e
      by_cases e2 : c = q1
      · subst e2; simp
      · have e3 : ¬ q1 = c := fun h => e2 h.symm
        simp [e2, e3]
    · have e0 : ¬ q2 = c := fun h => e h.symm
      by_cases e2 : c = q1
      · subst e2; simp [e, e0]
      · have e3 : ¬ q1 = c := fun h => e2 h.symm
        simp [e, e0, e2, e3]
  case done =>
    rintro D ys W hD hys ⟨hT, hR⟩ hK
    have c3 := (hT.cell (p := ⟨w1.heap.size + 1, 0, none⟩) (by show w1.heap.size + 1 < _; omega) (by show w1.heap.size + 1 ≠ _; omega)).trans l3
    gi_wp2
    refine ⟨by simp, .inl ⟨_, _, rfl, run_takeDeferred hK, ?_⟩⟩
    refine ⟨.tuple #[.slice (some ⟨w1.heap.size, 0, none⟩) 16 16, .bool true], by simp [results, Try.results43, go_sem], _, _, rfl, ?_, fun _ => ⟨_, rfl, by omega, (row_putObj hR _ (by omega)).congr (fun c _ => by rw [hys, natL_prs X Y h7])⟩⟩
    exact (B0.trans (hT.below (by omega) B0.size)).trans (below_putObj _ (by omega))
  case stop =>
    rintro D c pre W _ _ h _
    exact h.elim
set_option maxRecDepth 100000 in
set_option maxHeartbeats 2000000 in
theorem c_WeightNatural_no (A : Option Addr) (n c : Nat) (X Y : Nat → Int) (w : World) (hn : n ≤ 1048576) (hnc : n ≤ c) (hv : avB X Y n = false) (h : RdA w w.heap.size A n X Y) :
    Calls Try.prog 43 #[.slice A n c] w (Rets 3 w 0 (fun c => .int .i64 (natB X Y n c)) false) := by
  have hb0 : Below w.heap.size w (w.alloc (.cells #[.slice A n c] 23)) := (Below.refl _ _).alloc (Nat.le_refl _) _
  have sz : (w.alloc (.cells #[.slice A n c] 23)).heap.size = w.heap.size + 1 := by simp
  have C1 := Lib.hid (c_ArrayValid A n c X Y _ hn hnc (h.step hb0))
  rw [hv] at C1
  clear hv h
  refine (callsIn_wide (n := 3)).1 ?_
  refine callsIn_of_wp_marks Try.func43 rfl trivial ?_ rfl
  simp only [Try.ntmps43, List.size_toArray, List.length_cons, List.length_nil, Nat.reduceAdd, Nat.reduceSub, Array.replicate_succ, Array.replicate_zero, List.push_toArray, List.append_toArray, List.nil_append, List.cons_append]
  gi_wp2_with (refine ⟨trivial, ?_⟩; gi_at_call 54; refine (callsIn_wide.2 C1.out).mono ?_; rintro e w1 ⟨rfl, hb1⟩)
  refine ⟨.tuple #[.slice none 0 0, .bool false], by simp [results, Try.results43, go_sem], _, _, rfl, hb0.trans (hb1.mono (by rw [sz]; omega)), Made.nil _ _ _ _ _⟩
theorem c_WeightNatural (A : Option Addr) (n c : Nat) (X Y : Nat → Int) (w : World) (hn : n ≤ 1048576) (hnc : n ≤ c) (h : RdA w w.heap.size A n X Y) :
    Calls Try.prog 43 #[.slice A n c] w (Rets 3 w (len16 (avB X Y n)) (fun c => .int .i64 (natB X Y n c)) (avB X Y n)) := by
  cases e : avB X Y n with
  | true =>
    obtain ⟨ad, rfl⟩ := av_some h e
    exact c_WeightNatural_yes ad n c X Y w hn hnc e h
  | false => exact c_WeightNatural_no A n c X Y w hn hnc e h
set_option maxRecDepth 100000 in
set_option maxHeartbeats 2000000 in
theorem c_sWeightNatural_yes (ad : Addr) (n c : Nat) (X Y : Nat → Int) (w : World) (hn : n ≤ 1048576) (hv : avB X Y n = true) (h : RdA w w.heap.size (some ad) n X Y) :
    Calls Try.prog 44 #[.slice (some ad) n c] w (Rets 3 w 16 (fun c => .int .i64 (natB X Y n c)) true) := by
  obtain ⟨⟨h2, h7⟩, hXY, _⟩ := avB_true hv
  have C1 := Lib.hid (c_sArrayValid (some ad) n c X Y _ hn h)
  rw [hv] at C1
  have hmk := mk_ints16
  have HXY := Lib.hid hXY
  obtain ⟨_, e0, hab, hc⟩ := h.at_ (k := 0) (by omega)
  injection e0 with e0
  subst e0
  have HC := Lib.hid hc
  clear hXY h hc
  go_enter Try.func44, Try.ntmps44
  go_wp2_with (first | (go_at_call 55; refine C1.out.mono ?_; rintro e w1 ⟨rfl, hb1⟩) | (go_at_call 57; refine (c_l21Cells _).mono ?_; rintro e w' ⟨rfl, rfl⟩))
  have hs1 := hb1.size
  have r0 := Row.made w1 (.int .i64 0) 16 3
  have B1 : Below w.heap.size w (w1.alloc (.cells (madeCells #[.int .i64 0] 16) 3)) := hb1.alloc hs1 _
  clear hmk hb1
  go_loopw [5] (fun p wr => ∃ i : Nat, i ≤ n ∧ p = .int .i64 i ∧ Below w.heap.size w wr ∧ Row wr w1.heap.size 3 16 (fun c => .int .i64 (snB X Y n i 0 c))) (fun p _ => n - (intOf p).toNat)
  case atStart => exact ⟨0, Nat.zero_le _, rfl, B1, r0.congr (fun _ _ => rfl)⟩
  case round =>
    obtain ⟨i, hi, rfl, hb, hr⟩ := hrel
    by_cases hlt : i < n
    · have hz : (i : Int) < (n : Int) := by omega
      go_wp2
      go_loopw [6] (fun q wr => ∃ j : Nat, j ≤ n ∧ q = .int .i64 j ∧ Below w.heap.size w wr ∧ Row wr w1.heap.size 3 16 (fun c => .int .i64 (snB X Y n i j c))) (fun q _ => n - (intOf q).toNat)
      case atStart => exact ⟨0, Nat.zero_le _, rfl, hb, hr⟩
      case round =>
        obtain ⟨j, hj, rfl, hbj, hrj⟩ := hrel
        clear hb hr
        by_cases hjt : j < n
        · have hz2 : (j : Int) < (n : Int) := by omega
          by_cases hij : i = j
          · have hne : ((i : Int) != (j : Int)) = false := by simpa using (by omega : (i : Int) = (j : Int))
            have hne2 : ((i : Int) == (j : Int)) = true := by simpa using (by omega : (i : Int) = (j : Int))
            have HE := Lib.hid hij
            clear hij
            go_wp2
            go_roundw
            case rel => exact ⟨j + 1, by omega, by go_num, hbj, hrj.congr (fun c _ => by rw [← HE.out, snB_same])⟩
            case measure => simp [intOf]; omega
          · have hne : ((i : Int) == (j : Int)) = false := by simpa using (by omega : (i : Int) ≠ (j : Int))
            have HE := Lib.hid hij
            clear hij
            go_wp2
            have bi := HXY.out i hlt
            have bj := HXY.out j hjt
            have v1 := (hbj.cell (p := ad.add (i * 2)) (by rw [block_add]; exact hab)).trans (HC.out i hlt).1
            have v2 := (hbj.cell (p := ⟨(ad.add (i * 2)).block, (ad.add (i * 2)).off + 1, none⟩) (by simp only [block_add]; exact hab)).trans (HC.out i hlt).2
            have v3 := (hbj.cell (p := ad.add (j * 2)) (by rw [block_add]; exact hab)).trans (HC.out j hjt).1
            have v4 := (hbj.cell (p := ⟨(ad.add (j * 2)).block, (ad.add (j * 2)).off + 1, none⟩) (by simp only [block_add]; exact hab)).trans (HC.out j hjt).2
            have e1 : IntKind.i64.wrap (X j - X i) = X j - X i := IntWalk.i64_in _ (by omega)
            have e2 : IntKind.i64.wrap (Y j - Y i) = Y j - Y i := IntWalk.i64_in _ (by omega)
            obtain ⟨q1, hq1, lq1⟩ : ∃ q, cellK 1 X Y i j = q ∧ q < 16 := ⟨_, rfl, cellK_lt _ _ _ _ _⟩
            have CC := Lib.hid (l21At_still (IntKind.i64.wrap (X j - X i)) (IntKind.i64.wrap (Y j - Y i)) q1 (by rw [e1, e2, ← hq1, cellK, Int.one_mul, Int.one_mul]))
            have HQ := Lib.hid hq1
            clear e1 e2 bi bj hq1
            have i1 : (q1 : Int) < 16 := by omega
            have o1 := hrj.frozen q1
            have o2 := hrj.cell lq1
            have sb := snB_bd X Y h7 hi hj q1
            obtain ⟨sb1, sb2⟩ := sb
            have HV := Lib.hid (hrj.set q1 (.int .i64 (snB X Y n i j q1 + 1)))
            refine wp_region_still_tail 23 (by kernel_rfl) (by kernel_rfl) ?_
            simp only [List.take_succ_cons, List.take_zero, List.drop_succ_cons, List.drop_zero]
            change wpStill _ _ wr.drew _ _ _
            repeat still_step
            still_call (CC.out _)
            repeat still_step
            refine wpStill_nil ?_
            change wpList _ _ _ _ _ wr.drew
            go_wp2
            go_roundw
            case rel => exact ⟨j + 1, by omega, by go_num, below_drew (hbj.setCell (p := ⟨w1.heap.size, q1, none⟩) hs1 _), HV.out.congr (fun c _ => by rw [snB_step _ _ _ _ _ _ HE.out, oneK, HQ.out]; exact at_if _ _ _)⟩
            case measure => simp [intOf]; omega
        · have e : j = n := by omega
          go_wp2
          go_roundw
          case rel => exact ⟨i + 1, by omega, by go_num, hbj, hrj.congr (fun c _ => by rw [e, snB_next])⟩
          case measure => simp [intOf]; omega
    · have e : i = n := by omega
      go_wp2
      go_ret2
      exact ⟨_, _, rfl, hb, fun _ => ⟨_, rfl, hs1, hr.congr (fun c _ => by rw [e, snB_end])⟩⟩
theorem c_sWeightNatural_no (A : Option Addr) (n c : Nat) (X Y : Nat → Int) (w : World) (hn : n ≤ 1048576) (hv : avB X Y n = false) (h : RdA w w.heap.size A n X Y) :
    Calls Try.prog 44 #[.slice A n c] w (Rets 3 w 0 (fun c => .int .i64 (natB X Y n c)) false) := by
  have C1 := Lib.hid (c_sArrayValid A n c X Y _ hn h)
  rw [hv] at C1
  clear h hv
  go_enter Try.func44, Try.ntmps44
  go_wp2_with (go_at_call 55; refine C1.out.mono ?_; rintro e w1 ⟨rfl, hb1⟩)
  go_ret2
  exact ⟨_, _, rfl, hb1.alloc hb1.size _, Made.nil _ _ _ _ _⟩
theorem c_sWeightNatural (A : Option Addr) (n c : Nat) (X Y : Nat → Int) (w : World) (hn : n ≤ 1048576) (h : RdA w w.heap.size A n X Y) :
    Calls Try.prog 44 #[.slice A n c] w (Rets 3 w (len16 (avB X Y n)) (fun c => .int .i64 (natB X Y n c)) (avB X Y n)) := by
  cases e : avB X Y n with
  | true =>
    obtain ⟨ad, rfl⟩ := av_some h e
    exact c_sWeightNatural_yes ad n c X Y w hn e h
  | false => exact c_sWeightNatural_no A n c X Y w hn e h
end Go.Proofs.Ytpabcpiiolfakaa
