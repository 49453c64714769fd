/-
  Contracts: the cells that an array covers at a factor, where there are none; the reference's.
-/
import Derived.Test.YtpabcpiiolfakaaTrack
namespace Go.Proofs.Ytpabcpiiolfakaa
open Go.RowKit Go.Deep Go.Shelf
attribute [local go_sem] Oper.semAt_some

theorem tsOk_cases {X Y : Nat → Int} {n : Nat} {k : Int} (h : tsOk X Y n k = false) : avB X Y n = false ∨ (avB X Y n = true ∧ inB 1 100 k = false) := by
  cases e : avB X Y n with
  | false => exact .inl rfl
  | true => exact .inr ⟨rfl, by rw [tsOk, e] at h; exact h⟩
theorem tsOk_one (X Y : Nat → Int) (n : Nat) : tsOk X Y n 1 = avB X Y n := by simp [tsOk, inB]

set_option maxRecDepth 100000 in
set_option maxHeartbeats 2000000 in
theorem c_TrackScale_no (A : Option Addr) (n c : Nat) (X Y : Nat → Int) (k : Int) (w : World) (hn : n ≤ 1048576) (hnc : n ≤ c) (hv : tsOk X Y n k = false) (h : RdA w w.heap.size A n X Y) :
    Calls Try.prog 34 #[.slice A n c, .int .i64 k] w (Rets 4 w 0 (fun c => .bool (trB k X Y n c)) false) := by
  have hb0 : Below w.heap.size w ((w.alloc (.cells #[.slice A n c] 23)).alloc (.cells #[.int .i64 k] 3)) := ((Below.refl _ _).alloc (Nat.le_refl _) _).alloc (by simp) _
  have a2 : ((w.alloc (.cells #[.slice A n c] 23)).alloc (.cells #[.int .i64 k] 3)).cell? ⟨w.heap.size + 1, 0, none⟩ = some (.int .i64 k) := by simp
  have sz : ((w.alloc (.cells #[.slice A n c] 23)).alloc (.cells #[.int .i64 k] 3)).heap.size = w.heap.size + 2 := by simp
  have hA := h.step hb0
  have C1 := Lib.hid (c_ArrayValid A n c X Y _ hn hnc hA)
  clear h hA
  rcases tsOk_cases hv with hv | ⟨hv, hk⟩
  · rw [hv] at C1
    clear hv
    refine (callsIn_wide (n := 3)).1 ?_
    refine callsIn_of_wp_marks Try.func34 rfl trivial ?_ rfl
    simp only [Try.ntmps34, List.size_toArray, List.length_cons, List.length_nil, Nat.reduceAdd, Nat.reduceSub, Array.replicate_succ, Array.replicate_zero, List.push_toArray, List.append_toArray, List.nil_append, List.cons_append]
    gi_wp2_with (refine ⟨trivial, ?_⟩; gi_at_call 54; refine (callsIn_wide.2 C1.out).mono ?_; rintro e w1 ⟨rfl, hb1⟩; have c2 := (hb1.cell (p := ⟨w.heap.size + 1, 0, none⟩) (by rw [sz]; show w.heap.size + 1 < _; omega)).trans a2)
    refine ⟨.tuple #[.slice none 0 0, .bool false], by simp [results, Try.results34, go_sem], _, _, rfl, hb0.trans (hb1.mono (by rw [sz]; omega)), Made.nil _ _ _ _ _⟩
  · rw [hv] at C1
    have hk' := inB_false hk
    clear hv hk
    rcases hk' with hk | hk
    · refine (callsIn_wide (n := 3)).1 ?_
      refine callsIn_of_wp_marks Try.func34 rfl trivial ?_ rfl
      simp only [Try.ntmps34, List.size_toArray, List.length_cons, List.length_nil, Nat.reduceAdd, Nat.reduceSub, Array.replicate_succ, Array.replicate_zero, List.push_toArray, List.append_toArray, List.nil_append, List.cons_append]
      gi_wp2_with (refine ⟨trivial, ?_⟩; gi_at_call 54; refine (callsIn_wide.2 C1.out).mono ?_; rintro e w1 ⟨rfl, hb1⟩; have c2 := (hb1.cell (p := ⟨w.heap.size + 1, 0, none⟩) (by rw [sz]; show w.heap.size + 1 < _; omega)).trans a2)
      refine ⟨.tuple #[.slice none 0 0, .bool false], by simp [results, Try.results34, go_sem], _, _, rfl, hb0.trans (hb1.mono (by rw [sz]; omega)), Made.nil _ _ _ _ _⟩
    · refine (callsIn_wide (n := 3)).1 ?_
      refine callsIn_of_wp_marks Try.func34 rfl trivial ?_ rfl
      simp only [Try.ntmps34, List.size_toArray, List.length_cons, List.length_nil, Nat.reduceAdd, Nat.reduceSub, Array.replicate_succ, Array.replicate_zero, List.push_toArray, List.append_toArray, List.nil_append, List.cons_append]
      gi_wp2_with (refine ⟨trivial, ?_⟩; gi_at_call 54; refine (callsIn_wide.2 C1.out).mono ?_; rintro e w1 ⟨rfl, hb1⟩; have c2 := (hb1.cell (p := ⟨w.heap.size + 1, 0, none⟩) (by rw [sz]; show w.heap.size + 1 < _; omega)).trans a2)
      refine ⟨.tuple #[.slice none 0 0, .bool false], by simp [results, Try.results34, go_sem], _, _, rfl, hb0.trans (hb1.mono (by rw [sz]; omega)), Made.nil _ _ _ _ _⟩
theorem l21At_still (x y : Int) (r : Nat) (h : cellN x y = r) (w : World) : Calls Try.prog 71 #[.int .i64 x, .int .i64 y] w fun e w' => e = .returned (.int .i64 (r : Nat)) ∧ w' = w := by
  subst h; exact (c_l21At x y w).mono fun _ _ ⟨h1, h2⟩ => ⟨h1, h2.symm⟩
set_option maxRecDepth 100000 in
set_option maxHeartbeats 2000000 in
theorem c_sTrackScale_yes (ad : Addr) (n c : Nat) (X Y : Nat → Int) (k : Int) (w : World) (hn : n ≤ 1048576) (hv : avB X Y n = true) (hk1 : 1 ≤ k) (hk2 : k ≤ 100) (h : RdA w w.heap.size (some ad) n X Y) :
    Calls Try.prog 66 #[.slice (some ad) n c, .int .i64 k] w (Rets 4 w 16 (fun c => .bool (trB k X Y n c)) true) := by
  obtain ⟨⟨h2, h7⟩, hXY, _⟩ := avB_true hv
  have C1 := Lib.hid (c_sArrayValid (some ad) n c X Y _ hn h)
  rw [hv] at C1
  have CI := Lib.hid (fun w => c_l6In k 1 100 w)
  rw [inB_mk hk1 hk2] at CI
  have hmk := mk_bools16
  have HXY := Lib.hid hXY
  obtain ⟨_, e0, hab, hc⟩ := h.at_ (k := 0) (by omega)
  injection e0 with e0
  subst e0
  have HC := Lib.hid hc
  clear hXY h hc
  go_enter Try.func66, Try.ntmps66
  go_wp2_with (first | (go_at_call 55; refine C1.out.mono ?_; rintro e w1 ⟨rfl, hb1⟩) | (go_at_call 65; refine (CI.out _).mono ?_; rintro e w' ⟨rfl, rfl⟩) | (go_at_call 57; refine (c_l21Cells _).mono ?_; rintro e w' ⟨rfl, rfl⟩))
  have hs1 := hb1.size
  have r0 := Row.made w1 (.bool false) 16 4
  have B1 : Below w.heap.size w (w1.alloc (.cells (madeCells #[.bool false] 16) 4)) := hb1.alloc hs1 _
  clear hmk hb1
  go_loopw [7] (fun p wr => ∃ i : Nat, i ≤ n ∧ p = .int .i64 i ∧ Below w.heap.size w wr ∧ Row wr w1.heap.size 4 16 (fun c => .bool (spB k X Y n i 0 c))) (fun p _ => n - (intOf p).toNat)
  case atStart => exact ⟨0, Nat.zero_le _, rfl, B1, r0.congr (fun _ _ => rfl)⟩
  case round =>
    obtain ⟨i, hi, rfl, hb, hr⟩ := hrel
    by_cases hlt : i < n
    · have hz : (i : Int) < (n : Int) := by omega
      go_wp2
      go_loopw [8] (fun q wr => ∃ j : Nat, j ≤ n ∧ q = .int .i64 j ∧ Below w.heap.size w wr ∧ Row wr w1.heap.size 4 16 (fun c => .bool (spB k X Y n i j c))) (fun q _ => n - (intOf q).toNat)
      case atStart => exact ⟨0, Nat.zero_le _, rfl, hb, hr⟩
      case round =>
        obtain ⟨j, hj, rfl, hbj, hrj⟩ := hrel
        clear hb hr
        by_cases hjt : j < n
        · have hz2 : (j : Int) < (n : Int) := by omega
          by_cases hij : i = j
          · have hne : ((i : Int) != (j : Int)) = false := by simpa using (by omega : (i : Int) = (j : Int))
            have hne2 : ((i : Int) == (j : Int)) = true := by simpa using (by omega : (i : Int) = (j : Int))
            have HE := Lib.hid hij
            clear hij
            go_wp2
            go_roundw
            case rel => exact ⟨j + 1, by omega, by go_num, hbj, hrj.congr (fun c _ => by rw [← HE.out, spB_same])⟩
            case measure => simp [intOf]; omega
          · have hne : ((i : Int) == (j : Int)) = false := by simpa using (by omega : (i : Int) ≠ (j : Int))
            have HE := Lib.hid hij
            clear hij
            go_wp2
            have bi := HXY.out i hlt
            have bj := HXY.out j hjt
            have v1 := (hbj.cell (p := ad.add (i * 2)) (by rw [block_add]; exact hab)).trans (HC.out i hlt).1
            have v2 := (hbj.cell (p := ⟨(ad.add (i * 2)).block, (ad.add (i * 2)).off + 1, none⟩) (by simp only [block_add]; exact hab)).trans (HC.out i hlt).2
            have v3 := (hbj.cell (p := ad.add (j * 2)) (by rw [block_add]; exact hab)).trans (HC.out j hjt).1
            have v4 := (hbj.cell (p := ⟨(ad.add (j * 2)).block, (ad.add (j * 2)).off + 1, none⟩) (by simp only [block_add]; exact hab)).trans (HC.out j hjt).2
            have m1 := mul_bd ⟨hk1, hk2⟩ (d := X j - X i) (by omega)
            have m2 := mul_bd ⟨hk1, hk2⟩ (d := Y j - Y i) (by omega)
            have e1 : IntKind.i64.wrap (X j - X i) = X j - X i := IntWalk.i64_in _ (by omega)
            have e2 : IntKind.i64.wrap (Y j - Y i) = Y j - Y i := IntWalk.i64_in _ (by omega)
            have e3 : IntKind.i64.wrap (k * (X j - X i)) = k * (X j - X i) := IntWalk.i64_in _ (by omega)
            have e4 : IntKind.i64.wrap (k * (Y j - Y i)) = k * (Y j - Y i) := IntWalk.i64_in _ (by omega)
            obtain ⟨q1, hq1, lq1⟩ : ∃ q, cellK k X Y i j = q ∧ q < 16 := ⟨_, rfl, cellK_lt _ _ _ _ _⟩
            have CC := Lib.hid (l21At_still (IntKind.i64.wrap (k * IntKind.i64.wrap (X j - X i))) (IntKind.i64.wrap (k * IntKind.i64.wrap (Y j - Y i))) q1 (by rw [e1, e2, e3, e4]; exact hq1))
            have HQ := Lib.hid hq1
            clear e1 e2 e3 e4 m1 m2 bi bj hq1
            have i1 : (q1 : Int) < 16 := by omega
            have o1 := hrj.frozen q1
            have o2 := hrj.cell lq1
            refine wp_region_still_tail 29 (by kernel_rfl) (by kernel_rfl) ?_
            simp only [List.take_succ_cons, List.take_zero, List.drop_succ_cons, List.drop_zero]
            change wpStill _ _ wr.drew _ _ _
            repeat still_step
            still_call (CC.out _)
            repeat still_step
            refine wpStill_nil ?_
            change wpList _ _ _ _ _ wr.drew
            go_wp2
            go_roundw
            case rel => exact ⟨j + 1, by omega, by go_num, below_drew (hbj.setCell (p := ⟨w1.heap.size, q1, none⟩) hs1 _), (hrj.set q1 _).congr (fun c _ => by rw [spB_step _ _ _ _ _ _ _ HE.out, HQ.out]; by_cases e : c = q1 <;> simp [e])⟩
            case measure => simp [intOf]; omega
        · have e : j = n := by omega
          go_wp2
          go_roundw
          case rel => exact ⟨i + 1, by omega, by go_num, hbj, hrj.congr (fun c _ => by rw [e, spB_next])⟩
          case measure => simp [intOf]; omega
    · have e : i = n := by omega
      go_wp2
      go_ret2
      exact ⟨_, _, rfl, hb, fun _ => ⟨_, rfl, hs1, hr.congr (fun c _ => by rw [e, spB_end])⟩⟩
end Go.Proofs.Ytpabcpiiolfakaa
