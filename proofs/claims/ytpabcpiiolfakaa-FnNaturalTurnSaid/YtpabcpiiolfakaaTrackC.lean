/-
  Contracts: the cells that an array covers, at all arguments; coverages.
-/
import Derived.Test.YtpabcpiiolfakaaTrackS
namespace Go.Proofs.Ytpabcpiiolfakaa
open Go.RowKit Go.Deep Go.Shelf

theorem av_some {w : World} {B n : Nat} {A : Option Addr} {X Y : Nat → Int} (h : RdA w B A n X Y) (hv : avB X Y n = true) : ∃ ad, A = some ad := by
  obtain ⟨ad, e, _⟩ := h.at_ (k := 0) (by have := (avB_true hv).1; omega)
  exact ⟨ad, e⟩
theorem c_TrackScale (A : Option Addr) (n c : Nat) (X Y : Nat → Int) (k : Int) (w : World) (hn : n ≤ 1048576) (hnc : n ≤ c) (h : RdA w w.heap.size A n X Y) :
    Calls Try.prog 34 #[.slice A n c, .int .i64 k] w (Rets 4 w (len16 (tsOk X Y n k)) (fun c => .bool (trB k X Y n c)) (tsOk X Y n k)) := by
  cases e : tsOk X Y n k with
  | true =>
    obtain ⟨hv, h1, h2⟩ := tsOk_true e
    obtain ⟨ad, rfl⟩ := av_some h hv
    exact c_TrackScale_yes ad n c X Y k w hn hnc hv h1 h2 h
  | false => exact c_TrackScale_no A n c X Y k w hn hnc e h
theorem c_CoverOf (A : Option Addr) (n c : Nat) (X Y : Nat → Int) (w : World) (hn : n ≤ 1048576) (hnc : n ≤ c) (h : RdA w w.heap.size A n X Y) :
    Calls Try.prog 26 #[.slice A n c] w (Rets 4 w (len16 (avB X Y n)) (fun c => .bool (trB 1 X Y n c)) (avB X Y n)) := by
  have C := Lib.hid (c_TrackScale A n c X Y 1 w hn hnc h)
  rw [tsOk_one] at C
  clear h
  go_enter Try.func26, Try.ntmps26
  go_wp2_with (go_at_call 34; refine C.out.mono ?_; rintro e w1 ⟨A1, c1, rfl, hb, hm⟩)
  go_ret2
  exact ⟨_, _, rfl, hb, hm⟩
theorem c_sTrackScale_no (A : Option Addr) (n c : Nat) (X Y : Nat → Int) (k : Int) (w : World) (hn : n ≤ 1048576) (hv : tsOk X Y n k = false) (h : RdA w w.heap.size A n X Y) :
    Calls Try.prog 66 #[.slice A n c, .int .i64 k] w (Rets 4 w 0 (fun c => .bool (trB k X Y n c)) false) := by
  have C1 := Lib.hid (c_sArrayValid A n c X Y _ hn h)
  clear h
  rcases tsOk_cases hv with hv | ⟨hv, hk⟩
  · rw [hv] at C1
    clear hv
    go_enter Try.func66, Try.ntmps66
    go_wp2_with (go_at_call 55; refine C1.out.mono ?_; rintro e w1 ⟨rfl, hb1⟩)
    go_ret2
    exact ⟨_, _, rfl, hb1.alloc hb1.size _, Made.nil _ _ _ _ _⟩
  · rw [hv] at C1
    have CI := Lib.hid (fun w => c_l6In k 1 100 w)
    rw [hk] at CI
    clear hv hk
    go_enter Try.func66, Try.ntmps66
    go_wp2_with (first | (go_at_call 55; refine C1.out.mono ?_; rintro e w1 ⟨rfl, hb1⟩) | (go_at_call 65; refine (CI.out _).mono ?_; rintro e w' ⟨rfl, rfl⟩))
    go_ret2
    exact ⟨_, _, rfl, hb1.alloc hb1.size _, Made.nil _ _ _ _ _⟩
theorem c_sTrackScale (A : Option Addr) (n c : Nat) (X Y : Nat → Int) (k : Int) (w : World) (hn : n ≤ 1048576) (h : RdA w w.heap.size A n X Y) :
    Calls Try.prog 66 #[.slice A n c, .int .i64 k] w (Rets 4 w (len16 (tsOk X Y n k)) (fun c => .bool (trB k X Y n c)) (tsOk X Y n k)) := by
  cases e : tsOk X Y n k with
  | true =>
    obtain ⟨hv, h1, h2⟩ := tsOk_true e
    obtain ⟨ad, rfl⟩ := av_some h hv
    exact c_sTrackScale_yes ad n c X Y k w hn hv h1 h2 h
  | false => exact c_sTrackScale_no A n c X Y k w hn e h
set_option maxRecDepth 100000 in
set_option maxHeartbeats 2000000 in
theorem c_sCoverOf_yes (ad : Addr) (n c : Nat) (X Y : Nat → Int) (w : World) (hn : n ≤ 1048576) (hv : avB X Y n = true) (h : RdA w w.heap.size (some ad) n X Y) :
    Calls Try.prog 58 #[.slice (some ad) n c] w (Rets 4 w 16 (fun c => .bool (trB 1 X Y n c)) true) := by
  obtain ⟨⟨h2, h7⟩, hXY, _⟩ := avB_true hv
  have C1 := Lib.hid (c_sArrayValid (some ad) n c X Y _ hn h)
  rw [hv] at C1
  have hmk := mk_bools16
  have HXY := Lib.hid hXY
  obtain ⟨_, e0, hab, hc⟩ := h.at_ (k := 0) (by omega)
  injection e0 with e0
  subst e0
  have HC := Lib.hid hc
  clear hXY h hc
  go_enter Try.func58, Try.ntmps58
  go_wp2_with (first | (go_at_call 55; refine C1.out.mono ?_; rintro e w1 ⟨rfl, hb1⟩) | (go_at_call 57; refine (c_l21Cells _).mono ?_; rintro e w' ⟨rfl, rfl⟩))
  have hs1 := hb1.size
  have r0 := Row.made w1 (.bool false) 16 4
  have B1 : Below w.heap.size w (w1.alloc (.cells (madeCells #[.bool false] 16) 4)) := hb1.alloc hs1 _
  clear hmk hb1
  go_loopw [5] (fun p wr => ∃ i : Nat, i ≤ n ∧ p = .int .i64 i ∧ Below w.heap.size w wr ∧ Row wr w1.heap.size 4 16 (fun c => .bool (spB 1 X Y n i 0 c))) (fun p _ => n - (intOf p).toNat)
  case atStart => exact ⟨0, Nat.zero_le _, rfl, B1, r0.congr (fun _ _ => rfl)⟩
  case round =>
    obtain ⟨i, hi, rfl, hb, hr⟩ := hrel
    by_cases hlt : i < n
    · have hz : (i : Int) < (n : Int) := by omega
      go_wp2
      go_loopw [6] (fun q wr => ∃ j : Nat, j ≤ n ∧ q = .int .i64 j ∧ Below w.heap.size w wr ∧ Row wr w1.heap.size 4 16 (fun c => .bool (spB 1 X Y n i j c))) (fun q _ => n - (intOf q).toNat)
      case atStart => exact ⟨0, Nat.zero_le _, rfl, hb, hr⟩
      case round =>
        obtain ⟨j, hj, rfl, hbj, hrj⟩ := hrel
        clear hb hr
        by_cases hjt : j < n
        · have hz2 : (j : Int) < (n : Int) := by omega
          by_cases hij : i = j
          · have hne : ((i : Int) != (j : Int)) = false := by simpa using (by omega : (i : Int) = (j : Int))
            have hne2 : ((i : Int) == (j : Int)) = true := by simpa using (by omega : (i : Int) = (j : Int))
            have HE := Lib.hid hij
            clear hij
            go_wp2
            go_roundw
            case rel => exact ⟨j + 1, by omega, by go_num, hbj, hrj.congr (fun c _ => by rw [← HE.out, spB_same])⟩
            case measure => simp [intOf]; omega
          · have hne : ((i : Int) == (j : Int)) = false := by simpa using (by omega : (i : Int) ≠ (j : Int))
            have HE := Lib.hid hij
            clear hij
            go_wp2
            have bi := HXY.out i hlt
            have bj := HXY.out j hjt
            have v1 := (hbj.cell (p := ad.add (i * 2)) (by rw [block_add]; exact hab)).trans (HC.out i hlt).1
            have v2 := (hbj.cell (p := ⟨(ad.add (i * 2)).block, (ad.add (i * 2)).off + 1, none⟩) (by simp only [block_add]; exact hab)).trans (HC.out i hlt).2
            have v3 := (hbj.cell (p := ad.add (j * 2)) (by rw [block_add]; exact hab)).trans (HC.out j hjt).1
            have v4 := (hbj.cell (p := ⟨(ad.add (j * 2)).block, (ad.add (j * 2)).off + 1, none⟩) (by simp only [block_add]; exact hab)).trans (HC.out j hjt).2
            have e1 : IntKind.i64.wrap (X j - X i) = X j - X i := IntWalk.i64_in _ (by omega)
            have e2 : IntKind.i64.wrap (Y j - Y i) = Y j - Y i := IntWalk.i64_in _ (by omega)
            obtain ⟨q1, hq1, lq1⟩ : ∃ q, cellK 1 X Y i j = q ∧ q < 16 := ⟨_, rfl, cellK_lt _ _ _ _ _⟩
            have CC := Lib.hid (l21At_still (IntKind.i64.wrap (X j - X i)) (IntKind.i64.wrap (Y j - Y i)) q1 (by rw [e1, e2, ← hq1, cellK, Int.one_mul, Int.one_mul]))
            have HQ := Lib.hid hq1
            clear e1 e2 bi bj hq1
            have i1 : (q1 : Int) < 16 := by omega
            have o1 := hrj.frozen q1
            have o2 := hrj.cell lq1
            refine wp_region_still_tail 25 (by kernel_rfl) (by kernel_rfl) ?_
            simp only [List.take_succ_cons, List.take_zero, List.drop_succ_cons, List.drop_zero]
            change wpStill _ _ wr.drew _ _ _
            repeat still_step
            still_call (CC.out _)
            repeat still_step
            refine wpStill_nil ?_
            change wpList _ _ _ _ _ wr.drew
            go_wp2
            go_roundw
            case rel => exact ⟨j + 1, by omega, by go_num, below_drew (hbj.setCell (p := ⟨w1.heap.size, q1, none⟩) hs1 _), (hrj.set q1 _).congr (fun c _ => by rw [spB_step _ _ _ _ _ _ _ HE.out, HQ.out]; by_cases e : c = q1 <;> simp [e])⟩
            case measure => simp [intOf]; omega
        · have e : j = n := by omega
          go_wp2
          go_roundw
          case rel => exact ⟨i + 1, by omega, by go_num, hbj, hrj.congr (fun c _ => by rw [e, spB_next])⟩
          case measure => simp [intOf]; omega
    · have e : i = n := by omega
      go_wp2
      go_ret2
      exact ⟨_, _, rfl, hb, fun _ => ⟨_, rfl, hs1, hr.congr (fun c _ => by rw [e, spB_end])⟩⟩
theorem c_sCoverOf_no (A : Option Addr) (n c : Nat) (X Y : Nat → Int) (w : World) (hn : n ≤ 1048576) (hv : avB X Y n = false) (h : RdA w w.heap.size A n X Y) :
    Calls Try.prog 58 #[.slice A n c] w (Rets 4 w 0 (fun c => .bool (trB 1 X Y n c)) false) := by
  have C1 := Lib.hid (c_sArrayValid A n c X Y _ hn h)
  rw [hv] at C1
  clear h hv
  go_enter Try.func58, Try.ntmps58
  go_wp2_with (go_at_call 55; refine C1.out.mono ?_; rintro e w1 ⟨rfl, hb1⟩)
  go_ret2
  exact ⟨_, _, rfl, hb1.alloc hb1.size _, Made.nil _ _ _ _ _⟩
theorem c_sCoverOf (A : Option Addr) (n c : Nat) (X Y : Nat → Int) (w : World) (hn : n ≤ 1048576) (h : RdA w w.heap.size A n X Y) :
    Calls Try.prog 58 #[.slice A n c] w (Rets 4 w (len16 (avB X Y n)) (fun c => .bool (trB 1 X Y n c)) (avB X Y n)) := by
  cases e : avB X Y n with
  | true =>
    obtain ⟨ad, rfl⟩ := av_some h e
    exact c_sCoverOf_yes ad n c X Y w hn e h
  | false => exact c_sCoverOf_no A n c X Y w hn e h
end Go.Proofs.Ytpabcpiiolfakaa
