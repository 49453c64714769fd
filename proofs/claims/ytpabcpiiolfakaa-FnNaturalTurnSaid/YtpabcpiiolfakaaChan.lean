/-
  Contracts: channels, tracks, the number of channels that cover all.
-/
import Derived.Test.YtpabcpiiolfakaaChS
namespace Go.Proofs.Ytpabcpiiolfakaa
open Go.RowKit Go.Deep Go.Shelf

set_option maxHeartbeats 2000000 in
theorem c_TrackChannels_yes (ad : Addr) (n c : Nat) (X Y : Nat → Int) (K : Nat) (w : World) (hn : n ≤ 1048576) (hnc : n ≤ c) (hv : avB X Y n = true) (hk1 : 1 ≤ K) (hk2 : K ≤ 100) (h : RdA w w.heap.size (some ad) n X Y) :
    Calls Try.prog 20 #[.slice (some ad) n c, .int .i64 K] w (Rets 4 w 16 (fun c => .bool (chB X Y n K c)) true) := by
  have C1 := Lib.hid (c_ArrayValid (some ad) n c X Y _ hn hnc h)
  rw [hv] at C1
  have hmk := mk_bools16
  have HA := Lib.hid h
  have z1 : (1 : Int) ≤ (K : Int) := by omega
  have z2 : (K : Int) ≤ 100 := by omega
  clear h
  go_enter Try.func20, Try.ntmps20
  go_wp2_with (go_at_call 54; refine C1.out.mono ?_; rintro e w1 ⟨rfl, hb1⟩)
  have hs1 := hb1.size
  have r0 := Row.made w1 (.bool false) 16 4
  have B1 : Below w.heap.size w (w1.alloc (.cells (madeCells #[.bool false] 16) 4)) := hb1.alloc hs1 _
  clear hmk hb1 C1
  go_loopw [6, 7] (fun v p wr => ∃ (j : Nat) (A1 : Option Addr) (c1 : Nat), j ≤ K ∧ p = .int .i64 (j + 1 : Nat) ∧ v = .slice A1 16 c1 ∧ Below w.heap.size w wr ∧ Made wr w.heap.size 4 A1 16 (fun c => .bool (chB X Y n j c))) (fun _ p _ => K + 1 - (intOf p).toNat)
  case atStart => exact ⟨0, _, _, Nat.zero_le _, rfl, rfl, B1, fun _ => ⟨_, rfl, hs1, r0.congr (fun _ _ => rfl)⟩⟩
  case round =>
    obtain ⟨j, A1, c1, hj, rfl, rfl, hb, hM⟩ := hrel
    by_cases hlt : j < K
    · have hz : (j : Int) + 1 ≤ (K : Int) := by omega
      have hA := HA.out.step hb
      have CS := Lib.hid (c_TrackScale_yes ad n c X Y ((j + 1 : Nat) : Int) wr hn hnc hv (by omega) (by omega) hA)
      have hD := hM.rd
      clear hM hA
      go_wp2_with fail
      refine CS.out.mono ?_
      rintro e w2 ⟨A2, c2, rfl, hb2, hm2⟩
      have hD2 := hD.step hb2
      have B2 := below_seq hb hb2
      have hE2 := hm2.rd
      have CJ := c_CoverJoin A1 A2 16 16 c1 c2 (chB X Y n j) (trB ((j + 1 : Nat) : Int) X Y n) w2 (by omega) (by omega) hD2 hE2
      rw [(SymB.ch X Y n j).cv, cv_tr] at CJ
      have CJ := Lib.hid CJ
      clear hD hm2 hD2 hE2 CS
      go_wp2_with fail
      refine CJ.out.mono ?_
      rintro e w3 ⟨A3, c3, rfl, hb3, hm3⟩
      go_wp2
      go_roundw
      case rel => exact ⟨j + 1, A3, c3, by omega, by go_num, rfl, below_seq B2 hb3, (hm3.less B2.size).congr (fun c _ => by rw [chB_succ])⟩
      case measure => simp [intOf]; omega
    · have e : j = K := by omega
      subst e
      go_wp2
      go_ret2
      exact ⟨_, _, rfl, hb, hM⟩
theorem c_TrackChannels_no (A : Option Addr) (n c : Nat) (X Y : Nat → Int) (k : Int) (w : World) (hn : n ≤ 1048576) (hnc : n ≤ c) (hv : tsOk X Y n k = false) (h : RdA w w.heap.size A n X Y) :
    Calls Try.prog 20 #[.slice A n c, .int .i64 k] w (Rets 4 w 0 (fun c => .bool (chB X Y n k.toNat c)) false) := by
  have C1 := Lib.hid (c_ArrayValid A n c X Y _ hn hnc h)
  clear h
  rcases tsOk_cases hv with hv | ⟨hv, hk⟩
  · rw [hv] at C1
    clear hv
    go_enter Try.func20, Try.ntmps20
    go_wp2_with (go_at_call 54; refine C1.out.mono ?_; rintro e w1 ⟨rfl, hb1⟩)
    go_ret2
    exact ⟨_, _, rfl, hb1, Made.nil _ _ _ _ _⟩
  · rw [hv] at C1
    have hk' := inB_false hk
    clear hv hk
    rcases hk' with hk | hk
    all_goals
      go_enter Try.func20, Try.ntmps20
      go_wp2_with (go_at_call 54; refine C1.out.mono ?_; rintro e w1 ⟨rfl, hb1⟩)
      go_ret2
      exact ⟨_, _, rfl, hb1, Made.nil _ _ _ _ _⟩
theorem c_TrackChannels (A : Option Addr) (n c : Nat) (X Y : Nat → Int) (k : Int) (w : World) (hn : n ≤ 1048576) (hnc : n ≤ c) (h : RdA w w.heap.size A n X Y) :
    Calls Try.prog 20 #[.slice A n c, .int .i64 k] w (Rets 4 w (len16 (tsOk X Y n k)) (fun c => .bool (chB X Y n k.toNat c)) (tsOk X Y n k)) := by
  cases e : tsOk X Y n k with
  | true =>
    obtain ⟨hv, h1, h2⟩ := tsOk_true e
    obtain ⟨ad, rfl⟩ := av_some h hv
    obtain ⟨K, rfl⟩ : ∃ K : Nat, k = K := ⟨k.toNat, by omega⟩
    exact c_TrackChannels_yes ad n c X Y K w hn hnc hv (by omega) (by omega) h
  | false => exact c_TrackChannels_no A n c X Y k w hn hnc e h
set_option maxHeartbeats 2000000 in
theorem c_sTrackChannels_yes (ad : Addr) (n c : Nat) (X Y : Nat → Int) (K : Nat) (w : World) (hn : n ≤ 1048576) (hv : avB X Y n = true) (hk1 : 1 ≤ K) (hk2 : K ≤ 100) (h : RdA w w.heap.size (some ad) n X Y) :
    Calls Try.prog 33 #[.slice (some ad) n c, .int .i64 K] w (Rets 4 w 16 (fun c => .bool (chB X Y n K c)) true) := by
  have C1 := Lib.hid (c_sArrayValid (some ad) n c X Y _ hn h)
  rw [hv] at C1
  have hmk := mk_bools16
  have HA := Lib.hid h
  have z1 : (1 : Int) ≤ (K : Int) := by omega
  have z2 : (K : Int) ≤ 100 := by omega
  clear h
  have CI := Lib.hid (fun w => c_l6In (K : Int) 1 100 w)
  rw [inB_mk z1 z2] at CI
  go_enter Try.func33, Try.ntmps33
  go_wp2_with (first | (go_at_call 55; refine C1.out.mono ?_; rintro e w1 ⟨rfl, hb1⟩) | (go_at_call 65; refine (CI.out _).mono ?_; rintro e w' ⟨rfl, rfl⟩) | (go_at_call 57; refine (c_l21Cells _).mono ?_; rintro e w' ⟨rfl, rfl⟩))
  have hs1 := hb1.size
  have r0 := Row.made w1 (.bool false) 16 4
  have B1 : Below w.heap.size w (w1.alloc (.cells (madeCells #[.bool false] 16) 4)) := hb1.alloc hs1 _
  clear hmk hb1 C1
  go_loopw [6, 7] (fun v p wr => ∃ (j : Nat) (A1 : Option Addr) (c1 : Nat), j ≤ K ∧ p = .int .i64 (j + 1 : Nat) ∧ v = .slice A1 16 c1 ∧ Below w.heap.size w wr ∧ Made wr w.heap.size 4 A1 16 (fun c => .bool (chB X Y n j c))) (fun _ p _ => K + 1 - (intOf p).toNat)
  case atStart => exact ⟨0, _, _, Nat.zero_le _, rfl, rfl, B1, fun _ => ⟨_, rfl, hs1, r0.congr (fun _ _ => rfl)⟩⟩
  case round =>
    obtain ⟨j, A1, c1, hj, rfl, rfl, hb, hM⟩ := hrel
    by_cases hlt : j < K
    · have hz : (j : Int) + 1 ≤ (K : Int) := by omega
      have hA := HA.out.step hb
      have CS := Lib.hid (c_sTrackScale_yes ad n c X Y ((j + 1 : Nat) : Int) wr hn hv (by omega) (by omega) hA)
      have hD := hM.rd
      clear hM hA
      go_wp2_with fail
      refine CS.out.mono ?_
      rintro e w2 ⟨A2, c2, rfl, hb2, hm2⟩
      have hD2 := hD.step hb2
      have B2 := below_seq hb hb2
      have hE2 := hm2.rd
      have CJ := Lib.hid (c_sCoverJoin A1 A2 c1 c2 (chB X Y n j) (trB ((j + 1 : Nat) : Int) X Y n) w2 (SymB.ch X Y n j).cv (cv_tr _ X Y n) hD2 hE2)
      clear hD hm2 hD2 hE2 CS
      go_wp2_with fail
      refine CJ.out.mono ?_
      rintro e w3 ⟨A3, c3, rfl, hb3, hm3⟩
      go_wp2
      go_roundw
      case rel => exact ⟨j + 1, A3, c3, by omega, by go_num, rfl, below_seq B2 hb3, (hm3.less B2.size).congr (fun c _ => by rw [chB_succ])⟩
      case measure => simp [intOf]; omega
    · have e : j = K := by omega
      subst e
      go_wp2
      go_ret2
      exact ⟨_, _, rfl, hb, hM⟩
theorem c_sTrackChannels_no (A : Option Addr) (n c : Nat) (X Y : Nat → Int) (k : Int) (w : World) (hn : n ≤ 1048576) (hv : tsOk X Y n k = false) (h : RdA w w.heap.size A n X Y) :
    Calls Try.prog 33 #[.slice A n c, .int .i64 k] w (Rets 4 w 0 (fun c => .bool (chB X Y n k.toNat c)) false) := by
  have C1 := Lib.hid (c_sArrayValid A n c X Y _ hn h)
  clear h
  rcases tsOk_cases hv with hv | ⟨hv, hk⟩
  · rw [hv] at C1
    clear hv
    go_enter Try.func33, Try.ntmps33
    go_wp2_with (go_at_call 55; refine C1.out.mono ?_; rintro e w1 ⟨rfl, hb1⟩)
    go_ret2
    exact ⟨_, _, rfl, hb1.alloc hb1.size _, Made.nil _ _ _ _ _⟩
  · rw [hv] at C1
    have CI := Lib.hid (fun w => c_l6In k 1 100 w)
    rw [hk] at CI
    clear hv hk
    go_enter Try.func33, Try.ntmps33
    go_wp2_with (first | (go_at_call 55; refine C1.out.mono ?_; rintro e w1 ⟨rfl, hb1⟩) | (go_at_call 65; refine (CI.out _).mono ?_; rintro e w' ⟨rfl, rfl⟩))
    go_ret2
    exact ⟨_, _, rfl, hb1.alloc hb1.size _, Made.nil _ _ _ _ _⟩
theorem c_sTrackChannels (A : Option Addr) (n c : Nat) (X Y : Nat → Int) (k : Int) (w : World) (hn : n ≤ 1048576) (h : RdA w w.heap.size A n X Y) :
    Calls Try.prog 33 #[.slice A n c, .int .i64 k] w (Rets 4 w (len16 (tsOk X Y n k)) (fun c => .bool (chB X Y n k.toNat c)) (tsOk X Y n k)) := by
  cases e : tsOk X Y n k with
  | true =>
    obtain ⟨hv, h1, h2⟩ := tsOk_true e
    obtain ⟨ad, rfl⟩ := av_some h hv
    obtain ⟨K, rfl⟩ : ∃ K : Nat, k = K := ⟨k.toNat, by omega⟩
    exact c_sTrackChannels_yes ad n c X Y K w hn hv (by omega) (by omega) h
  | false => exact c_sTrackChannels_no A n c X Y k w hn e h
set_option maxHeartbeats 2000000 in
theorem c_TrackCover (A : Option Addr) (n c : Nat) (X Y : Nat → Int) (w : World) (hn : n ≤ 1048576) (hnc : n ≤ c) (h : RdA w w.heap.size A n X Y) :
    Calls Try.prog 22 #[.slice A n c] w (Rets 4 w (len16 (avB X Y n)) (fun c => .bool (kvB X Y n c)) (avB X Y n)) := by
  have C1 := c_CoverOf A n c X Y w hn hnc h
  obtain ⟨d, hd⟩ : ∃ d, avB X Y n = d := ⟨_, rfl⟩
  rw [hd] at C1 ⊢
  have C1 := Lib.hid C1
  clear h hd
  cases d with
  | true =>
    go_enter Try.func22, Try.ntmps22
    go_wp2_with fail
    refine C1.out.mono ?_
    rintro e w1 ⟨A1, c1, rfl, hb1, hm1⟩
    have hD := hm1.rd
    rw [show len16 true = 16 from rfl] at hD hm1 ⊢
    have CT := c_CoverTurn A1 16 c1 (trB 1 X Y n) w1 (by omega) hD
    rw [cv_tr] at CT
    clear C1 hm1
    go_wp2_with fail
    refine CT.mono ?_
    rintro e w2 ⟨A2, c2, rfl, hb2, hm2⟩
    have hD2 := hD.step hb2
    have hE2 := hm2.rd
    rw [show len16 true = 16 from rfl] at hE2 ⊢
    have B2 := below_seq hb1 hb2
    have CJ := c_CoverJoin A1 A2 16 16 c1 c2 (trB 1 X Y n) (fun c => trB 1 X Y n (tornN c)) w2 (by omega) (by omega) hD2 hE2
    rw [cv_tr, (SymB.torn (SymB.tr 1 X Y n)).cv] at CJ
    clear CT hm2
    go_wp2_with fail
    refine CJ.mono ?_
    rintro e w3 ⟨A3, c3, rfl, hb3, hm3⟩
    go_wp2
    go_ret2
    exact ⟨_, _, rfl, below_seq B2 hb3, hm3.less B2.size⟩
  | false =>
    go_enter Try.func22, Try.ntmps22
    go_wp2_with fail
    refine C1.out.mono ?_
    rintro e w1 ⟨A1, c1, rfl, hb1, hm1⟩
    go_wp2
    go_ret2
    exact ⟨_, _, rfl, hb1, Made.nil _ _ _ _ _⟩
set_option maxHeartbeats 2000000 in
theorem c_sTrackCover (A : Option Addr) (n c : Nat) (X Y : Nat → Int) (w : World) (hn : n ≤ 1048576) (h : RdA w w.heap.size A n X Y) :
    Calls Try.prog 23 #[.slice A n c] w (Rets 4 w (len16 (avB X Y n)) (fun c => .bool (kvB X Y n c)) (avB X Y n)) := by
  have C1 := c_sCoverOf A n c X Y w hn h
  obtain ⟨d, hd⟩ : ∃ d, avB X Y n = d := ⟨_, rfl⟩
  rw [hd] at C1 ⊢
  have C1 := Lib.hid C1
  clear h hd
  cases d with
  | true =>
    go_enter Try.func23, Try.ntmps23
    go_wp2_with fail
    refine C1.out.mono ?_
    rintro e w1 ⟨A1, c1, rfl, hb1, hm1⟩
    have hD := hm1.rd
    rw [show len16 true = 16 from rfl] at hD hm1 ⊢
    have hs1 := hb1.size
    clear C1
    go_wp2
    go_loopw [4, 6, 7] (fun v u p wr => ∃ (j : Nat) (A1 : Option Addr) (c1 : Nat) (A2 : Option Addr) (c2 : Nat), j ≤ 3 ∧ p = .int .i64 (j + 1 : Nat) ∧ v = .slice A1 16 c1 ∧ u = .slice A2 16 c2 ∧ Below w.heap.size w wr ∧ Made wr w.heap.size 4 A1 16 (fun c => .bool (raB X Y n j c)) ∧ Rd wr wr.heap.size A2 16 (fun c => .bool (rtB X Y n j c))) (fun _ _ p _ => 4 - (intOf p).toNat)
    case atStart => exact ⟨0, _, _, _, _, Nat.zero_le _, rfl, rfl, rfl, hb1, hm1.congr (fun c _ => by rw [raB_zero]), hD⟩
    case round =>
      obtain ⟨j, A1, c1, A2, c2, hj, rfl, rfl, rfl, hb, hM, hR⟩ := hrel
      by_cases hlt : j < 3
      · have hz : (j : Int) + 1 < 4 := by omega
        have CT := c_sCoverTurn A2 16 c2 (rtB X Y n j) wr (by omega) hR
        rw [(SymB.rt X Y n j).cv] at CT
        have CT := Lib.hid CT
        have hF := hM.rd
        clear hM hR hD hm1
        go_wp2_with fail
        refine CT.out.mono ?_
        rintro e w2 ⟨A3, c3, rfl, hb2, hm2⟩
        have hE2 := hm2.rd
        have hE3 : Rd w2 w2.heap.size A3 16 (fun c => .bool (rtB X Y n (j + 1) c)) := hE2.congr (fun c _ => by rw [rtB_torn])
        have hF2 := hF.step hb2
        have B2 := below_seq hb hb2
        have CJ := Lib.hid (c_sCoverJoin A1 A3 c1 c3 (raB X Y n j) (rtB X Y n (j + 1)) w2 (SymB.ra X Y n j).cv (SymB.rt X Y n (j + 1)).cv hF2 hE3)
        clear CT hF hm2 hE2 hF2
        rw [show len16 true = 16 from rfl]
        go_wp2_with fail
        refine CJ.out.mono ?_
        rintro e w3 ⟨A4, c4, rfl, hb3, hm3⟩
        have hE4 := hE3.step hb3
        go_wp2
        go_roundw
        case rel => exact ⟨j + 1, A4, c4, A3, c3, by omega, by go_num, rfl, rfl, below_seq B2 hb3, (hm3.less B2.size).congr (fun c _ => by rw [raB_succ]), hE4⟩
        case measure => simp [intOf]; omega
      · have e : j = 3 := by omega
        subst e
        go_wp2
        go_ret2
        exact ⟨_, _, rfl, hb, hM.congr (fun c hc => by rw [raB_three X Y n hc])⟩
  | false =>
    go_enter Try.func23, Try.ntmps23
    go_wp2_with fail
    refine C1.out.mono ?_
    rintro e w1 ⟨A1, c1, rfl, hb1, hm1⟩
    go_wp2
    go_ret2
    exact ⟨_, _, rfl, hb1.alloc hb1.size _, Made.nil _ _ _ _ _⟩
set_option maxHeartbeats 2000000 in
theorem c_TrackFull (A : Option Addr) (n c : Nat) (X Y : Nat → Int) (w : World) (hn : n ≤ 1048576) (hnc : n ≤ c) (h : RdA w w.heap.size A n X Y) :
    Calls Try.prog 18 #[.slice A n c] w fun e w' => e = .returned (.int .i64 (tfB X Y n)) ∧ Below w.heap.size w w' := by
  have C1 := c_ArrayValid A n c X Y w hn hnc h
  obtain ⟨d, hd⟩ : ∃ d, avB X Y n = d := ⟨_, rfl⟩
  have et : tfB X Y n = if d = true then tfN (fullB X Y n) else -1 := by rw [tfB, hd]
  rw [hd] at C1
  rw [et]
  clear et
  have C1 := Lib.hid C1
  cases d with
  | true =>
    obtain ⟨ad, rfl⟩ := av_some h hd
    rw [if_pos rfl]
    have HA := Lib.hid h
    clear h
    go_enter Try.func18, Try.ntmps18
    go_wp2_with fail
    refine C1.out.mono ?_
    rintro e w1 ⟨rfl, hb1⟩
    clear C1
    go_wp2
    go_loopw [3] (fun p wr => ∃ K : Nat, 1 ≤ K ∧ K ≤ 5 ∧ p = .int .i64 (K : Nat) ∧ Below w.heap.size w wr ∧ ∀ j, 1 ≤ j → j < K → fullB X Y n j = false) (fun p _ => 5 - (intOf p).toNat)
    case atStart => exact ⟨1, by omega, by omega, rfl, hb1, fun j _ _ => by omega⟩
    case round =>
      obtain ⟨K, hK1, hK5, rfl, hb, hno⟩ := hrel
      have HNO := Lib.hid hno
      clear hno hb1
      by_cases hK4 : K ≤ 4
      · have hz : (K : Int) ≤ 4 := by omega
        have hA := HA.out.step hb
        have CS := Lib.hid (c_TrackChannels_yes ad n c X Y K wr hn hnc hd (by omega) (by omega) hA)
        clear hA
        go_wp2_with fail
        refine CS.out.mono ?_
        rintro e w2 ⟨A2, c2, rfl, hb2, hm2⟩
        obtain ⟨g, rfl, hg, R⟩ := hm2 (by omega)
        have q1 := R.cell (i := 0) (by omega)
        have q2 := R.frozen 0
        have R2 := (R.set 0 (.bool true)).congr (f' := fun c => .bool (zeroB (chB X Y n K) c)) (fun c _ => by unfold zeroB; by_cases e : c = 0 <;> simp [e])
        have B2 := below_seq hb hb2
        have gw : w.heap.size ≤ g := Nat.le_trans hb.size hg
        have CM := c_CoverMany (some ⟨g, 0, none⟩) 16 c2 (zeroB (chB X Y n K)) _ (by omega) (R2.rd R2.lt)
        rw [cmanyB, if_pos (zeroB_sym (SymB.ch X Y n K)).cv] at CM
        have CM := Lib.hid CM
        clear R R2 hm2 hb2 CS
        by_cases hf : cmany (zeroB (chB X Y n K)) = 16
        · have hfb : fullB X Y n K = true := by simp [fullB, hf]
          rw [hf] at CM
          have HF := Lib.hid (tfN_hit hK1 hK4 HNO.out hfb)
          clear hf hfb
          go_wp2_with (go_at_call 31; refine CM.out.mono ?_; rintro e w' ⟨rfl, m3, rfl⟩)
          go_ret
          exact ⟨ret_int HF.out.symm, below_drewN (B2.setCell (p := ⟨g, 0, none⟩) gw _) _⟩
        · have hfb : fullB X Y n K = false := by simp [fullB, hf]
          obtain ⟨z, hzz⟩ : ∃ z, cmany (zeroB (chB X Y n K)) = z := ⟨_, rfl⟩
          rw [hzz] at CM hf
          have hb0 : (z == 16) = false := by simpa using hf
          have HF := Lib.hid hfb
          clear hf hfb hzz
          go_wp2_with (go_at_call 31; refine CM.out.mono ?_; rintro e w' ⟨rfl, m3, rfl⟩)
          go_roundw
          case rel => exact ⟨K + 1, by omega, by omega, by go_num, below_drewN (B2.setCell (p := ⟨g, 0, none⟩) gw _) _, fun j h1 h2 => by
            by_cases e : j = K
            · subst e; exact HF.out
            · exact HNO.out j h1 (by omega)⟩
          case measure => simp [intOf]; omega
      · have e : K = 5 := by omega
        subst e
        go_wp2
        go_ret
        exact ⟨ret_int (tfN_none HNO.out).symm, hb⟩
  | false =>
    clear h hd
    go_enter Try.func18, Try.ntmps18
    go_wp2_with fail
    refine C1.out.mono ?_
    rintro e w1 ⟨rfl, hb1⟩
    go_wp2
    go_ret
    exact ⟨rfl, hb1⟩
set_option maxHeartbeats 2000000 in
theorem c_sTrackFull (A : Option Addr) (n c : Nat) (X Y : Nat → Int) (w : World) (hn : n ≤ 1048576) (h : RdA w w.heap.size A n X Y) :
    Calls Try.prog 19 #[.slice A n c] w fun e w' => e = .returned (.int .i64 (tfB X Y n)) ∧ Below w.heap.size w w' := by
  have C1 := c_sArrayValid A n c X Y w hn h
  obtain ⟨d, hd⟩ : ∃ d, avB X Y n = d := ⟨_, rfl⟩
  have et : tfB X Y n = if d = true then tfN (fullB X Y n) else -1 := by rw [tfB, hd]
  rw [hd] at C1
  rw [et]
  clear et
  have C1 := Lib.hid C1
  cases d with
  | true =>
    obtain ⟨ad, rfl⟩ := av_some h hd
    rw [if_pos rfl]
    have HA := Lib.hid h
    clear h
    go_enter Try.func19, Try.ntmps19
    go_wp2_with fail
    refine C1.out.mono ?_
    rintro e w1 ⟨rfl, hb1⟩
    clear C1
    go_wp2
    go_loopw [3] (fun p wr => ∃ K : Nat, 1 ≤ K ∧ K ≤ 5 ∧ p = .int .i64 (K : Nat) ∧ Below w.heap.size w wr ∧ ∀ j, 1 ≤ j → j < K → fullB X Y n j = false) (fun p _ => 5 - (intOf p).toNat)
    case atStart => exact ⟨1, by omega, by omega, rfl, hb1, fun j _ _ => by omega⟩
    case round =>
      obtain ⟨K, hK1, hK5, rfl, hb, hno⟩ := hrel
      have HNO := Lib.hid hno
      clear hno hb1
      by_cases hK4 : K ≤ 4
      · have hz : (K : Int) ≤ 4 := by omega
        have hA := HA.out.step hb
        have CS := Lib.hid (c_sTrackChannels_yes ad n c X Y K wr hn hd (by omega) (by omega) hA)
        clear hA
        go_wp2_with fail
        refine CS.out.mono ?_
        rintro e w2 ⟨A2, c2, rfl, hb2, hm2⟩
        obtain ⟨g, rfl, hg, R⟩ := hm2 (by omega)
        have q1 := R.cell (i := 0) (by omega)
        have q2 := R.frozen 0
        have R2 := (R.set 0 (.bool true)).congr (f' := fun c => .bool (zeroB (chB X Y n K) c)) (fun c _ => by unfold zeroB; by_cases e : c = 0 <;> simp [e])
        have B2 := below_seq hb hb2
        have gw : w.heap.size ≤ g := Nat.le_trans hb.size hg
        have CM := c_sCoverMany (some ⟨g, 0, none⟩) 16 c2 (zeroB (chB X Y n K)) _ (by omega) (R2.rd R2.lt)
        rw [cmanyB, if_pos (zeroB_sym (SymB.ch X Y n K)).cv] at CM
        have CM := Lib.hid CM
        clear R R2 hm2 hb2 CS
        by_cases hf : cmany (zeroB (chB X Y n K)) = 16
        · have hfb : fullB X Y n K = true := by simp [fullB, hf]
          rw [hf] at CM
          have HF := Lib.hid (tfN_hit hK1 hK4 HNO.out hfb)
          clear hf hfb
          go_wp2_with (first | (go_at_call 56; refine CM.out.mono ?_; rintro e w' ⟨rfl, m3, rfl⟩) | (go_at_call 57; refine (c_l21Cells _).mono ?_; rintro e w' ⟨rfl, rfl⟩))
          go_ret
          exact ⟨ret_int HF.out.symm, below_drewN (B2.setCell (p := ⟨g, 0, none⟩) gw _) _⟩
        · have hfb : fullB X Y n K = false := by simp [fullB, hf]
          obtain ⟨z, hzz⟩ : ∃ z, cmany (zeroB (chB X Y n K)) = z := ⟨_, rfl⟩
          rw [hzz] at CM hf
          have hb0 : (z == 16) = false := by simpa using hf
          have HF := Lib.hid hfb
          clear hf hfb hzz
          go_wp2_with (first | (go_at_call 56; refine CM.out.mono ?_; rintro e w' ⟨rfl, m3, rfl⟩) | (go_at_call 57; refine (c_l21Cells _).mono ?_; rintro e w' ⟨rfl, rfl⟩))
          go_roundw
          case rel => exact ⟨K + 1, by omega, by omega, by go_num, below_drewN (B2.setCell (p := ⟨g, 0, none⟩) gw _) _, fun j h1 h2 => by
            by_cases e : j = K
            · subst e; exact HF.out
            · exact HNO.out j h1 (by omega)⟩
          case measure => simp [intOf]; omega
      · have e : K = 5 := by omega
        subst e
        go_wp2
        go_ret
        exact ⟨ret_int (tfN_none HNO.out).symm, hb⟩
  | false =>
    clear h hd
    go_enter Try.func19, Try.ntmps19
    go_wp2_with fail
    refine C1.out.mono ?_
    rintro e w1 ⟨rfl, hb1⟩
    go_wp2
    go_ret
    exact ⟨rfl, hb1⟩
end Go.Proofs.Ytpabcpiiolfakaa
