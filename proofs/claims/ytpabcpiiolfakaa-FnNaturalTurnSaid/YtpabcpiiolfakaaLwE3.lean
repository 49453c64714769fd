/-
  Laws over drawn arrays: the number of channels that covers all.
-/
import Derived.Test.YtpabcpiiolfakaaDrawE
import Derived.Test.YtpabcpiiolfakaaAppN
namespace Go.Proofs.Ytpabcpiiolfakaa
open Go.RowKit Go.Deep

theorem sum_le' {f g : Nat → Int} : ∀ n, (∀ k, k < n → f k ≤ g k) → sumN f n ≤ sumN g n
  | 0, _ => by simp [sumN]
  | n + 1, h => by
    have a := sum_le' n fun k hk => h k (by omega)
    have b := h n (by omega)
    simp only [sumN]; omega
theorem cmany_le {f g : Nat → Bool} (h : ∀ k, f k = true → g k = true) : cmany f ≤ cmany g := by
  refine sum_le' 16 fun k _ => ?_
  unfold uni
  cases hf : f k with
  | true => simp [h k hf]
  | false => by_cases e : g k = true <;> simp [e]
theorem cmany_16 (f : Nat → Bool) : 0 ≤ cmany f ∧ cmany f ≤ 16 := by
  have h := sumN_bd (f := uni f) (M := 1) (n := 16) (fun k _ => uni_bd' f k) 16 (by omega)
  exact ⟨h.1, by have := h.2; unfold cmany; omega⟩
theorem zeroB_le {f g : Nat → Bool} (h : ∀ k, f k = true → g k = true) : ∀ k, zeroB f k = true → zeroB g k = true := fun k => by
  unfold zeroB
  by_cases e : k = 0
  · simp [e]
  · simpa [e] using h k
theorem full_iff {X Y : Nat → Int} {n K : Nat} : fullB X Y n K = true ↔ cmany (zeroB (chB X Y n K)) = 16 := by simp [fullB]
theorem full_mono {X Y : Nat → Int} {n K L : Nat} (h : K ≤ L) (e : fullB X Y n K = true) : fullB X Y n L = true := by
  rw [full_iff] at e ⊢
  have a := cmany_le (zeroB_le (f := chB X Y n K) (g := chB X Y n L) fun k => chB_mono h)
  have b := cmany_16 (zeroB (chB X Y n L))
  omega
theorem full_less {X Y : Nat → Int} {m n K : Nat} (h : m ≤ n) (e : fullB X Y m K = true) : fullB X Y n K = true := by
  rw [full_iff] at e ⊢
  have a := cmany_le (zeroB_le (f := chB X Y m K) (g := chB X Y n K) fun k => chB_less h)
  have b := cmany_16 (zeroB (chB X Y n K))
  omega
/-- The cells counted behind the first. -/
def cntB (f : Nat → Bool) (k : Nat) : Int := sumN (fun j => uni f (j + 1)) k
theorem cntB_bd (f : Nat → Bool) (k : Nat) : 0 ≤ cntB f k ∧ cntB f k ≤ k := by
  have h := sumN_bd (f := fun j => uni f (j + 1)) (M := 1) (n := k) (fun j _ => uni_bd' f (j + 1)) k (Nat.le_refl _)
  exact ⟨h.1, by have := h.2; unfold cntB; omega⟩
theorem cntB_zero (f : Nat → Bool) : ∀ n, sumN (uni (zeroB f)) (n + 1) = cntB f n + 1
  | 0 => rfl
  | n + 1 => by
    have h := cntB_zero f n
    have e : uni (zeroB f) (n + 1) = uni f (n + 1) := rfl
    unfold cntB at h ⊢
    simp only [sumN] at h ⊢
    omega
theorem cntB_16 (f : Nat → Bool) : cmany (zeroB f) = cntB f 15 + 1 := cntB_zero f 15
theorem tf_none {X Y : Nat → Int} {n : Nat} (h : tfN (fullB X Y n) = 0) : cntB (chB X Y n 4) 15 < 15 := by
  rcases tfN_cases (fullB X Y n) with ⟨-, h0⟩ | ⟨K, K1, K4, hz, -, -⟩
  · have f4 := h0 4 (by omega) (by omega)
    have b := cmany_16 (zeroB (chB X Y n 4))
    have c := cntB_16 (chB X Y n 4)
    have d : cmany (zeroB (chB X Y n 4)) ≠ 16 := fun e => by rw [full_iff.2 e] at f4; exact Bool.noConfusion f4
    omega
  · omega
theorem tf_some {X Y : Nat → Int} {n K : Nat} (K4 : K ≤ 4) (h : fullB X Y n K = true) : cntB (chB X Y n 4) 15 = 15 := by
  have f4 := full_iff.1 (full_mono K4 h)
  have c := cntB_16 (chB X Y n 4)
  omega
theorem tf_less {X Y : Nat → Int} {n : Nat} (h : tfN (fullB X Y n) = 0) : tfB X Y (n - 1) ≤ 0 := by
  unfold tfB
  by_cases hv : avB X Y (n - 1) = true
  · rw [if_pos hv]
    rcases tfN_cases (fullB X Y (n - 1)) with ⟨h0, -⟩ | ⟨K, K1, K4, hz, hK, -⟩
    · omega
    · have f := full_less (Nat.sub_le n 1) hK
      rcases tfN_cases (fullB X Y n) with ⟨-, h0⟩ | ⟨K', K1', K4', hz', -, -⟩
      · rw [h0 K (by omega) (by omega)] at f; exact Bool.noConfusion f
      · omega
  · rw [if_neg hv]; omega
set_option maxHeartbeats 2000000 in
theorem l_FnFull (A : Option Addr) (n c : Nat) (f : Nat → Int) (w : World) (h0 : Rd w w.heap.size A n (fun k => .int .u8 (f k))) (hb : ∀ i, 0 ≤ f i ∧ f i ≤ 255) (hnc : n ≤ c) :
    Calls Try.prog 13 #[.slice A n c] w fun e w' => e = .returned (.bool true) ∧ Below w.heap.size w w' := by
  by_cases hn : n ≤ 1048576
  · go_enter Try.func13, Try.ntmps13
    go_wp2_with fail
    refine (c_DrawTrackFull A n c f _ hn hnc ⟨h0, hb⟩).mono ?_
    rintro e w0 ⟨v, rfl, ⟨b, m, cc, X, Y, hbb, rfl, h1, h6, hcc, hR⟩, B⟩
    have hA : RdA w0 w0.heap.size (some ⟨b, 0, none⟩) m X Y := hR.rd hR.lt
    clear hR h0 hb hbb
    go_wp2_with fail
    refine (c_TrackFull (some ⟨b, 0, none⟩) m cc X Y _ (by omega) hcc hA).mono ?_
    rintro e w1 ⟨rfl, b1⟩
    have hA := hA.step b1
    have B := below_seq B b1
    go_wp2_with fail
    refine (c_sTrackFull (some ⟨b, 0, none⟩) m cc X Y _ (by omega) hA).mono ?_
    rintro e w2 ⟨rfl, b2⟩
    have hA := hA.step b2
    have B := below_seq B b2
    clear b1 b2
    by_cases hv : avB X Y m = true
    · have ht : tfB X Y m = tfN (fullB X Y m) := by rw [tfB, if_pos hv]
      rw [ht]
      rcases tfN_cases (fullB X Y m) with ⟨hz, -⟩ | ⟨K, K1, K4, hz, hK, hno⟩
      · rw [hz]
        clear ht hz
        go_wp2
        go_ret
        exact ⟨rfl, B⟩
      · rw [hz]
        have hno' : K = 1 ∨ ∃ L, K = L + 1 ∧ 1 ≤ L ∧ cmany (zeroB (chB X Y m L)) < 16 := by
          by_cases e : K = 1
          · exact .inl e
          · refine .inr ⟨K - 1, by omega, by omega, ?_⟩
            have f := hno (K - 1) (by omega) (by omega)
            have d : cmany (zeroB (chB X Y m (K - 1))) ≠ 16 := fun e => by rw [full_iff.2 e] at f; exact Bool.noConfusion f
            have b := cmany_16 (zeroB (chB X Y m (K - 1)))
            omega
        have hK := full_iff.1 hK
        have HK := Lib.hid hK
        have HNO := Lib.hid hno'
        clear ht hz hno hno' hK
        have hK1 : (1 : Int) ≤ (K : Int) := by omega
        have hqq : ((K : Int) == (K : Int)) = true := by simp
        have C := c_TrackChannels (some ⟨b, 0, none⟩) m cc X Y (K : Int) w2 (by omega) hcc hA
        rw [tsOk_mk hv (by omega) (by omega), show len16 true = 16 from rfl] at C
        simp only [Int.toNat_natCast] at C
        have C := Lib.hid C
        go_wp2_with fail
        refine C.out.mono ?_
        rintro e w3 ⟨A3, c3, rfl, b3, M3⟩
        have hA := hA.step b3
        have B := below_seq B b3
        have D := M3.rd
        clear C M3 b3
        obtain ⟨ad, rfl, hbx, hcx⟩ := D (by omega)
        have D : Rd w3 w3.heap.size (some ad) 16 (fun k => .bool (chB X Y m K k)) := fun _ => ⟨ad, rfl, hbx, hcx⟩
        clear hcx
        rcases HNO.out with rfl | ⟨L, rfl, hL, hN⟩
        · clear HNO
          go_wp2_with (at_builtin; refine wpList_copy0 _ rfl (.tmp 37) (.tmp 38) 26 rfl w3.heap.size 4 (.bool false) 1 Try.underlying26 info_bool rfl (by omega) _ (fun _ => .bool false) (fun k => .bool (chB X Y m 1 k)) (by rfl) (Own.empty w3 4 _ (Nat.le_refl _)) ad 16 c3 w3.heap.size (by rfl) (D.below ((Below.refl _ _).alloc (Nat.le_refl _) _)) (fun _ _ => rfl) (by omega) (by simp) ?_; intro v4 w4 hown4 hb4; obtain ⟨A4, c4, rfl, hm4⟩ := hown4.made; obtain ⟨gx, rfl, hgx, hrx⟩ := hm4 (by omega); have x1 := hrx.cell (i := 0) (by omega); have x2 := hrx.frozen 0)
          have R2 := (hrx.set 0 (.bool true)).congr (f' := fun c => .bool (zeroB (chB X Y m 1) c)) (fun c _ => by unfold zeroB; by_cases e : c = 0 <;> simp [e])
          have B5 : Below w3.heap.size w3 (w4.setCell ⟨gx, 0, none⟩ (.bool true)) := (((Below.refl _ _).alloc (Nat.le_refl _) _).trans hb4).setCell (p := ⟨gx, 0, none⟩) hgx _
          have CM := c_many_sym (some ⟨gx, 0, none⟩) c4 (zeroB (chB X Y m 1)) _ (zeroB_sym (SymB.ch X Y m 1)) (R2.rd R2.lt)
          rw [HK.out] at CM
          refine CM.mono ?_
          rintro e w' ⟨rfl, m5, rfl⟩
          have B := below_drewN (below_seq B B5) m5
          clear hrx hm4 hown4 x1 x2 R2 CM
          go_wp2
          go_ret
          exact ⟨rfl, B⟩
        · have hL1 : (((L + 1 : Nat) : Int) == 1) = false := by simpa using (by omega : ((L + 1 : Nat) : Int) ≠ 1)
          have hL2 : (((L : Int) + 1) == 1) = false := by simpa using (by omega : ((L : Int) + 1) ≠ 1)
          have hLb : (L : Int) ≤ 3 := by omega
          have hLi : (1 : Int) ≤ (L : Int) := by omega
          have HN := Lib.hid hN
          clear HNO hN
          go_wp2_with (at_builtin; refine wpList_copy0 _ rfl (.tmp 37) (.tmp 38) 26 rfl w3.heap.size 4 (.bool false) 1 Try.underlying26 info_bool rfl (by omega) _ (fun _ => .bool false) (fun k => .bool (chB X Y m (L + 1) k)) (by rfl) (Own.empty w3 4 _ (Nat.le_refl _)) ad 16 c3 w3.heap.size (by rfl) (D.below ((Below.refl _ _).alloc (Nat.le_refl _) _)) (fun _ _ => rfl) (by omega) (by simp) ?_; intro v4 w4 hown4 hb4; obtain ⟨A4, c4, rfl, hm4⟩ := hown4.made; obtain ⟨gx, rfl, hgx, hrx⟩ := hm4 (by omega); have x1 := hrx.cell (i := 0) (by omega); have x2 := hrx.frozen 0)
          have R2 := (hrx.set 0 (.bool true)).congr (f' := fun c => .bool (zeroB (chB X Y m (L + 1)) c)) (fun c _ => by unfold zeroB; by_cases e : c = 0 <;> simp [e])
          have B5 : Below w3.heap.size w3 (w4.setCell ⟨gx, 0, none⟩ (.bool true)) := (((Below.refl _ _).alloc (Nat.le_refl _) _).trans hb4).setCell (p := ⟨gx, 0, none⟩) hgx _
          clear hrx hm4 hown4 x1 x2 hb4 D
          generalize w4.setCell ⟨gx, 0, none⟩ (.bool true) = w5 at R2 B5 ⊢
          have D := R2.rd R2.lt
          have hA := hA.step B5
          have B := below_seq B B5
          clear R2 B5
          have C := c_TrackChannels (some ⟨b, 0, none⟩) m cc X Y (L : Int) w5 (by omega) hcc hA
          rw [tsOk_mk hv (by omega) (by omega), show len16 true = 16 from rfl] at C
          simp only [Int.toNat_natCast] at C
          refine C.mono ?_
          rintro e w6 ⟨A6, c6, rfl, b6, M6⟩
          have hA := hA.step b6
          have D := D.step b6
          have B := below_seq B b6
          have F := M6.rd
          clear C M6 b6
          obtain ⟨ay, rfl, hby, hcy⟩ := F (by omega)
          have F : Rd w6 w6.heap.size (some ay) 16 (fun k => .bool (chB X Y m L k)) := fun _ => ⟨ay, rfl, hby, hcy⟩
          clear hcy
          go_wp2_with (at_builtin; refine wpList_copy0 _ rfl (.tmp 61) (.tmp 62) 26 rfl w6.heap.size 4 (.bool false) 1 Try.underlying26 info_bool rfl (by omega) _ (fun _ => .bool false) (fun k => .bool (chB X Y m L k)) (by rfl) (Own.empty w6 4 _ (Nat.le_refl _)) ay 16 c6 w6.heap.size (by rfl) (F.below ((Below.refl _ _).alloc (Nat.le_refl _) _)) (fun _ _ => rfl) (by omega) (by simp) ?_; intro v7 w7 hown7 hb7; obtain ⟨A7, c7, rfl, hm7⟩ := hown7.made; obtain ⟨gy, rfl, hgy, hry⟩ := hm7 (by omega); have y1 := hry.cell (i := 0) (by omega); have y2 := hry.frozen 0)
          have R2 := (hry.set 0 (.bool true)).congr (f' := fun c => .bool (zeroB (chB X Y m L) c)) (fun c _ => by unfold zeroB; by_cases e : c = 0 <;> simp [e])
          have B5 : Below w6.heap.size w6 (w7.setCell ⟨gy, 0, none⟩ (.bool true)) := (((Below.refl _ _).alloc (Nat.le_refl _) _).trans hb7).setCell (p := ⟨gy, 0, none⟩) hgy _
          clear hry hm7 hown7 y1 y2 hb7 F
          generalize w7.setCell ⟨gy, 0, none⟩ (.bool true) = w8 at R2 B5 ⊢
          have F := R2.rd R2.lt
          have D := D.step B5
          have B := below_seq B B5
          clear R2 B5 hA
          have CM := c_many_sym (some ⟨gx, 0, none⟩) c4 (zeroB (chB X Y m (L + 1))) _ (zeroB_sym (SymB.ch X Y m (L + 1))) D
          rw [HK.out] at CM
          refine CM.mono ?_
          rintro e w' ⟨rfl, m9, rfl⟩
          have F := F.dr m9
          have B := below_drewN B m9
          generalize w8.drewN m9 = w9 at F B ⊢
          clear CM D
          have CM := c_many_sym (some ⟨gy, 0, none⟩) c7 (zeroB (chB X Y m L)) _ (zeroB_sym (SymB.ch X Y m L)) F
          have hN := HN.out
          generalize cmany (zeroB (chB X Y m L)) = z at hN CM
          go_wp2_with fail
          refine CM.mono ?_
          rintro e w' ⟨rfl, m10, rfl⟩
          have B := below_drewN B m10
          clear CM F
          go_wp2
          go_ret
          exact ⟨rfl, B⟩
    · have ht : tfB X Y m = -1 := by rw [tfB, if_neg hv]
      rw [ht]
      clear ht
      go_wp2
      go_ret
      exact ⟨rfl, B⟩
  · go_enter Try.func13, Try.ntmps13
    go_wp2
    go_ret
    exact ⟨rfl, Below.refl _ _⟩
set_option maxHeartbeats 2000000 in
theorem l_FnFullNone (A : Option Addr) (n c : Nat) (f : Nat → Int) (w : World) (h0 : Rd w w.heap.size A n (fun k => .int .u8 (f k))) (hb : ∀ i, 0 ≤ f i ∧ f i ≤ 255) (hnc : n ≤ c) :
    Calls Try.prog 3 #[.slice A n c] w fun e w' => e = .returned (.bool true) ∧ Below w.heap.size w w' := by
  by_cases hn : n ≤ 1048576
  · go_enter Try.func3, Try.ntmps3
    go_wp2_with fail
    refine (c_DrawTrackFull A n c f _ hn hnc ⟨h0, hb⟩).mono ?_
    rintro e w0 ⟨v, rfl, ⟨b, m, cc, X, Y, hbb, rfl, h1, h6, hcc, hR⟩, B⟩
    have hA : RdA w0 w0.heap.size (some ⟨b, 0, none⟩) m X Y := hR.rd hR.lt
    clear hR h0 hb hbb
    go_wp2_with fail
    refine (c_TrackFull (some ⟨b, 0, none⟩) m cc X Y _ (by omega) hcc hA).mono ?_
    rintro e w1 ⟨rfl, b1⟩
    have hA := hA.step b1
    have B := below_seq B b1
    go_wp2_with fail
    refine (c_sTrackFull (some ⟨b, 0, none⟩) m cc X Y _ (by omega) hA).mono ?_
    rintro e w2 ⟨rfl, b2⟩
    have hA := hA.step b2
    have B := below_seq B b2
    clear b1 b2
    by_cases hv : avB X Y m = true
    · have ht : tfB X Y m = tfN (fullB X Y m) := by rw [tfB, if_pos hv]
      rw [ht]
      obtain ⟨T, hT⟩ : ∃ T, tfN (fullB X Y m) = T := ⟨_, rfl⟩
      have hT' : (T = 0 ∧ cntB (chB X Y m 4) 15 < 15 ∧ tfB X Y (m - 1) ≤ 0) ∨ (0 < T ∧ T ≤ 4 ∧ cntB (chB X Y m 4) 15 = 15) := by
        rcases tfN_cases (fullB X Y m) with ⟨hz, -⟩ | ⟨K, K1, K4, hz, hK, hno⟩
        · exact .inl ⟨by omega, tf_none hz, tf_less hz⟩
        · exact .inr ⟨by omega, by omega, tf_some K4 hK⟩
      rw [hT]
      have hT0 : 0 ≤ T := by rcases hT' with ⟨h, -⟩ | ⟨h, -⟩ <;> omega
      have hT4 : T ≤ 4 := by rcases hT' with ⟨h, -⟩ | ⟨-, h, -⟩ <;> omega
      have HT := Lib.hid hT'
      clear ht hT hT'
      obtain ⟨⟨h2, h7⟩, hXY, -⟩ := avB_true hv
      clear hXY
      have hqq : (T == T) = true := by simp
      have C := c_TrackChannels (some ⟨b, 0, none⟩) m cc X Y 4 w2 (by omega) hcc hA
      rw [tsOk_mk hv (by omega) (by omega), show len16 true = 16 from rfl] at C
      simp only [show (4 : Int).toNat = 4 from rfl] at C
      have C := Lib.hid C
      go_wp2_with fail
      refine C.out.mono ?_
      rintro e w3 ⟨A3, c3, rfl, b3, M3⟩
      have hA := hA.step b3
      have B := below_seq B b3
      have D := M3.rd
      clear C M3 b3
      have hz1 : ((m - 1 : Nat) : Int) = (m : Int) - 1 := by omega
      go_wp2
      go_loopw [8, 9] (fun q p wr => ∃ k : Nat, k ≤ 15 ∧ p = .int .i64 ((k : Int) + 1) ∧ q = .int .i64 (cntB (chB X Y m 4) k) ∧ Below w3.heap.size w3 wr) (fun _ p _ => 17 - (intOf p).toNat)
      case atStart => exact ⟨0, by omega, rfl, rfl, Below.refl _ _⟩
      case round =>
        obtain ⟨k, hk, rfl, rfl, hb⟩ := hrel
        have cb := cntB_bd (chB X Y m 4) k
        obtain ⟨cb1, cb2⟩ := cb
        by_cases hlt : k < 15
        · have hlt' : (k : Int) + 1 < 16 := by omega
          obtain ⟨ad, ea, _, hc⟩ := (D.step hb) (by omega)
          have q1 : wr.cell? (ad.add (k + 1)) = some (.bool (chB X Y m 4 (k + 1))) := hc (k + 1) (by omega)
          subst ea
          have es : cntB (chB X Y m 4) (k + 1) = cntB (chB X Y m 4) k + uni (chB X Y m 4) (k + 1) := rfl
          clear hc
          obtain ⟨y, hy⟩ : ∃ y, chB X Y m 4 (k + 1) = y := ⟨_, rfl⟩
          have eu : uni (chB X Y m 4) (k + 1) = if y = true then 1 else 0 := by rw [uni, hy]
          rw [hy] at q1
          rw [eu] at es
          have ES := Lib.hid es
          clear hy eu es
          have q2 : wr.cell? ⟨ad.block, ad.off + (k + 1), none⟩ = some (.bool y) := q1
          generalize hq : cntB (chB X Y m 4) k = q at cb1 cb2 ES ⊢
          clear hq
          cases y with
          | true =>
            go_wp2
            go_roundw
            case rel => exact ⟨k + 1, by omega, by go_num, by rw [ES.out]; try go_num, hb⟩
            case measure => simp [intOf]; omega
          | false =>
            go_wp2
            go_roundw
            case rel => exact ⟨k + 1, by omega, by go_num, by rw [ES.out]; simp, hb⟩
            case measure => simp [intOf]; omega
        · have e : k = 15 := by omega
          subst e
          have hA := (hA.step hb).less (Nat.sub_le m 1)
          have B := below_seq B hb
          have C := c_TrackFull (some ⟨b, 0, none⟩) (m - 1) cc X Y _ (by omega) (by omega) hA
          have HT := HT.out
          generalize cntB (chB X Y m 4) 15 = q at cb1 cb2 HT ⊢
          generalize tfB X Y (m - 1) = z at C HT
          clear hA D
          rcases HT with ⟨rfl, hq, hz⟩ | ⟨hT, -, rfl⟩
          · go_wp2_with fail
            refine C.mono ?_
            rintro e w4 ⟨rfl, b4⟩
            have B := below_seq B b4
            clear C
            go_wp2
            go_ret
            exact ⟨rfl, B⟩
          · have hTb : (T == 0) = false := by simpa using (by omega : T ≠ 0)
            go_wp2_with fail
            refine C.mono ?_
            rintro e w4 ⟨rfl, b4⟩
            have B := below_seq B b4
            clear C
            go_wp2
            go_ret
            exact ⟨rfl, B⟩
    · have ht : tfB X Y m = -1 := by rw [tfB, if_neg hv]
      rw [ht]
      clear ht
      go_wp2
      go_ret
      exact ⟨rfl, B⟩
  · go_enter Try.func3, Try.ntmps3
    go_wp2
    go_ret
    exact ⟨rfl, Below.refl _ _⟩
end Go.Proofs.Ytpabcpiiolfakaa
